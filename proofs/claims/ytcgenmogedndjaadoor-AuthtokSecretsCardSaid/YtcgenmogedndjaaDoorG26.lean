/- The texts SpellRef, AuthTokRef, AuthMakeRef in one. -/
import Derived.Test.YtcgenmogedndjaaDoorG12
import Derived.Test.YtcgenmogedndjaaDoorG14
import Derived.Test.YtcgenmogedndjaaDoorG19
import Derived.Test.YtcgenmogedndjaaDoorG25
namespace Go.Proofs.YtcgenmogedndjaaDoor
open Go.RowKit Go.Proofs.YtcgenmogedndjaaDoorW.PrintWords
theorem grp6_step (P : List Int) (s : Nat) (h : s + 6 ≤ P.length) : grp6 (P.drop s) = alpha (vf 0 ((P.drop s).take 6)) :: grp6 (P.drop (s + 6)) := by
  rw [drop_cons P s (by omega), drop_cons P (s + 1) (by omega), drop_cons P (s + 2) (by omega), drop_cons P (s + 3) (by omega), drop_cons P (s + 4) (by omega), drop_cons P (s + 5) (by omega)]
  rfl
theorem six_drop (P : List Int) (s q j : Nat) (h : j < q) (hl : s + q ≤ P.length) : ((P.drop s).take q).drop j = rd P ((s + j : Nat) : Int) :: ((P.drop s).take q).drop (j + 1) := by
  rw [drop_cons _ j (by rw [List.length_take, List.length_drop]; omega)]
  congr 1
  unfold rd
  simp only [Int.toNat_natCast, List.getD_eq_getElem?_getD, List.getElem?_take, List.getElem?_drop]
  rw [if_pos h]
/-- How long a slice is. -/
def slen : Value → Nat
  | .slice _ m _ => m
  | _ => 0
theorem padded_Zo (B : List Int) (h : Zo B) : Zo (padded B) := h.app (Zo.zeros _)
set_option maxRecDepth 20000 in
set_option maxHeartbeats 4000000 in
theorem SpellRef_calls {n : Nat} (A0 : Option Addr) (c0 : Nat) (l0 : List Int) (w : World) (hr0 : Rd w A0 n l0) (hb0 : Bytes l0) (hs : n ≤ 1099511627776) :
    Calls Tryd.prog 56 #[.slice A0 n c0] w fun e w' => e = .returned (.string (strOfNums (sp3 l0))) ∧ Below w.heap.size w w' := by
  have HR := Lib.hid hr0
  have HY := Lib.hid hb0
  have HL := Lib.hid (Kd.C_len hr0)
  have HG := Lib.hid (grp6_sp3 l0 hb0)
  clear hr0 hb0
  go_enter Tryd.func56, Tryd.ntmps56
  go_wp2
  go_loopw [3, 13] (fun v i wr => ∃ k : Nat, k ≤ n ∧ i = .int .i64 k ∧ Hid (OwnI w wr v (bits8 (l0.take k))) ∧ Hid (Below w.heap.size w wr)) (fun _ i _ => n - (intOf i).toNat)
  case atStart => exact ⟨0, by omega, rfl, Lib.hid (OwnI.nil w w), Lib.hid (Below.refl _ _)⟩
  case round =>
    obtain ⟨k, hk, rfl, HO0, HB0⟩ := hrel
    by_cases hkn : k < n
    · have dkn : decide ((k : Int) < n) = true := decide_eq_true (by omega)
      obtain ⟨x, hx⟩ : ∃ x, x = rd l0 k := ⟨_, rfl⟩
      obtain ⟨x0, x1⟩ := bytes_rd HY.out k (by rw [HL.out]; exact hkn)
      rw [← hx] at x0 x1
      have HSN := Lib.hid (show bits8 (l0.take (k + 1)) = bits8 (l0.take k) ++ bitsN 8 x by rw [hx]; exact bits8_snoc l0 k (by rw [HL.out]; exact hkn))
      obtain ⟨ad, rfl, hcell⟩ := Rd.cells (Kd.C_below HR.out HB0.out) (by omega)
      have hxc := hcell k hkn
      rw [← hx] at hxc
      have hwx : IntKind.i64.wrap x = x := wrap_id (by omega) (by omega)
      clear hcell hx
      go_wp2
      clear hxc
      go_loopw [3, 6] (fun v i wr => ∃ j : Nat, j ≤ 8 ∧ i = .int .i64 ((j : Int) - 1) ∧ Hid (OwnI w wr v (bits8 (l0.take k) ++ (bitsN 8 x).take (8 - j))) ∧ Hid (Below w.heap.size w wr)) (fun _ i _ => (intOf i + 1).toNat)
      case atStart => exact ⟨8, by omega, by go_num, Lib.hid (HO0.out.cast (by simp)), HB0⟩
      case round =>
        obtain ⟨j, hj, rfl, HO, HB⟩ := hrel
        have hj8 : j = 0 ∨ j = 1 ∨ j = 2 ∨ j = 3 ∨ j = 4 ∨ j = 5 ∨ j = 6 ∨ j = 7 ∨ j = 8 := by omega
        rcases hj8 with rfl | rfl | rfl | rfl | rfl | rfl | rfl | rfl | rfl
        · have HO3 := Lib.hid (HO.out.cast (show _ = bits8 (l0.take (k + 1)) by rw [HSN.out, show (bitsN 8 x).take (8 - 0) = bitsN 8 x from List.take_of_length_le (by rw [bitsN_length]; exact Nat.le_refl 8)]))
          clear HO
          go_wp2
          go_roundw
          case rel => exact ⟨k + 1, by omega, by go_num, HO3, HB⟩
          case measure => simp [intOf]; omega
        · have HT := Lib.hid (bitsN_take 8 7 x (by omega))
          go_wp2_with (at_builtin; refine appi_one HO.out HB.out (by rw [List.length_append, List.length_take, bitsN_length, bits8_length, List.length_take]; omega) rfl rfl rfl rfl ?_)
          intro v3 w3 ho3 hb3 _ _
          have HO3 := Lib.hid (ho3.cast (show _ = bits8 (l0.take k) ++ (bitsN 8 x).take (8 - 0) by rw [show 8 - 0 = 7 + 1 from rfl, HT.out]; simp))
          have HB3 := Lib.hid hb3
          clear ho3 hb3
          go_wp2
          go_roundw
          case rel => exact ⟨0, by omega, by go_num, HO3, HB3⟩
          case measure => simp [intOf]
        · have HT := Lib.hid (bitsN_take 8 6 x (by omega))
          go_wp2_with (at_builtin; refine appi_one HO.out HB.out (by rw [List.length_append, List.length_take, bitsN_length, bits8_length, List.length_take]; omega) rfl rfl rfl rfl ?_)
          intro v3 w3 ho3 hb3 _ _
          have HO3 := Lib.hid (ho3.cast (show _ = bits8 (l0.take k) ++ (bitsN 8 x).take (8 - 1) by rw [show 8 - 1 = 6 + 1 from rfl, HT.out]; simp))
          have HB3 := Lib.hid hb3
          clear ho3 hb3
          go_wp2
          go_roundw
          case rel => exact ⟨1, by omega, by go_num, HO3, HB3⟩
          case measure => simp [intOf]
        · have HT := Lib.hid (bitsN_take 8 5 x (by omega))
          go_wp2_with (at_builtin; refine appi_one HO.out HB.out (by rw [List.length_append, List.length_take, bitsN_length, bits8_length, List.length_take]; omega) rfl rfl rfl rfl ?_)
          intro v3 w3 ho3 hb3 _ _
          have HO3 := Lib.hid (ho3.cast (show _ = bits8 (l0.take k) ++ (bitsN 8 x).take (8 - 2) by rw [show 8 - 2 = 5 + 1 from rfl, HT.out]; simp))
          have HB3 := Lib.hid hb3
          clear ho3 hb3
          go_wp2
          go_roundw
          case rel => exact ⟨2, by omega, by go_num, HO3, HB3⟩
          case measure => simp [intOf]
        · have HT := Lib.hid (bitsN_take 8 4 x (by omega))
          go_wp2_with (at_builtin; refine appi_one HO.out HB.out (by rw [List.length_append, List.length_take, bitsN_length, bits8_length, List.length_take]; omega) rfl rfl rfl rfl ?_)
          intro v3 w3 ho3 hb3 _ _
          have HO3 := Lib.hid (ho3.cast (show _ = bits8 (l0.take k) ++ (bitsN 8 x).take (8 - 3) by rw [show 8 - 3 = 4 + 1 from rfl, HT.out]; simp))
          have HB3 := Lib.hid hb3
          clear ho3 hb3
          go_wp2
          go_roundw
          case rel => exact ⟨3, by omega, by go_num, HO3, HB3⟩
          case measure => simp [intOf]
        · have HT := Lib.hid (bitsN_take 8 3 x (by omega))
          go_wp2_with (at_builtin; refine appi_one HO.out HB.out (by rw [List.length_append, List.length_take, bitsN_length, bits8_length, List.length_take]; omega) rfl rfl rfl rfl ?_)
          intro v3 w3 ho3 hb3 _ _
          have HO3 := Lib.hid (ho3.cast (show _ = bits8 (l0.take k) ++ (bitsN 8 x).take (8 - 4) by rw [show 8 - 4 = 3 + 1 from rfl, HT.out]; simp))
          have HB3 := Lib.hid hb3
          clear ho3 hb3
          go_wp2
          go_roundw
          case rel => exact ⟨4, by omega, by go_num, HO3, HB3⟩
          case measure => simp [intOf]
        · have HT := Lib.hid (bitsN_take 8 2 x (by omega))
          go_wp2_with (at_builtin; refine appi_one HO.out HB.out (by rw [List.length_append, List.length_take, bitsN_length, bits8_length, List.length_take]; omega) rfl rfl rfl rfl ?_)
          intro v3 w3 ho3 hb3 _ _
          have HO3 := Lib.hid (ho3.cast (show _ = bits8 (l0.take k) ++ (bitsN 8 x).take (8 - 5) by rw [show 8 - 5 = 2 + 1 from rfl, HT.out]; simp))
          have HB3 := Lib.hid hb3
          clear ho3 hb3
          go_wp2
          go_roundw
          case rel => exact ⟨5, by omega, by go_num, HO3, HB3⟩
          case measure => simp [intOf]
        · have HT := Lib.hid (bitsN_take 8 1 x (by omega))
          go_wp2_with (at_builtin; refine appi_one HO.out HB.out (by rw [List.length_append, List.length_take, bitsN_length, bits8_length, List.length_take]; omega) rfl rfl rfl rfl ?_)
          intro v3 w3 ho3 hb3 _ _
          have HO3 := Lib.hid (ho3.cast (show _ = bits8 (l0.take k) ++ (bitsN 8 x).take (8 - 6) by rw [show 8 - 6 = 1 + 1 from rfl, HT.out]; simp))
          have HB3 := Lib.hid hb3
          clear ho3 hb3
          go_wp2
          go_roundw
          case rel => exact ⟨6, by omega, by go_num, HO3, HB3⟩
          case measure => simp [intOf]
        · have HT := Lib.hid (bitsN_take 8 0 x (by omega))
          go_wp2_with (at_builtin; refine appi_one HO.out HB.out (by rw [List.length_append, List.length_take, bitsN_length, bits8_length, List.length_take]; omega) rfl rfl rfl rfl ?_)
          intro v3 w3 ho3 hb3 _ _
          have HO3 := Lib.hid (ho3.cast (show _ = bits8 (l0.take k) ++ (bitsN 8 x).take (8 - 7) by rw [show 8 - 7 = 0 + 1 from rfl, HT.out]; simp))
          have HB3 := Lib.hid hb3
          clear ho3 hb3
          go_wp2
          go_roundw
          case rel => exact ⟨7, by omega, by go_num, HO3, HB3⟩
          case measure => simp [intOf]
    · obtain rfl : k = n := by omega
      have dkn : decide ((k : Int) < k) = false := decide_eq_false (by omega)
      obtain ⟨B, hB⟩ : ∃ B, B = bits8 l0 := ⟨_, rfl⟩
      have hBL : B.length = 8 * k := by rw [hB, bits8_length, HL.out]
      have HZ := Lib.hid (show Zo (padded B) from padded_Zo B (hB ▸ bits8_Zo l0))
      rw [← hB] at HG
      have HO1 := Lib.hid (HO0.out.cast (show _ = B by rw [hB, List.take_of_length_le (by rw [HL.out]; exact Nat.le_refl _)]))
      have HBL := Lib.hid hBL
      clear hB HO0
      go_wp2
      obtain ⟨p, hp⟩ : ∃ p, p = (6 - B.length % 6) % 6 := ⟨_, rfl⟩
      have hp6 : p < 6 ∧ (8 * k + p) % 6 = 0 ∧ (∀ z, z < p → (8 * k + z) % 6 ≠ 0) := by rw [HBL.out] at hp; refine ⟨by omega, by omega, fun z hz => by omega⟩
      have HPE := Lib.hid (show B ++ List.replicate p 0 = padded B by rw [hp]; rfl)
      clear hp
      go_loopw [3] (fun v wr => ∃ z : Nat, z ≤ p ∧ Hid (OwnI w wr v (B ++ List.replicate z 0)) ∧ Hid (Below w.heap.size w wr)) (fun v _ => 8 * k + 6 - slen v)
      case atStart => exact ⟨0, by omega, Lib.hid (HO1.out.cast (by simp)), HB0⟩
      case round =>
        obtain ⟨z, hz, HO, HB⟩ := hrel
        obtain ⟨q, hq⟩ : ∃ q, q = 8 * k + z := ⟨_, rfl⟩
        have hlen : (B ++ List.replicate z 0).length = q := by rw [List.length_append, List.length_replicate, HBL.out, hq]
        have hql : q < 8 * k + 6 := by omega
        obtain ⟨A2, c2, rfl, hc2, hrd2⟩ := HO.out.reads
        rw [hlen] at hc2 hrd2 HO ⊢
        by_cases hzp : z < p
        · have hne := hp6.2.2 z hzp
          rw [← hq] at hne
          have d1 : ((q : Int) % 6 == 0) = false := beq_eq_false_iff_ne.2 (by omega)
          have d2 : ((q : Int) % 6 != 0) = true := by rw [bne, d1]; rfl
          have hL1 : (B ++ List.replicate z 0).length + 1 ≤ 17592186044416 := by rw [hlen]; omega
          have HZ3 := Lib.hid (show B ++ List.replicate z 0 ++ [0] = B ++ List.replicate (z + 1) 0 by rw [List.replicate_succ', List.append_assoc])
          have hlen3 : (B ++ List.replicate (z + 1) 0).length = q + 1 := by rw [List.length_append, List.length_replicate, HBL.out, hq]; omega
          have HLEN3 := Lib.hid hlen3
          clear hne hrd2 hq hlen hlen3
          go_wp2_with (at_builtin; refine appi_one HO.out HB.out hL1 rfl rfl rfl rfl ?_)
          intro v3 w3 ho3 hb3 _ _
          have HO3 := Lib.hid (ho3.cast (show _ = B ++ List.replicate (z + 1) 0 by rw [← HZ3.out]; simp only [List.append_assoc]))
          have HB3 := Lib.hid hb3
          clear ho3 hb3 HO HB
          obtain ⟨A3, c3, rfl, _, _⟩ := HO3.out.reads
          rw [HLEN3.out] at HO3 ⊢
          go_wp2
          go_roundw
          case rel => exact ⟨z + 1, by omega, HO3, HB3⟩
          case measure => simp [slen]; omega
        · obtain rfl : z = p := by omega
          have hq6 : q % 6 = 0 := by rw [hq]; exact hp6.2.1
          have d1 : ((q : Int) % 6 == 0) = true := beq_iff_eq.2 (by omega)
          have d2 : ((q : Int) % 6 != 0) = false := by rw [bne, d1]; rfl
          rw [HPE.out] at HO hrd2 hlen
          obtain ⟨P, hP⟩ : ∃ P, P = padded B := ⟨_, rfl⟩
          rw [← hP] at HG HO hrd2 hlen HZ
          have HRP := Lib.hid hrd2
          have HLP := Lib.hid hlen
          obtain ⟨w2, hw2⟩ : ∃ w2, w2 = wr := ⟨_, rfl⟩
          rw [← hw2] at HRP HB ⊢
          clear hrd2 hlen HO hP hp6 HPE hq hw2 HO1 HBL
          go_wp2
          go_loopw [7, 8] (fun v i wr => ∃ (g : Nat) (O : List Int), 6 * g ≤ q ∧ i = .int .i64 ((6 * g : Nat) : Int) ∧ Hid (Own w2 wr v O) ∧ Hid (Below w2.heap.size w2 wr) ∧ Hid (O ++ grp6 (P.drop (6 * g)) = sp3 l0) ∧ O.length = g) (fun _ i _ => q - (intOf i).toNat)
          case atStart => exact ⟨0, [], by omega, rfl, Lib.hid (Own.nil w2 w2), Lib.hid (Below.refl _ _), Lib.hid (by rw [Nat.mul_zero, List.drop_zero, List.nil_append, HG.out]), rfl⟩
          case round =>
            obtain ⟨g, O, hg, rfl, HO, HB2, HS, hOl⟩ := hrel
            have hOl1 : O.length + 1 ≤ 140737488355328 := by omega
            have HOL := Lib.hid hOl
            clear hOl
            obtain ⟨s, hsg⟩ : ∃ s, s = 6 * g := ⟨_, rfl⟩
            rw [← hsg] at hg HS ⊢
            have hsm : s % 6 = 0 := by omega
            have HSG := Lib.hid hsg
            clear hsg
            by_cases hsq : s < q
            · have dsq : decide ((s : Int) < q) = true := decide_eq_true (by omega)
              have hs6 : s + 6 ≤ q := by omega
              have HGS := Lib.hid (grp6_step P s (by rw [HLP.out]; exact hs6))
              have H6 := Lib.hid (fun j hj => six_drop P s 6 j hj (by rw [HLP.out]; exact hs6))
              have HSL := Lib.hid (show ((P.drop s).take 6).length = 6 by rw [List.length_take, List.length_drop, HLP.out]; omega)
              obtain ⟨six, hsix⟩ : ∃ six, six = (P.drop s).take 6 := ⟨_, rfl⟩
              rw [← hsix] at HGS H6 HSL
              obtain ⟨V, hV⟩ : ∃ V, V = vf 0 six := ⟨_, rfl⟩
              rw [← hV] at HGS
              have HV := Lib.hid hV
              obtain ⟨ad2, rfl, hcell⟩ := RdI.cells (Kd.C_below HRP.out HB2.out) (by omega)
              have HCELL := Lib.hid hcell
              clear hsix hV hcell
              go_wp2
              go_loopw [9, 43] (fun nv i wr' => wr = wr' ∧ ∃ (j : Nat) (m : Int), j ≤ 6 ∧ i = .int .i64 j ∧ nv = .int .i64 m ∧ 0 ≤ m ∧ ((j = 0 → m < 1) ∧ (j = 1 → m < 2) ∧ (j = 2 → m < 4) ∧ (j = 3 → m < 8) ∧ (j = 4 → m < 16) ∧ (j = 5 → m < 32) ∧ (j = 6 → m < 64)) ∧ Hid (vf m (six.drop j) = V)) (fun _ i _ => 6 - (intOf i).toNat)
              case atStart => exact ⟨by first | rfl | trivial, 0, 0, by omega, rfl, rfl, by omega, by omega, Lib.hid (by rw [List.drop_zero, HV.out])⟩
              case round =>
                obtain ⟨rfl, j, m, hj, rfl, rfl, m0, mB, HVF⟩ := hrel
                by_cases hj6 : j < 6
                · have dj : decide ((j : Int) < 6) = true := decide_eq_true (by omega)
                  obtain ⟨b, hb⟩ : ∃ b, b = rd P ((s + j : Nat) : Int) := ⟨_, rfl⟩
                  have hx := HCELL.out (s + j) (by omega)
                  obtain ⟨b0, b1⟩ := HZ.out.rd (s + j) (by rw [HLP.out]; omega)
                  have HVF2 := Lib.hid (show vf (2 * m + b) (six.drop (j + 1)) = V by rw [← HVF.out, H6.out j hj6, ← hb]; rfl)
                  rw [← hb] at hx b0 b1
                  clear hb
                  have hw1 : IntKind.i64.wrap (2 * m) = 2 * m := wrap_id (by omega) (by omega)
                  have hw2 : IntKind.i64.wrap ((s : Int) + j) = s + j := wrap_id (by omega) (by omega)
                  have hw3 : IntKind.i64.wrap (2 * m + b) = 2 * m + b := wrap_id (by omega) (by omega)
                  have i0 : (0 : Int) ≤ (s : Int) + j := by omega
                  have i1 : (s : Int) + j < q := by omega
                  have i2 : ((s : Int) + j).toNat = s + j := by omega
                  go_wp2
                  go_roundw
                  case rel => exact ⟨by first | rfl | trivial, j + 1, 2 * m + b, by omega, by go_num, by first | rfl | (rw [hw3]), by omega, by omega, HVF2⟩
                  case measure => simp [intOf]; omega
                · obtain rfl : j = 6 := by omega
                  have hVm : V = m := by rw [← HVF.out, List.drop_of_length_le (by rw [HSL.out]; exact Nat.le_refl _)]; rfl
                  have HS2 := Lib.hid (show O ++ [alpha m] ++ grp6 (P.drop (s + 6)) = sp3 l0 by rw [← HS.out, HGS.out, hVm, List.append_assoc]; rfl)
                  have hm64 : m < 64 := by omega
                  clear hVm mB
                  go_wp2_with fail
                  refine (letter_calls m _ m0 hm64).mono ?_
                  rintro e w4 ⟨rfl, hd4⟩
                  have HB4 := Lib.hid (below_step HB2.out hd4.below)
                  have HO4 := Lib.hid (HO.out.below hd4.below)
                  clear hd4
                  go_wp2_with (at_builtin; refine app_one HO4.out HB4.out hOl1 rfl rfl rfl rfl ?_)
                  intro v5 w5 ho5 hb5 _ _
                  have HO5 := Lib.hid ho5
                  have HB5 := Lib.hid hb5
                  clear ho5 hb5
                  go_wp2
                  go_roundw
                  case rel => exact ⟨g + 1, O ++ [alpha m], by have := HSG.out; omega, by have := HSG.out; go_num, HO5, HB5, by rw [show 6 * (g + 1) = s + 6 by have := HSG.out; omega]; exact HS2, by rw [List.length_append, HOL.out]; rfl⟩
                  case measure => simp [intOf]; omega
            · obtain rfl : s = q := by omega
              have dsq : decide ((s : Int) < s) = false := decide_eq_false (by omega)
              have HE := Lib.hid (show O = sp3 l0 by rw [← HS.out, List.drop_of_length_le (by rw [HLP.out]; exact Nat.le_refl _)]; simp [grp6])
              obtain ⟨A4, c4, rfl, hc4, hrd4⟩ := HO.out.reads
              have ks := fun a => Kd.C_string (P := Tryd.prog) (src := 34) (dst := 9) (e := 5) Tryd.underlying34 Tryd.underlying5 Tryd.underlying9 (c := c4) (Kd.C_drewN hrd4 a)
              have ks0 := Kd.C_string (P := Tryd.prog) (src := 34) (dst := 9) (e := 5) Tryd.underlying34 Tryd.underlying5 Tryd.underlying9 (c := c4) hrd4
              clear hrd4
              go_wp2
              go_ret
              exact ⟨congrArg (fun x => Ending.returned (Value.string (strOfNums x))) HE.out, below_step HB.out HB2.out⟩
end Go.Proofs.YtcgenmogedndjaaDoor
namespace Go.Proofs.YtcgenmogedndjaaDoor
open Go.RowKit Go.Proofs.YtcgenmogedndjaaDoorW.PrintWords
set_option maxHeartbeats 1600000 in
theorem claim_calls (a b : ByteArray) (u : Int) (w : World) (ha : a.size ≤ 65536) (hb : b.size ≤ 65536) :
    Calls Tryd.prog 34 #[.agg #[.string a, .string b, .int .i64 u]] w fun e w' => e = .returned (.int .i64 (clmE ⟨a, b, u⟩)) ∧ Below w.heap.size w w' := by
  obtain ⟨R, hR⟩ : ∃ R, R = clmE ⟨a, b, u⟩ := ⟨_, rfl⟩
  rw [← hR]
  have HRR := Lib.hid hR
  obtain ⟨g, hg⟩ : ∃ g, g = w.heap.size := ⟨_, rfl⟩
  obtain ⟨W0, hW0⟩ : ∃ W0, W0 = w.alloc (.cells #[.string a, .string b, .int .i64 u] 24) := ⟨_, rfl⟩
  have hbw : Below w.heap.size w W0 := by rw [hW0]; exact below_alloc (Below.refl _ _) _
  have hhp : W0.heap[g]? = some (.cells #[.string a, .string b, .int .i64 u] 24) := by rw [hW0, hg]; exact heap_alloc_new w _
  have x0 : W0.cell? ⟨g, 0, none⟩ = some (.string a) := by simp [World.cell?, hhp]
  have x1 : W0.cell? ⟨g, 1, none⟩ = some (.string b) := by simp [World.cell?, hhp]
  have x2 : W0.cell? ⟨g, 2, none⟩ = some (.int .i64 u) := by simp [World.cell?, hhp]
  have HS := Lib.hid (show g = w.heap.size ∧ W0 = w.alloc _ from ⟨hg, hW0⟩)
  have HB := Lib.hid hbw
  have HU := Lib.hid (And.intro ha hb)
  clear hR hg hW0 hbw hhp ha hb
  cases h1 : nameB a with
  | false =>
    have HE := Lib.hid (show R = 6 by rw [HRR.out]; exact clmE_name1 h1)
    have HN1 := Lib.hid h1
    clear h1
    go_enter Tryd.func34, Tryd.ntmps34
    go_wp2_with fail
    rw [← HS.out.1, ← HS.out.2]
    refine (NameRef_calls a _ (by have := HU.out; omega)).mono ?_
    rintro e w1 ⟨rfl, rfl⟩
    rw [HN1.out]
    go_wp2
    go_ret
    exact ⟨by rw [HE.out]; rfl, HB.out⟩
  | true =>
    have HN1 := Lib.hid h1
    cases h2 : nameB b with
    | false =>
      have HE := Lib.hid (show R = 6 by rw [HRR.out]; exact clmE_name2 h2)
      have HN2 := Lib.hid h2
      clear h1 h2
      go_enter Tryd.func34, Tryd.ntmps34
      go_wp2_with fail
      rw [← HS.out.1, ← HS.out.2]
      refine (NameRef_calls a _ (by have := HU.out; omega)).mono ?_
      rintro e w1 ⟨rfl, rfl⟩
      rw [HN1.out]
      go_wp2_with fail
      refine (NameRef_calls b _ (by have := HU.out; omega)).mono ?_
      rintro e w2 ⟨rfl, rfl⟩
      rw [HN2.out]
      go_wp2
      go_ret
      exact ⟨by rw [HE.out]; rfl, HB.out⟩
    | true =>
      have HN2 := Lib.hid h2
      by_cases hlo : u < 0
      · have HE := Lib.hid (show R = 1 by rw [HRR.out]; exact clmE_time h1 h2 (by omega))
        have d1 : decide (u < 0) = true := decide_eq_true hlo
        clear h1 h2 hlo
        go_enter Tryd.func34, Tryd.ntmps34
        go_wp2_with fail
        rw [← HS.out.1, ← HS.out.2]
        refine (NameRef_calls a _ (by have := HU.out; omega)).mono ?_
        rintro e w1 ⟨rfl, rfl⟩
        rw [HN1.out]
        go_wp2_with fail
        refine (NameRef_calls b _ (by have := HU.out; omega)).mono ?_
        rintro e w2 ⟨rfl, rfl⟩
        rw [HN2.out]
        go_wp2
        go_ret
        exact ⟨by rw [HE.out]; rfl, HB.out⟩
      have hlo1 := hlo
      clear hlo
      by_cases hlo : 1099511627776 < u
      · have HE := Lib.hid (show R = 1 by rw [HRR.out]; exact clmE_time h1 h2 (by omega))
        have d1 : decide (u < 0) = false := decide_eq_false (by omega)
        have d2 : decide (1099511627776 < u) = true := decide_eq_true hlo
        clear h1 h2 hlo
        go_enter Tryd.func34, Tryd.ntmps34
        go_wp2_with fail
        rw [← HS.out.1, ← HS.out.2]
        refine (NameRef_calls a _ (by have := HU.out; omega)).mono ?_
        rintro e w1 ⟨rfl, rfl⟩
        rw [HN1.out]
        go_wp2_with fail
        refine (NameRef_calls b _ (by have := HU.out; omega)).mono ?_
        rintro e w2 ⟨rfl, rfl⟩
        rw [HN2.out]
        go_wp2
        go_ret
        exact ⟨by rw [HE.out]; rfl, HB.out⟩
      have hlo2 := hlo
      clear hlo
      have HE := Lib.hid (show R = 0 by rw [HRR.out]; exact clmE_ok h1 h2 (by omega))
      have d1 : decide (u < 0) = false := decide_eq_false hlo1
      have d2 : decide (1099511627776 < u) = false := decide_eq_false hlo2
      clear h1 h2 hlo1 hlo2
      go_enter Tryd.func34, Tryd.ntmps34
      go_wp2_with fail
      rw [← HS.out.1, ← HS.out.2]
      refine (NameRef_calls a _ (by have := HU.out; omega)).mono ?_
      rintro e w1 ⟨rfl, rfl⟩
      rw [HN1.out]
      go_wp2_with fail
      refine (NameRef_calls b _ (by have := HU.out; omega)).mono ?_
      rintro e w2 ⟨rfl, rfl⟩
      rw [HN2.out]
      go_wp2
      go_ret
      exact ⟨by rw [HE.out]; rfl, HB.out⟩
set_option maxRecDepth 20000 in
set_option maxHeartbeats 1600000 in
theorem token_calls {n : Nat} (id : Int) (A : Option Addr) (cA : Nat) (key : List Int) (a b : ByteArray) (u : Int) (w : World) (hr : Rd w A n key) (hk : Bytes key) (hn : n ≤ 1099511627776) (hi : -9223372036854775808 ≤ id ∧ id ≤ 9223372036854775807) (ha : a.size ≤ 65536) (hb : b.size ≤ 65536) (hu : -9223372036854775808 ≤ u ∧ u ≤ 9223372036854775807) :
    Calls Tryd.prog 35 #[.agg #[.int .i64 id, .slice A n cA], .agg #[.string a, .string b, .int .i64 u]] w fun e w' => e = .returned (.string (tokS ⟨id, key⟩ ⟨a, b, u⟩)) ∧ Below w.heap.size w w' := by
  obtain ⟨g1, hg1⟩ : ∃ g, g = w.heap.size := ⟨_, rfl⟩
  obtain ⟨g2, hg2⟩ : ∃ g, g = g1 + 1 := ⟨_, rfl⟩
  obtain ⟨W0, hW0⟩ : ∃ W0, W0 = w.alloc (.cells #[.int .i64 id, .slice A n cA] 42) := ⟨_, rfl⟩
  obtain ⟨W1, hW1⟩ : ∃ W1, W1 = W0.alloc (.cells #[.string a, .string b, .int .i64 u] 24) := ⟨_, rfl⟩
  have hz0 : W0.heap.size = g2 := by rw [hW0, size_alloc, hg2, hg1]
  have hb0 : Below w.heap.size w W0 := by rw [hW0]; exact below_alloc (Below.refl _ _) _
  have hb01 : Below W0.heap.size W0 W1 := by rw [hW1]; exact below_alloc (Below.refl _ _) _
  have hb1 := below_step hb0 hb01
  have hp0 : W0.heap[g1]? = some (.cells #[.int .i64 id, .slice A n cA] 42) := by rw [hW0, hg1]; exact heap_alloc_new w _
  have hp1 : W1.heap[g2]? = some (.cells #[.string a, .string b, .int .i64 u] 24) := by rw [hW1, ← hz0]; exact heap_alloc_new W0 _
  have x0 : W1.cell? ⟨g1, 0, none⟩ = some (.int .i64 id) := pw_cell_below hb01 (by simp [World.cell?, hp0])
  have x1 : W1.cell? ⟨g1, 1, none⟩ = some (.slice A n cA) := pw_cell_below hb01 (by simp [World.cell?, hp0])
  have y0 : W1.cell? ⟨g2, 0, none⟩ = some (.string a) := by simp [World.cell?, hp1]
  have y1 : W1.cell? ⟨g2, 1, none⟩ = some (.string b) := by simp [World.cell?, hp1]
  have y2 : W1.cell? ⟨g2, 2, none⟩ = some (.int .i64 u) := by simp [World.cell?, hp1]
  have HB1 := Lib.hid hb1
  have HS := Lib.hid (show g1 = w.heap.size ∧ g2 = g1 + 1 ∧ W0 = w.alloc _ ∧ W1 = W0.alloc _ from ⟨hg1, hg2, hW0, hW1⟩)
  have HX := Lib.hid x1
  obtain ⟨P, hP⟩ : ∃ P, P = payL id ⟨a, b, u⟩ := ⟨_, rfl⟩
  have hPl := payL_length id ⟨a, b, u⟩
  rw [← hP] at hPl
  obtain ⟨M, hM⟩ : ∃ M, M = mac key P := ⟨_, rfl⟩
  have HI := Lib.hid (show Rd W1 A n key ∧ Bytes key ∧ n ≤ 1099511627776 ∧ P.length ≤ 131108 ∧ Bytes P from ⟨Kd.C_below hr hb1, hk, hn, by simp at hPl; omega, by rw [hP]; exact payL_Bytes _ _⟩)
  have HP := Lib.hid (show payL id ⟨a, b, u⟩ = P from hP.symm)
  have HM := Lib.hid (show mac key P = M ∧ M.length = 32 ∧ Bytes M from ⟨hM.symm, by rw [hM]; exact mac_length _ _, by rw [hM]; exact mac_Bytes _ _⟩)
  have HU := Lib.hid (show (-9223372036854775808 ≤ id ∧ id ≤ 9223372036854775807) ∧ a.size ≤ 1099511627776 ∧ b.size ≤ 1099511627776 ∧ (-9223372036854775808 ≤ u ∧ u ≤ 9223372036854775807) from ⟨hi, by omega, by omega, hu⟩)
  obtain ⟨S1, hS1⟩ : ∃ S, S = strOfNums (sp3 P) := ⟨_, rfl⟩
  obtain ⟨S2, hS2⟩ : ∃ S, S = strOfNums (sp3 M) := ⟨_, rfl⟩
  obtain ⟨S3, hS3⟩ : ∃ S, S = S1 ++ (⟨#[46]⟩ : ByteArray) := ⟨_, rfl⟩
  have z1 : S1.size ≤ 174812 := by rw [hS1, strOf_size, sp3_length]; simp at hPl; omega
  have z2 : S2.size ≤ 43 := by rw [hS2, strOf_size, sp3_length, HM.out.2.1]; decide
  have z3 : S3.size = S1.size + 1 := by rw [hS3, ByteArray.size_append]; rfl
  have add1 : ∀ W, (Op.stringOp .add S1 ⟨#[46]⟩).run Tryd.prog W = .ok (.string S3) W := fun W => by rw [hS3]; exact run_add_ _ _ _ _ (by show S1.size + 1 ≤ _; omega)
  have add2 : ∀ W, (Op.stringOp .add S3 S2).run Tryd.prog W = .ok (.string (S3 ++ S2)) W := fun W => run_add_ _ _ _ _ (by omega)
  have HSS := Lib.hid (show strOfNums (sp3 P) = S1 ∧ strOfNums (sp3 M) = S2 ∧ S3 ++ S2 = tokS ⟨id, key⟩ ⟨a, b, u⟩ from ⟨hS1.symm, hS2.symm, by rw [hS3, hS1, hS2, hM, hP]; rfl⟩)
  clear hS1 hS2 hS3 z1 z2 z3
  clear hr hk hn hi ha hb hu hg1 hg2 hz0 hb0 hb01 hb1 hp0 hp1 hW0 hW1 hP hM hPl
  obtain ⟨L1, hL1⟩ : ∃ L, L = numForm id := ⟨_, rfl⟩
  obtain ⟨L2, hL2⟩ : ∃ L, L = L1 ++ textForm a := ⟨_, rfl⟩
  obtain ⟨L3, hL3⟩ : ∃ L, L = L2 ++ textForm b := ⟨_, rfl⟩
  have hP3 : L3 ++ numForm u = P := by rw [← HP.out, hL3, hL2, hL1]; rfl
  have n3 : L3.length ≤ P.length := by rw [← hP3, List.length_append]; omega
  have n2 : L2.length ≤ L3.length := by rw [hL3, List.length_append]; omega
  have n1 : L1.length ≤ L2.length := by rw [hL2, List.length_append]; omega
  have HLL := Lib.hid (show [] ++ numForm id = L1 ∧ L1 ++ textForm a = L2 ∧ L2 ++ textForm b = L3 ∧ L3 ++ numForm u = P ∧ L1.length ≤ 131108 ∧ L2.length ≤ 131108 ∧ L3.length ≤ 131108 from ⟨by rw [hL1]; rfl, hL2.symm, hL3.symm, hP3, by have := HI.out; omega, by have := HI.out; omega, by have := HI.out; omega⟩)
  clear hL1 hL2 hL3 hP3 n1 n2 n3
  go_enter Tryd.func35, Tryd.ntmps35
  go_wp2_with fail
  rw [← HS.out.1, ← HS.out.2.2.1, ← HS.out.2.2.2, ← HS.out.2.1]
  refine (NumberRef_calls none 0 [] id _ (Rd.empty _ _) (by omega) HU.out.1.1 HU.out.1.2).mono ?_
  rintro e w2 ⟨v2, rfl, ho2, hb2⟩
  replace ho2 := ho2.cast HLL.out.1
  obtain ⟨A2, c2, rfl, _, hr2⟩ := ho2.reads
  have H2 := Lib.hid (show Below W1.heap.size W1 w2 ∧ Rd w2 A2 L1.length L1 from ⟨hb2, hr2⟩)
  replace y0 := pw_cell_below hb2 y0
  replace y1 := pw_cell_below hb2 y1
  replace y2 := pw_cell_below hb2 y2
  replace x1 := pw_cell_below hb2 x1
  clear ho2 hr2 hb2 x0
  go_wp2_with fail
  refine (TextRef_calls _ _ _ a _ H2.out.2 (by have := HLL.out; have := HU.out; omega)).mono ?_
  rintro e w3 ⟨v3, rfl, ho3, hb3⟩
  replace ho3 := ho3.cast HLL.out.2.1
  obtain ⟨A3, c3, rfl, _, hr3⟩ := ho3.reads
  have H3 := Lib.hid (show Below W1.heap.size W1 w3 ∧ Rd w3 A3 L2.length L2 from ⟨below_step H2.out.1 hb3, hr3⟩)
  replace y1 := pw_cell_below hb3 y1
  replace y2 := pw_cell_below hb3 y2
  replace x1 := pw_cell_below hb3 x1
  clear ho3 hr3 hb3 y0
  go_wp2_with fail
  refine (TextRef_calls _ _ _ b _ H3.out.2 (by have := HLL.out; have := HU.out; omega)).mono ?_
  rintro e w4 ⟨v4, rfl, ho4, hb4⟩
  replace ho4 := ho4.cast HLL.out.2.2.1
  obtain ⟨A4, c4, rfl, _, hr4⟩ := ho4.reads
  have H4 := Lib.hid (show Below W1.heap.size W1 w4 ∧ Rd w4 A4 L3.length L3 from ⟨below_step H3.out.1 hb4, hr4⟩)
  replace y2 := pw_cell_below hb4 y2
  replace x1 := pw_cell_below hb4 x1
  clear ho4 hr4 hb4 y1
  go_wp2_with fail
  refine (NumberRef_calls _ _ _ u _ H4.out.2 (by have := HLL.out; omega) HU.out.2.2.2.1 HU.out.2.2.2.2).mono ?_
  rintro e w5 ⟨v5, rfl, ho5, hb5⟩
  replace ho5 := ho5.cast HLL.out.2.2.2.1
  obtain ⟨A5, c5, rfl, _, hr5⟩ := ho5.reads
  have H5 := Lib.hid (show Below W1.heap.size W1 w5 ∧ Rd w5 A5 P.length P from ⟨below_step H4.out.1 hb5, hr5⟩)
  replace x1 := pw_cell_below hb5 x1
  clear ho5 hr5 hb5 y2
  go_wp2_with fail
  have H5d := Lib.hid (show Below W1.heap.size W1 w5.drew ∧ Rd w5.drew A5 P.length P from ⟨below_drew H5.out.1, Kd.C_below H5.out.2 (below_drew (Below.refl _ _))⟩)
  go_region_held3 (fun w' => w'.cell? ⟨g1, 1, none⟩ = some (.slice A n cA))
    (first | exact x1 | exact pw_cell_below HB8.out.2 x1 | exact pw_cell_below HB7.out.2 x1 | exact pw_cell_below HB6.out.2 x1)
    (first
      | (go_at_call 56; with_reducible refine (SpellRef_calls _ _ _ _ HM7.out HM.out.2.2 (by rw [HM.out.2.1]; decide)).mono ?_; rintro e w8 ⟨rfl, hb8⟩; rw [HSS.out.2.1]; have HB8 := Lib.hid (show Below W1.heap.size W1 w8 ∧ Below w5.heap.size w5 w8 from ⟨below_step HB7.out.1 hb8, below_step HB7.out.2 hb8⟩); clear hb8)
      | (go_at_call 57; with_reducible refine (MacRef_calls A cA key A5 c5 P w6 (Kd.C_below HI.out.1 HB6.out.1) HI.out.2.1 HI.out.2.2.1 (Kd.C_below H5.out.2 HB6.out.2) HI.out.2.2.2.2 (by have := HI.out; omega)).mono ?_; rintro e w7 ⟨v7, rfl, ho7, hb7⟩; rw [HM.out.1] at ho7; obtain ⟨A7, c7, rfl, _, hr7⟩ := ho7.reads; have HM7 := Lib.hid hr7; have HB7 := Lib.hid (show Below W1.heap.size W1 w7 ∧ Below w5.heap.size w5 w7 from ⟨below_step HB6.out.1 hb7, below_step HB6.out.2 hb7⟩); clear ho7 hb7 hr7)
      | (go_at_call 56; with_reducible refine (SpellRef_calls _ _ _ _ H5d.out.2 HI.out.2.2.2.2 (by have := HI.out; omega)).mono ?_; rintro e w6 ⟨rfl, hb6⟩; rw [HSS.out.1]; have HB6 := Lib.hid (show Below W1.heap.size W1 w6 ∧ Below w5.heap.size w5 w6 from ⟨below_step H5d.out.1 hb6, below_step (below_drew (Below.refl _ _)) hb6⟩); clear hb6))
  go_wp2
  go_ret
  exact ⟨by rw [HSS.out.2.2]; rfl, below_step HB1.out HB8.out.1⟩
end Go.Proofs.YtcgenmogedndjaaDoor
namespace Go.Proofs.YtcgenmogedndjaaDoor
open Go.RowKit Go.Proofs.YtcgenmogedndjaaDoorW.PrintWords
set_option maxHeartbeats 3200000 in
theorem MakeRef_calls {n : Nat} (A0 : Option Addr) (c0 : Nat) (L : List Sec) (a b : ByteArray) (u : Int) (w : World) (hr0 : RdS w A0 n L) (hok : SecOk L) (ha : a.size ≤ 65536) (hb : b.size ≤ 65536) (hu : -9223372036854775808 ≤ u ∧ u ≤ 9223372036854775807) :
    Calls Tryd.prog 18 #[.slice A0 n c0, .agg #[.string a, .string b, .int .i64 u]] w fun e w' => e = .returned (.tuple #[.string (makeR L ⟨a, b, u⟩).1, .int .i64 (makeR L ⟨a, b, u⟩).2]) ∧ Below w.heap.size w w' := by
  have hlen : L.length = n := Kd.C_len hr0
  have hmax := Kd.C_max hr0
  obtain ⟨R, hR⟩ : ∃ R, R = makeR L ⟨a, b, u⟩ := ⟨_, rfl⟩
  rw [← hR]
  have HRR := Lib.hid hR
  obtain ⟨g, hg⟩ : ∃ g, g = w.heap.size := ⟨_, rfl⟩
  obtain ⟨W0, hW0⟩ : ∃ W0, W0 = w.alloc (.cells #[.string a, .string b, .int .i64 u] 24) := ⟨_, rfl⟩
  have hbw : Below w.heap.size w W0 := by rw [hW0]; exact below_alloc (Below.refl _ _) _
  have hhp : W0.heap[g]? = some (.cells #[.string a, .string b, .int .i64 u] 24) := by rw [hW0, hg]; exact heap_alloc_new w _
  have x0 : W0.cell? ⟨g, 0, none⟩ = some (.string a) := by simp [World.cell?, hhp]
  have x1 : W0.cell? ⟨g, 1, none⟩ = some (.string b) := by simp [World.cell?, hhp]
  have x2 : W0.cell? ⟨g, 2, none⟩ = some (.int .i64 u) := by simp [World.cell?, hhp]
  have HX := Lib.hid (And.intro x0 (And.intro x1 x2))
  have HS := Lib.hid (show g = w.heap.size ∧ W0 = w.alloc _ from ⟨hg, hW0⟩)
  have HI := Lib.hid (show RdS W0 A0 n L ∧ SecOk L ∧ Below w.heap.size w W0 ∧ L.length = n from ⟨Kd.C_below hr0 hbw, hok, hbw, hlen⟩)
  have HU := Lib.hid (show a.size ≤ 65536 ∧ b.size ≤ 65536 ∧ (-9223372036854775808 ≤ u ∧ u ≤ 9223372036854775807) from ⟨ha, hb, hu⟩)
  clear x0 x1 x2 hR hg hW0 hbw hhp hr0 hok ha hb hu hlen hmax
  cases hc : checkB L with
  | false =>
    have HE := Lib.hid (show R = (ByteArray.empty, 102) by rw [HRR.out]; exact makeR_bad hc)
    have HC := Lib.hid (checkE_no hc)
    clear hc
    go_enter Tryd.func18, Tryd.ntmps18
    go_wp2_with fail
    rw [← HS.out.1, ← HS.out.2]
    refine (CheckRef_calls _ _ _ _ HI.out.1).mono ?_
    rintro e w1 ⟨rfl, hb1⟩
    have HB1 := Lib.hid hb1
    have y0 := pw_cell_below hb1 HX.out.1
    have y1 := pw_cell_below hb1 HX.out.2.1
    have y2 := pw_cell_below hb1 HX.out.2.2
    rw [HC.out]
    clear hb1
    go_wp2
    go_ret2
    exact ⟨by rw [HE.out]; rfl, below_step HI.out.2.2.1 HB1.out⟩
  | true =>
    have HC := Lib.hid (checkE_yes hc)
    have HCB := Lib.hid hc
    obtain ⟨E, hE⟩ : ∃ E, E = clmE ⟨a, b, u⟩ := ⟨_, rfl⟩
    by_cases h0 : E = 0
    case' neg =>
      have HE := Lib.hid (show R = (ByteArray.empty, E) by rw [HRR.out]; exact makeR_clm hc hE.symm h0)
      have HEE := Lib.hid hE
      have d1 : (E != 0) = true := bne_iff_ne.2 h0
      have d2 : (E == 0) = false := beq_eq_false_iff_ne.2 h0
      clear hc h0 hE
      go_enter Tryd.func18, Tryd.ntmps18
      go_wp2_with fail
      rw [← HS.out.1, ← HS.out.2]
      refine (CheckRef_calls _ _ _ _ HI.out.1).mono ?_
      rintro e w1 ⟨rfl, hb1⟩
      have HB1 := Lib.hid hb1
      have y0 := pw_cell_below hb1 HX.out.1
      have y1 := pw_cell_below hb1 HX.out.2.1
      have y2 := pw_cell_below hb1 HX.out.2.2
      rw [HC.out]
      clear hb1
      go_wp2_with fail
      refine (claim_calls a b u _ HU.out.1 HU.out.2.1).mono ?_
      rintro e w2 ⟨rfl, hb2⟩
      have HB2 := Lib.hid (below_step HB1.out hb2)
      rw [← HEE.out]
      have z0 := pw_cell_below hb2 y0
      have z1 := pw_cell_below hb2 y1
      have z2 := pw_cell_below hb2 y2
      clear y0 y1 y2 hb2
      go_wp2
      go_ret2
      exact ⟨by rw [HE.out]; rfl, below_step HI.out.2.2.1 HB2.out⟩
    subst h0
    have HE := Lib.hid (show R = (tokS (newest L) ⟨a, b, u⟩, 0) by rw [HRR.out]; exact makeR_ok hc hE.symm)
    have HEE := Lib.hid hE
    have hlen := checkB_len hc
    have hall := checkB_all hc (newest L) (newest_mem hlen.1)
    have hoks := HI.out.2.1 (newest L) (newest_mem hlen.1)
    have hnl : L.length = n := HI.out.2.2.2
    obtain ⟨k, hk⟩ : ∃ k, k = newest L := ⟨_, rfl⟩
    rw [← hk] at hall hoks
    have hget : L.getD (n - 1) Sec.none = k := by rw [hk]; unfold newest; rw [hnl]
    have HK := Lib.hid (show newest L = k ∧ Bytes k.key ∧ k.key.length ≤ 64 ∧ (-9223372036854775808 ≤ k.id ∧ k.id ≤ 9223372036854775807) from ⟨hk.symm, hoks.1, hall.2.2.2, hoks.2⟩)
    have HGET := Lib.hid hget
    have w1' : IntKind.i64.wrap ((n : Int) - 1) = n - 1 := by rw [wrap_id (by omega) (by omega)]
    have t1' : ((n : Int) - 1).toNat = n - 1 := by omega
    have l1 : (0 : Int) ≤ (n : Int) - 1 := by omega
    have l1' : (1 : Int) ≤ n := by omega
    have u1' : (n : Int) - 1 < n := by omega
    clear hc hlen hall hoks hget hk hnl hE
    go_enter Tryd.func18, Tryd.ntmps18
    go_wp2_with fail
    rw [← HS.out.1, ← HS.out.2]
    refine (CheckRef_calls _ _ _ _ HI.out.1).mono ?_
    rintro e w1 ⟨rfl, hb1⟩
    have HB1 := Lib.hid hb1
    have y0 := pw_cell_below hb1 HX.out.1
    have y1 := pw_cell_below hb1 HX.out.2.1
    have y2 := pw_cell_below hb1 HX.out.2.2
    rw [HC.out]
    clear hb1
    go_wp2_with fail
    refine (claim_calls a b u _ HU.out.1 HU.out.2.1).mono ?_
    rintro e w2 ⟨rfl, hb2⟩
    have HB2 := Lib.hid (below_step HB1.out hb2)
    rw [← HEE.out]
    have z0 := pw_cell_below hb2 y0
    have z1 := pw_cell_below hb2 y1
    have z2 := pw_cell_below hb2 y2
    clear y0 y1 y2 hb2
    go_wp2_with fail
    obtain ⟨ad, Ai, ci, rfl, q0, q1, hci, hrd⟩ := RdS.at (Kd.C_below HI.out.1 HB2.out) (n - 1) (by omega)
    rw [HGET.out] at q0 q1 hci hrd
    have HRD := Lib.hid (And.intro hci hrd)
    clear hci hrd
    obtain ⟨kid, kkey⟩ := k
    simp only at q0 q1 HRD HK
    go_region_with (go_at_call 35; refine (token_calls kid _ _ kkey a b u _ (Kd.C_below HRD.out.2 (below_drew (Below.refl _ _))) HK.out.2.1 (by have := HK.out.2.2.1; omega) HK.out.2.2.2 HU.out.1 HU.out.2.1 HU.out.2.2).mono ?_; rintro e w4 ⟨rfl, hb4⟩; have HB4 := Lib.hid (below_step HB2.out (below_step (below_drew (Below.refl _ _)) hb4)); clear hb4)
    all_goals
      go_wp2
      go_ret2
      exact ⟨by rw [HE.out, HK.out.1]; rfl, below_step HI.out.2.2.1 HB4.out⟩
end Go.Proofs.YtcgenmogedndjaaDoor
