/- The texts Blocks in one. -/
import Derived.Test.YtcgenmogedndjaaDoorG09
import Derived.Test.YtcgenmogedndjaaDoorG19
import Derived.Deep.CutBlock
import Derived.Lib.BufferOwn
namespace Go.Proofs.YtcgenmogedndjaaDoor
open Go.RowKit Go.Proofs.YtcgenmogedndjaaDoorW.PrintWords
/-- Eight bytes of a number, the highest first. -/
def be8 (N : Int) : List Int := [N / 72057594037927936 % 256, N / 281474976710656 % 256, N / 1099511627776 % 256, N / 4294967296 % 256, N / 16777216 % 256, N / 65536 % 256, N / 256 % 256, N % 256]
theorem be8_eq (N : Int) (_h0 : 0 ≤ N) (_h1 : N < 18446744073709551616) : be8 N = be4 (N / 4294967296) ++ be4 (N % 4294967296) := by
  unfold be8 be4
  simp only [List.cons_append, List.nil_append, List.cons.injEq, and_true]
  have e1 : N / 4294967296 / 16777216 = N / 72057594037927936 := by rw [Int.ediv_ediv_of_nonneg (by decide)]; rfl
  have e2 : N / 4294967296 / 65536 = N / 281474976710656 := by rw [Int.ediv_ediv_of_nonneg (by decide)]; rfl
  have e3 : N / 4294967296 / 256 = N / 1099511627776 := by rw [Int.ediv_ediv_of_nonneg (by decide)]; rfl
  rw [e1, e2, e3]
  refine ⟨?_, ?_, ?_, ?_, ?_, ?_, ?_, ?_⟩ <;> first | rfl | trivial | omega
set_option maxRecDepth 20000 in
set_option maxHeartbeats 4000000 in
theorem blocks_calls {n : Nat} (A0 : Option Addr) (c0 : Nat) (l0 : List Int) (w : World) (hr0 : Rd w A0 n l0) (hb0 : Bytes l0) (_hc0 : n ≤ c0) (hs : n ≤ 1099511627776) :
    Calls Tryd.prog 81 #[.slice A0 n c0] w fun e w' => ∃ v, e = .returned v ∧ OwnLW w w' v (rowsF (w32 (padSha l0)) (16 * ((padSha l0).length / 64)) ((padSha l0).length / 64)) ∧ Below w.heap.size w w' := by
  have HI := Lib.hid (show Rd w A0 n l0 ∧ Bytes l0 ∧ l0.length = n from ⟨hr0, hb0, Kd.C_len hr0⟩)
  have hzl := Kd.C_len hr0
  clear hr0 hb0
  have HLIT := Lib.hid (show Own w (w.alloc (.cells #[] 5)) (.slice (some ⟨w.heap.size, 0, none⟩) 0 0) [] from lit_nil (Below.refl _ _))
  have HRL := Lib.hid (show Rd (w.alloc (.cells #[] 5)) A0 n l0 from Kd.C_below HI.out.1 (below_alloc (Below.refl _ _) _))
  have hl1 : ([] : List Int).length + n ≤ 140737488355328 := by simp; omega
  have HL := Lib.hid hzl
  clear hzl
  go_enter Tryd.func81, Tryd.ntmps81
  go_wp2_with (at_builtin; refine app_row HLIT.out HRL.out (below_alloc (Below.refl _ _) _) hl1 rfl rfl rfl rfl ?_)
  intro v1 w1 ho1 hb1 _ _
  have HO1 := Lib.hid (ho1.cast (List.nil_append l0))
  have HB1 := Lib.hid hb1
  clear ho1 hb1 HLIT HRL hl1
  have hl2 : l0.length + 1 ≤ 140737488355328 := by rw [HL.out]; omega
  go_wp2_with (at_builtin; refine app_one HO1.out HB1.out hl2 rfl rfl rfl rfl ?_)
  intro v2 w2 ho2 hb2 _ _
  have HO2 := Lib.hid ho2
  have HB2 := Lib.hid hb2
  clear ho2 hb2 HO1 HB1 hl2
  obtain ⟨pz, hpz⟩ : ∃ pz, pz = padZ n := ⟨_, rfl⟩
  have hz64 : pz < 64 ∧ (n + 1 + pz) % 64 = 56 ∧ ∀ z, z < pz → (n + 1 + z) % 64 ≠ 56 := by
    rw [hpz]
    unfold padZ
    refine ⟨by omega, by omega, fun z hz => by omega⟩
  have HPZ := Lib.hid hpz
  clear hpz
  go_wp2
  go_loopw [3] (fun v wr => ∃ (z : Nat) (A : Option Addr) (c : Nat), z ≤ pz ∧ v = .slice A (n + 1 + z) c ∧ Hid (Own w wr v (l0 ++ 128 :: List.replicate z 0)) ∧ Hid (Below w.heap.size w wr)) (fun v _ => n + 70 - slenB v)
  case atStart =>
    obtain ⟨A2, c2, h2, _, _⟩ := HO2.out.reads
    refine ⟨0, A2, c2, by omega, ?_, Lib.hid (HO2.out.cast (by simp)), HB2⟩
    rw [h2, List.length_append, HL.out]
    rfl
  case round =>
    obtain ⟨z, A, c, hz, rfl, HO, HB⟩ := hrel
    obtain ⟨q, hq⟩ : ∃ q, q = n + 1 + z := ⟨_, rfl⟩
    rw [← hq] at HO ⊢
    by_cases hzp : z < pz
    · have hne := hz64.2.2 z hzp
      rw [← hq] at hne
      have d1 : ((q : Int) % 64 == 56) = false := beq_eq_false_iff_ne.2 (by omega)
      have d2 : ((q : Int) % 64 != 56) = true := by rw [bne, d1]; rfl
      have hL1 : (l0 ++ 128 :: List.replicate z 0).length + 1 ≤ 140737488355328 := by simp [HL.out]; omega
      have HZ3 := Lib.hid (show l0 ++ 128 :: List.replicate z 0 ++ [0] = l0 ++ 128 :: List.replicate (z + 1) 0 by simp [List.replicate_succ'])
      have HZL := Lib.hid (show (l0 ++ 128 :: List.replicate (z + 1) (0 : Int)).length = n + 1 + (z + 1) by simp [HL.out]; omega)
      have hqn : q < n + 70 := by omega
      have HQ := Lib.hid hq
      clear hne hq
      go_wp2_with (at_builtin; refine app_one HO.out HB.out hL1 rfl rfl rfl rfl ?_)
      intro v3 w3 ho3 hb3 _ _
      have HO3 := Lib.hid (ho3.cast (show _ = l0 ++ 128 :: List.replicate (z + 1) 0 by rw [← HZ3.out]; simp only [List.append_assoc, List.cons_append]))
      have HB3 := Lib.hid hb3
      clear ho3 hb3 HO HB
      obtain ⟨A3, c3, rfl, _, _⟩ := HO3.out.reads
      rw [HZL.out] at HO3 ⊢
      go_wp2
      go_roundw
      case rel => exact ⟨z + 1, A3, c3, by omega, by first | rfl | go_num, HO3, HB3⟩
      case measure => have := HQ.out; simp [slenB]; omega
    · obtain rfl : z = pz := by omega
      have hq6 : q % 64 = 56 := by rw [hq]; exact hz64.2.1
      have d1 : ((q : Int) % 64 == 56) = true := beq_iff_eq.2 (by omega)
      have d2 : ((q : Int) % 64 != 56) = false := by rw [bne, d1]; rfl
      obtain ⟨N, hN⟩ : ∃ N, (n : Int) * 8 = N := ⟨_, rfl⟩
      have hN0 : 0 ≤ N := by omega
      have hN1 : N < 18446744073709551616 := by omega
      have hu1 : IntKind.i64.wrap N = N := by rw [IntKind.wrap_i64]; omega
      obtain ⟨Q0, hQ0⟩ : ∃ Q0, Q0 = l0 ++ 128 :: List.replicate z (0 : Int) := ⟨_, rfl⟩
      have HP := Lib.hid (show Q0 ++ be8 N = padSha l0 by rw [be8_eq N hN0 hN1, hQ0, padSha, HL.out, ← HPZ.out, ← hN]; simp only [List.append_assoc, List.cons_append])
      have HQL := Lib.hid (show Q0.length + 8 ≤ 140737488355328 by rw [hQ0]; simp [HL.out]; omega)
      rw [← hQ0] at HO
      have HQ := Lib.hid hq
      have HZ := Lib.hid hz64
      clear hq6 hz64 hq hQ0 hzp
      go_wp2
      go_loopw [3, 5] (fun v i wr => ∃ j : Nat, j ≤ 8 ∧ i = .int .i64 ((j : Int) - 1) ∧ Hid (Own w wr v (Q0 ++ (be8 N).take (8 - j))) ∧ Hid (Below w.heap.size w wr)) (fun _ i _ => (intOf i + 1).toNat)
      case atStart => exact ⟨8, by omega, by go_num, Lib.hid (HO.out.cast (by simp)), HB⟩
      case round =>
        clear HO HB
        obtain ⟨j, hj, rfl, HO, HB⟩ := hrel
        have hLj : ∀ t, (Q0 ++ (be8 N).take t).length + 1 ≤ 140737488355328 ∨ 8 ≤ t := fun t => by
          rcases Nat.lt_or_ge t 8 with h | h
          · refine .inl ?_
            have := HQL.out
            rw [List.length_append, List.length_take]
            have : (be8 N).length = 8 := rfl
            omega
          · exact .inr h
        have HLJ := Lib.hid hLj
        clear hLj
        have hj8 : j = 0 ∨ j = 1 ∨ j = 2 ∨ j = 3 ∨ j = 4 ∨ j = 5 ∨ j = 6 ∨ j = 7 ∨ j = 8 := by omega
        rcases hj8 with rfl | rfl | rfl | rfl | rfl | rfl | rfl | rfl | rfl
        · have HOP := Lib.hid (HO.out.cast (show _ = padSha l0 by rw [← HP.out]; rfl))
          clear HO
          obtain ⟨P, hP⟩ : ∃ P, P = padSha l0 := ⟨_, rfl⟩
          obtain ⟨L, hL⟩ : ∃ L, L = P.length := ⟨_, rfl⟩
          obtain ⟨K, hK⟩ : ∃ K, L = 64 * K := ⟨L / 64, by have := padSha_mod l0; rw [hL, hP]; omega⟩
          have hPb : Bytes P := by rw [hP]; exact padSha_bytes l0 HI.out.2.1
          have hLb : L ≤ 1099511628000 := by rw [hL, hP, padSha_length, HL.out]; unfold padZ; omega
          obtain ⟨Wd, hWd⟩ : ∃ Wd, Wd = w32 P := ⟨_, rfl⟩
          have hWl : Wd.length = 16 * K := by rw [hWd, w32_length, ← hL, hK]; omega
          rw [← hP] at HOP
          obtain ⟨A3, c3, rfl, hc3, hr3⟩ := HOP.out.reads
          rw [← hL] at hr3 hc3 ⊢
          obtain ⟨w3, hw3⟩ : ∃ w3, w3 = wr := ⟨_, rfl⟩
          rw [← hw3] at hr3 HB ⊢
          have HM := Lib.hid (show Bytes P ∧ L = P.length ∧ L = 64 * K ∧ L ≤ 1099511628000 ∧ Wd = w32 P ∧ Wd.length = 16 * K ∧ Rd w3 A3 L P ∧ P = padSha l0 from ⟨hPb, hL, hK, hLb, hWd, hWl, hr3, hP⟩)
          have HB3 := Lib.hid HB.out
          clear hP hL hPb hLb hWd hWl hr3 hw3 HOP HB HP HQL HQ HZ HLJ hu1 hN hN0 hN1 d1 d2 HO2 HB2 HPZ
          go_wp2
          go_loopw [6, 7] (fun v i wi => ∃ (j m : Nat) (A : Option Addr) (c : Nat), i = .int .i64 ((4 * j : Nat) : Int) ∧ v = .slice A m c ∧ m = (j + 15) / 16 ∧ j ≤ 16 * K ∧ Hid (OwnLW w3 wi (.slice A m c) (rowsF Wd j m) ∧ Below w3.heap.size w3 wi)) (fun _ i _ => 64 * K - (intOf i).toNat)
          case atStart => exact ⟨0, 0, none, 0, rfl, rfl, rfl, by omega, Lib.hid ⟨OwnLW.nil w3 w3, Below.refl _ _⟩⟩
          case round =>
            obtain ⟨j, m, A, c, rfl, rfl, hm, hj, H⟩ := hrel
            obtain ⟨s, hs4⟩ : ∃ s, s = 4 * j := ⟨_, rfl⟩
            rw [← hs4]
            by_cases hjK : j < 16 * K
            · have e1 : decide ((s : Int) < L) = true := decide_eq_true (by omega)
              have e1' : decide (s < L) = true := decide_eq_true (by omega)
              have hjb : j ≤ 274877907000 := by have := HM.out; omega
              obtain ⟨q, hq⟩ : ∃ q, q = j / 16 := ⟨_, rfl⟩
              have hs3 : s + 3 < L := by omega
              have HS := Lib.hid (show s = 4 * j ∧ q = j / 16 ∧ m = (j + 15) / 16 ∧ j < 16 * K ∧ s + 3 < L ∧ j ≤ 274877907000 from ⟨hs4, hq, hm, hjK, hs3, hjb⟩)
              clear hs4 hq hm hj hjK hs3 hjb hK
              go_upto_if 45 with (fail)
              go_cut [6] (fun v wc => ∃ (A : Option Addr) (c : Nat), v = .slice A (q + 1) c ∧ Hid (OwnLW w3 wc (.slice A (q + 1) c) (rowsF Wd j (q + 1)) ∧ Below w3.heap.size w3 wc))
              case first =>
                by_cases h16 : j % 16 = 0
                · have f1 : ((s : Int) % 64 == 0) = true := beq_iff_eq.2 (by have := HS.out; omega)
                  have hmq : m = q := by have := HS.out; omega
                  subst hmq
                  have hN := rowsF_new Wd j h16
                  rw [← HS.out.2.1] at hN
                  have HNN := Lib.hid hN
                  have hll : (rowsF Wd j m).length + 1 ≤ 5864062014805 := by rw [rowsF_length]; have := HS.out; omega
                  clear hN h16
                  go_wp2_with (at_builtin; refine applw_one (Below.size H.out.2) H.out.1 (Below.refl _ _) (OwnW.nil _ _) H.out.2 hll rfl rfl rfl rfl ?_)
                  intro v4 w4 ho4 hb4
                  have ho4' := ho4.cast HNN.out
                  obtain ⟨A4, c4, rfl, _, _⟩ := ho4'.reads
                  rw [rowsF_length] at ho4' ⊢
                  have HF := Lib.hid (And.intro ho4' hb4)
                  clear ho4 ho4' hb4
                  go_wp2
                  go_meet
                  case rel => exact ⟨A4, c4, rfl, HF⟩
                · have f1 : ((s : Int) % 64 == 0) = false := beq_eq_false_iff_ne.2 (by have := HS.out; omega)
                  obtain rfl : m = q + 1 := by have := HS.out; omega
                  clear h16
                  go_wp2
                  go_meet
                  case rel => exact ⟨A, c, rfl, H⟩
              case rest =>
                clear H
                obtain ⟨A, c, rfl, H⟩ := hcut
                obtain ⟨ad, hA3, hcell⟩ := Rd.cells (Kd.C_below HM.out.2.2.2.2.2.2.1 H.out.2) (by have := HS.out; omega)
                subst hA3
                have x0 := hcell s (by have := HS.out; omega)
                have x1 := hcell (s + 1) (by have := HS.out; omega)
                unfold Addr.add at x1
                rw [if_neg (by omega)] at x1
                have x2 := hcell (s + 2) (by have := HS.out; omega)
                unfold Addr.add at x2
                rw [if_neg (by omega)] at x2
                have x3 := hcell (s + 3) (by have := HS.out; omega)
                unfold Addr.add at x3
                rw [if_neg (by omega)] at x3
                have hr : ∀ k : Nat, k < 4 → 0 ≤ rd P ((s + k : Nat) : Int) ∧ rd P ((s + k : Nat) : Int) < 256 := fun k hk => bytes_rd HM.out.1 (s + k) (by have := HM.out; have := HS.out; omega)
                obtain ⟨r00, r01⟩ := hr 0 (by omega)
                obtain ⟨r10, r11⟩ := hr 1 (by omega)
                obtain ⟨r20, r21⟩ := hr 2 (by omega)
                obtain ⟨r30, r31⟩ := hr 3 (by omega)
                rw [Nat.add_zero] at r00 r01
                have hat := w32_at j P (by have := HM.out; have := HS.out; omega)
                rw [← HM.out.2.2.2.2.1, ← HS.out.1] at hat
                obtain ⟨b0, hb0⟩ : ∃ b, b = rd P ((s : Nat) : Int) := ⟨_, rfl⟩
                obtain ⟨b1, hb1⟩ : ∃ b, b = rd P ((s + 1 : Nat) : Int) := ⟨_, rfl⟩
                obtain ⟨b2, hb2⟩ : ∃ b, b = rd P ((s + 2 : Nat) : Int) := ⟨_, rfl⟩
                obtain ⟨b3, hb3⟩ : ∃ b, b = rd P ((s + 3 : Nat) : Int) := ⟨_, rfl⟩
                rw [← hb0] at x0 r00 r01 hat
                rw [← hb1] at x1 r10 r11 hat
                rw [← hb2] at x2 r20 r21 hat
                rw [← hb3] at x3 r30 r31 hat
                have k0 : IntKind.u32.wrap b0 = b0 := by rw [IntKind.wrap_u32]; omega
                have k1 : IntKind.u32.wrap b1 = b1 := by rw [IntKind.wrap_u32]; omega
                have k2 : IntKind.u32.wrap b2 = b2 := by rw [IntKind.wrap_u32]; omega
                have k3 : IntKind.u32.wrap b3 = b3 := by rw [IntKind.wrap_u32]; omega
                have k4 : IntKind.u32.wrap (b0 * 16777216) = b0 * 16777216 := by rw [IntKind.wrap_u32]; omega
                have k5 : IntKind.u32.wrap (b1 * 65536) = b1 * 65536 := by rw [IntKind.wrap_u32]; omega
                have k6 : IntKind.u32.wrap (b2 * 256) = b2 * 256 := by rw [IntKind.wrap_u32]; omega
                have k7 : IntKind.u32.wrap (b0 * 16777216 + b1 * 65536) = b0 * 16777216 + b1 * 65536 := by rw [IntKind.wrap_u32]; omega
                have k8 : IntKind.u32.wrap (b0 * 16777216 + b1 * 65536 + b2 * 256) = b0 * 16777216 + b1 * 65536 + b2 * 256 := by rw [IntKind.wrap_u32]; omega
                obtain ⟨V, hV⟩ : ∃ V, V = rd Wd (j : Int) := ⟨_, rfl⟩
                have k9 : IntKind.u32.wrap (b0 * 16777216 + b1 * 65536 + b2 * 256 + b3) = V := by rw [IntKind.wrap_u32, hV, hat]; omega
                have i1 : IntKind.i64.wrap ((s : Int) + 1) = (s : Int) + 1 := by have := HS.out; rw [IntKind.wrap_i64]; omega
                have t1 : ((s : Int) + 1).toNat = s + 1 := by omega
                have l1 : (0 : Int) ≤ (s : Int) + 1 := by omega
                have i2 : IntKind.i64.wrap ((s : Int) + 2) = (s : Int) + 2 := by have := HS.out; rw [IntKind.wrap_i64]; omega
                have t2 : ((s : Int) + 2).toNat = s + 2 := by omega
                have l2 : (0 : Int) ≤ (s : Int) + 2 := by omega
                have i3 : IntKind.i64.wrap ((s : Int) + 3) = (s : Int) + 3 := by have := HS.out; rw [IntKind.wrap_i64]; omega
                have t3 : ((s : Int) + 3).toNat = s + 3 := by omega
                have l3 : (0 : Int) ≤ (s : Int) + 3 := by omega
                have j0 : (s : Int) < L := by have := HS.out; omega
                have j1 : (s : Int) + 1 < L := by have := HS.out; omega
                have j2 : (s : Int) + 2 < L := by have := HS.out; omega
                have j3 : (s : Int) + 3 < L := by have := HS.out; omega
                have HV := Lib.hid hV
                clear hcell hr hb0 hb1 hb2 hb3 hat hV r00 r01 r10 r11 r20 r21 r30 r31
                go_wp2_with fail
                go_quiet (fail)
                clear x0 x1 x2 x3 k0 k1 k2 k3 k4 k5 k6 k7 k8 k9 i1 i2 i3 j0 j1 j2 j3 t1 t2 t3 l1 l2 l3
                have hB5 : Below w3.heap.size w3 (wc.drewN nq) := below_drewN H.out.2 nq
                have hO5 : OwnLW w3 (wc.drewN nq) (.slice A (q + 1) c) (rowsF Wd j (q + 1)) := H.out.1.below (below_drewN (Below.refl wc.heap.size wc) nq)
                generalize wc.drewN nq = W5 at hB5 hO5 ⊢
                obtain ⟨g, cap, hsl, _⟩ := Kd.S_form hO5 (by rw [rowsF_length]; omega)
                injection hsl with hA5 _ hcap5
                subst hA5; subst hcap5
                have hgb : w3.heap.size ≤ g := Kd.S_base hO5 g rfl
                have hgl : g < W5.heap.size := Kd.S_lt hO5 g rfl
                have HS0 : Kd.S KW 105 W5 w3.heap.size (fun k => True ∧ ¬ W5.heap.size ≤ k) (.slice (some ⟨g, 0, none⟩) (q + 1) c) (rowsF Wd j (q + 1)) := Kd.S_mono (Kd.S_bound hO5) (fun k hk => ⟨trivial, by omega⟩)
                obtain ⟨oki, cc, _, ⟨vi, rfl, hRi⟩, hcc, hfr, hoki, hH⟩ := Kd.S_elem HS0 [] (q : Int) (by omega) (by omega)
                have hcell : W5.cell? ⟨g, q, none⟩ = some vi := by
                  have := hcc 0 vi rfl
                  simpa [Kd.slice] using this
                have hfz : W5.frozen? ⟨g, q, none⟩ = false := by
                  have := hfr 0
                  simpa [Kd.slice] using this
                rw [Int.toNat_natCast, rowsF_getD Wd j (q + 1) q (by omega)] at hRi
                obtain ⟨li, hli⟩ : ∃ li, li = rowF Wd j q := ⟨_, rfl⟩
                rw [← hli] at hRi
                have hlen : li.length ≤ 16 := by rw [hli, rowF_eq, List.length_take]; omega
                obtain ⟨Ai, ci, rfl⟩ := Kd.R_slice hRi
                have HRi := Lib.hid (Kd.R_mono hRi (fun k (h : oki k) => (Or.inl h : oki k ∨ W5.heap.size ≤ k)))
                have HRo := Lib.hid hRi.1
                have HH := Lib.hid hH
                have HKI := Lib.hid hoki
                have hli1 : li.length + 1 ≤ 35184372088832 := by omega
                have HNX := Lib.hid (show (rowsF Wd j (q + 1)).set q (li ++ [V]) = rowsF Wd (j + 1) (q + 1) by
                  have h1 := rowsF_set Wd j (by have := HM.out; have := HS.out; omega)
                  rw [← HS.out.2.1] at h1
                  rw [hli, HV.out]
                  exact h1)
                have HB5 := Lib.hid hB5
                obtain ⟨M, hMq⟩ : ∃ M, M = q + 1 := ⟨_, rfl⟩
                have HMQ := Lib.hid hMq
                have m1 : IntKind.i64.wrap ((M : Int) - 1) = q := by have := HS.out; rw [IntKind.wrap_i64, hMq]; omega
                have m2 : (q : Int) < M := by omega
                obtain ⟨ll, hll⟩ : ∃ ll, ll = li.length := ⟨_, rfl⟩
                have HLL := Lib.hid hll
                rw [← hMq]
                rw [← hMq] at HH HNX
                rw [← hll] at hcell HRi HRo
                clear hRi hH hcc hfr hoki HS0 hli hB5 hO5 H hMq hll
                go_wp2_with (at_builtin; refine appw_oneR (w0 := w3) HRi.out (fun q hq => .inr hq) HB5.out HB5.out.size hli1 rfl rfl rfl rfl ?_)
                intro v4 w5 hr4 hb4 hg4 _
                have hHg := Kd.H_grown HH.out hg4 HRo.out
                have hgr : some g ≠ (Value.slice Ai ll ci).ownBlock := fun e => (HKI.out g (HRo.out g e.symm)).2 rfl
                have hcell5 := hg4.cell hcell hgr
                have hfz5 : w5.frozen? ⟨g, q, none⟩ = false := by rw [frozen_same (hg4.block g hgl hgr), hfz]
                have hseg := Kd.S_seg (okg := fun k => W5.heap.size ≤ k) (ok := fun _ => True) (okp := fun k => oki k ∨ W5.heap.size ≤ k) hHg (by omega) (by omega) (seg := [v4]) (j := 0) (Nat.le_refl 1) (x' := li ++ [V]) ⟨v4, rfl, hr4⟩ (fun k h => h) (fun k hk => ⟨trivial, by omega⟩)
                have hidx : (q : Int).toNat * KW.sz + 0 = q := by show q * 1 + 0 = q; omega
                rw [hidx, Int.toNat_natCast] at hseg
                have hs6 : OwnLW w3 (w5.setCell ⟨g, q, none⟩ v4) (.slice (some ⟨g, 0, none⟩) M c) (rowsF Wd (j + 1) M) := by
                  have h1 := hseg.1
                  rw [HNX.out] at h1
                  exact h1
                have hb6 : Below w3.heap.size w3 (w5.setCell ⟨g, q, none⟩ v4) := hb4.grown (Lib.grownBy_setCell w5 g q v4) hb4.size (fun k hk => by cases hk; exact hgb)
                have HS6 := Lib.hid (show OwnLW w3 (w5.setCell ⟨g, q, none⟩ v4) (.slice (some ⟨g, 0, none⟩) M c) (rowsF Wd (j + 1) M) ∧ Below w3.heap.size w3 (w5.setCell ⟨g, q, none⟩ v4) from ⟨hs6, hb6⟩)
                obtain ⟨A4, c4, rfl⟩ := Kd.R_slice hr4
                clear hr4 hb4 hg4 hHg hseg hidx hs6 hb6 hgr hcell hfz
                obtain ⟨n4, hn4⟩ : ∃ n4, n4 = (li ++ [V]).length := ⟨_, rfl⟩
                rw [← hn4] at HS6 ⊢
                clear hn4
                have hw4 : IntKind.i64.wrap ((s : Int) + 4) = (s : Int) + 4 := by have := HS.out; rw [IntKind.wrap_i64]; omega
                go_wp2
                refine ⟨⟨_, _, _, _, _, _, _, _, _, _, _, _, _, _, _, _, _, _, _, _, _, _, _, _, _, _, _, _, _, _, _, _, _, _, _, _, _, _, _, _, _, _, _, _, _, _, _, _, _, _, _, _, _, _, _, _, _, _, ?rel, rfl⟩, ?measure⟩
                case rel => exact ⟨j + 1, M, some ⟨g, 0, none⟩, c, by have := HS.out; go_num, rfl, by have := HS.out; have := HMQ.out; omega, by have := HS.out; omega, HS6⟩
                case measure => have := HS.out; have := HM.out; simp [intOf]; omega
            · obtain rfl : j = 16 * K := by omega
              have e1 : decide ((s : Int) < L) = false := decide_eq_false (by omega)
              have e1' : decide (s < L) = false := decide_eq_false (by omega)
              have hmK : m = K := by omega
              have HF := Lib.hid (show OwnLW w wr (.slice A m c) (rowsF (w32 (padSha l0)) (16 * ((padSha l0).length / 64)) ((padSha l0).length / 64)) ∧ Below w.heap.size w wr from by
                have hlk : (padSha l0).length / 64 = K := by rw [← HM.out.2.2.2.2.2.2.2, ← HM.out.2.1, HM.out.2.2.1]; omega
                rw [hlk, ← HM.out.2.2.2.2.2.2.2, ← HM.out.2.2.2.2.1]
                rw [hmK]
                have h1 := H.out.1
                rw [hmK] at h1
                exact ⟨h1.lower HB3.out.size, below_step HB3.out H.out.2⟩)
              clear hs4 hm hj hjK hmK H hK
              go_wp2
              go_ret
              exact ⟨_, rfl, HF.out.1, HF.out.2⟩
        · have hw : IntKind.u8.wrap (N) = N % 256 := IntKind.wrap_u8 _
          have hlk := (HLJ.out 7).resolve_right (by decide)
          have HT := Lib.hid (show Q0 ++ ((be8 N).take (8 - 1) ++ [N % 256]) = Q0 ++ (be8 N).take (8 - 0) from rfl)
          go_wp2_with (at_builtin; refine app_one HO.out HB.out hlk rfl rfl rfl rfl ?_)
          intro v3 w3 ho3 hb3 _ _
          have HO3 := Lib.hid (ho3.cast HT.out)
          have HB3 := Lib.hid hb3
          clear ho3 hb3
          go_wp2
          go_roundw
          case rel => exact ⟨0, by omega, by go_num, HO3, HB3⟩
          case measure => simp [intOf]
        · have hw : IntKind.u8.wrap (N / 256) = N / 256 % 256 := IntKind.wrap_u8 _
          have hlk := (HLJ.out 6).resolve_right (by decide)
          have HT := Lib.hid (show Q0 ++ ((be8 N).take (8 - 2) ++ [N / 256 % 256]) = Q0 ++ (be8 N).take (8 - 1) from rfl)
          go_wp2_with (at_builtin; refine app_one HO.out HB.out hlk rfl rfl rfl rfl ?_)
          intro v3 w3 ho3 hb3 _ _
          have HO3 := Lib.hid (ho3.cast HT.out)
          have HB3 := Lib.hid hb3
          clear ho3 hb3
          go_wp2
          go_roundw
          case rel => exact ⟨1, by omega, by go_num, HO3, HB3⟩
          case measure => simp [intOf]
        · have hw : IntKind.u8.wrap (N / 65536) = N / 65536 % 256 := IntKind.wrap_u8 _
          have hlk := (HLJ.out 5).resolve_right (by decide)
          have HT := Lib.hid (show Q0 ++ ((be8 N).take (8 - 3) ++ [N / 65536 % 256]) = Q0 ++ (be8 N).take (8 - 2) from rfl)
          go_wp2_with (at_builtin; refine app_one HO.out HB.out hlk rfl rfl rfl rfl ?_)
          intro v3 w3 ho3 hb3 _ _
          have HO3 := Lib.hid (ho3.cast HT.out)
          have HB3 := Lib.hid hb3
          clear ho3 hb3
          go_wp2
          go_roundw
          case rel => exact ⟨2, by omega, by go_num, HO3, HB3⟩
          case measure => simp [intOf]
        · have hw : IntKind.u8.wrap (N / 16777216) = N / 16777216 % 256 := IntKind.wrap_u8 _
          have hlk := (HLJ.out 4).resolve_right (by decide)
          have HT := Lib.hid (show Q0 ++ ((be8 N).take (8 - 4) ++ [N / 16777216 % 256]) = Q0 ++ (be8 N).take (8 - 3) from rfl)
          go_wp2_with (at_builtin; refine app_one HO.out HB.out hlk rfl rfl rfl rfl ?_)
          intro v3 w3 ho3 hb3 _ _
          have HO3 := Lib.hid (ho3.cast HT.out)
          have HB3 := Lib.hid hb3
          clear ho3 hb3
          go_wp2
          go_roundw
          case rel => exact ⟨3, by omega, by go_num, HO3, HB3⟩
          case measure => simp [intOf]
        · have hw : IntKind.u8.wrap (N / 4294967296) = N / 4294967296 % 256 := IntKind.wrap_u8 _
          have hlk := (HLJ.out 3).resolve_right (by decide)
          have HT := Lib.hid (show Q0 ++ ((be8 N).take (8 - 5) ++ [N / 4294967296 % 256]) = Q0 ++ (be8 N).take (8 - 4) from rfl)
          go_wp2_with (at_builtin; refine app_one HO.out HB.out hlk rfl rfl rfl rfl ?_)
          intro v3 w3 ho3 hb3 _ _
          have HO3 := Lib.hid (ho3.cast HT.out)
          have HB3 := Lib.hid hb3
          clear ho3 hb3
          go_wp2
          go_roundw
          case rel => exact ⟨4, by omega, by go_num, HO3, HB3⟩
          case measure => simp [intOf]
        · have hw : IntKind.u8.wrap (N / 1099511627776) = N / 1099511627776 % 256 := IntKind.wrap_u8 _
          have hlk := (HLJ.out 2).resolve_right (by decide)
          have HT := Lib.hid (show Q0 ++ ((be8 N).take (8 - 6) ++ [N / 1099511627776 % 256]) = Q0 ++ (be8 N).take (8 - 5) from rfl)
          go_wp2_with (at_builtin; refine app_one HO.out HB.out hlk rfl rfl rfl rfl ?_)
          intro v3 w3 ho3 hb3 _ _
          have HO3 := Lib.hid (ho3.cast HT.out)
          have HB3 := Lib.hid hb3
          clear ho3 hb3
          go_wp2
          go_roundw
          case rel => exact ⟨5, by omega, by go_num, HO3, HB3⟩
          case measure => simp [intOf]
        · have hw : IntKind.u8.wrap (N / 281474976710656) = N / 281474976710656 % 256 := IntKind.wrap_u8 _
          have hlk := (HLJ.out 1).resolve_right (by decide)
          have HT := Lib.hid (show Q0 ++ ((be8 N).take (8 - 7) ++ [N / 281474976710656 % 256]) = Q0 ++ (be8 N).take (8 - 6) from rfl)
          go_wp2_with (at_builtin; refine app_one HO.out HB.out hlk rfl rfl rfl rfl ?_)
          intro v3 w3 ho3 hb3 _ _
          have HO3 := Lib.hid (ho3.cast HT.out)
          have HB3 := Lib.hid hb3
          clear ho3 hb3
          go_wp2
          go_roundw
          case rel => exact ⟨6, by omega, by go_num, HO3, HB3⟩
          case measure => simp [intOf]
        · have hw : IntKind.u8.wrap (N / 72057594037927936) = N / 72057594037927936 % 256 := IntKind.wrap_u8 _
          have hlk := (HLJ.out 0).resolve_right (by decide)
          have HT := Lib.hid (show Q0 ++ ((be8 N).take (8 - 8) ++ [N / 72057594037927936 % 256]) = Q0 ++ (be8 N).take (8 - 7) from rfl)
          go_wp2_with (at_builtin; refine app_one HO.out HB.out hlk rfl rfl rfl rfl ?_)
          intro v3 w3 ho3 hb3 _ _
          have HO3 := Lib.hid (ho3.cast HT.out)
          have HB3 := Lib.hid hb3
          clear ho3 hb3
          go_wp2
          go_roundw
          case rel => exact ⟨7, by omega, by go_num, HO3, HB3⟩
          case measure => simp [intOf]
end Go.Proofs.YtcgenmogedndjaaDoor
