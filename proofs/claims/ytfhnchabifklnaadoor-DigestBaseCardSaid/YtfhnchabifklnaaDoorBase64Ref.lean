/- blotterref07.Base64: bytes in base64, bit by bit. -/
import Derived.Test.YtfhnchabifklnaaDoorSpeltLaw
import Derived.Test.YtfhnchabifklnaaDoorIntRow
namespace Go.Proofs.YtfhnchabifklnaaDoor
open Go.RowKit Go.Proofs.YtfhnchabifklnaaDoorW.PrintWords
/-- So many bits of a number, the highest first. -/
def bitsN (k : Nat) (x : Int) : List Int := (List.range k).map fun t => x / 2 ^ (k - 1 - t) % 2
theorem bitsN_length (k : Nat) (x : Int) : (bitsN k x).length = k := by simp [bitsN]
theorem bitsN_take (k t : Nat) (x : Int) (h : t < k) : (bitsN k x).take (t + 1) = (bitsN k x).take t ++ [x / 2 ^ (k - 1 - t) % 2] := by
  rw [List.take_succ_eq_append_getElem (by rw [bitsN_length]; exact h)]
  simp [bitsN]
theorem bitsN_8 (x : Int) : bitsN 8 x = [x / 128 % 2, x / 64 % 2, x / 32 % 2, x / 16 % 2, x / 8 % 2, x / 4 % 2, x / 2 % 2, x % 2] := by
  simp [bitsN, List.range, List.range.loop]
def Zo (l : List Int) : Prop := ∀ b ∈ l, 0 ≤ b ∧ b < 2
theorem bitsN_Zo (k : Nat) (x : Int) : Zo (bitsN k x) := by
  intro b hb
  simp only [bitsN, List.mem_map] at hb
  obtain ⟨t, _, rfl⟩ := hb
  omega
theorem Zo.app {a b : List Int} (h : Zo a) (k : Zo b) : Zo (a ++ b) := by
  intro x hx
  rcases List.mem_append.1 hx with hx | hx
  · exact h x hx
  · exact k x hx
theorem Zo.rd {l : List Int} (h : Zo l) (k : Nat) (hk : k < l.length) : 0 ≤ rd l k ∧ rd l k < 2 := by
  rw [rd_get l k hk]
  exact h _ (List.getElem_mem hk)
theorem Zo.zeros (z : Nat) : Zo (List.replicate z 0) := by
  intro b hb
  rw [List.eq_of_mem_replicate hb]
  decide
/-- All bits of bytes; all bits of letters. -/
def bits8 (l : List Int) : List Int := l.flatMap (bitsN 8)
theorem bits8_Zo (l : List Int) : Zo (bits8 l) := by
  intro b hb
  obtain ⟨x, _, hx⟩ := List.mem_flatMap.1 hb
  exact bitsN_Zo 8 x b hx
theorem bits8_length (l : List Int) : (bits8 l).length = 8 * l.length := by
  induction l with
  | nil => rfl
  | cons a t ih => rw [bits8, List.flatMap_cons, List.length_append, bitsN_length, List.length_cons]; have : (t.flatMap (bitsN 8)).length = 8 * t.length := ih; omega
theorem take_snoc6 (l : List Int) (k : Nat) (h : k < l.length) : l.take (k + 1) = l.take k ++ [rd l k] := by
  rw [List.take_succ_eq_append_getElem h, rd_get l k h]
theorem bits8_snoc (l : List Int) (k : Nat) (h : k < l.length) : bits8 (l.take (k + 1)) = bits8 (l.take k) ++ bitsN 8 (rd l k) := by
  rw [take_snoc6 l k h, bits8, List.flatMap_append]
  simp [bits8]
/-- The number that bits write, onto one that is held. -/
def vf (n : Int) (l : List Int) : Int := l.foldl (fun n b => 2 * n + b) n
/-- Letters of six bits; bytes of eight. -/
def grp6 : List Int → List Int
  | a :: b :: c :: d :: e :: f :: t => alpha (vf 0 [a, b, c, d, e, f]) :: grp6 t
  | _ => []
/-- Filled up with noughts to groups of six. -/
def padded (B : List Int) : List Int := B ++ List.replicate ((6 - B.length % 6) % 6) 0
theorem grp6_sp3 : ∀ (l : List Int), Bytes l → grp6 (padded (bits8 l)) = sp3 l
  | [], _ => rfl
  | [a], hb => by
    have ha := hb a (by simp)
    simp [padded, bits8, bitsN_8, sp3, grp6, vf, List.replicate]
    refine ⟨congrArg alpha (by omega), congrArg alpha (by omega)⟩
  | [a, b], hb => by
    have ha := hb a (by simp)
    have hb' := hb b (by simp)
    simp [padded, bits8, bitsN_8, sp3, grp6, vf, List.replicate]
    refine ⟨congrArg alpha (by omega), congrArg alpha (by omega), congrArg alpha (by omega)⟩
  | a :: b :: c :: t, hb => by
    have ha := hb a (by simp)
    have hb' := hb b (by simp)
    have hc := hb c (by simp)
    have ih := grp6_sp3 t (fun x hx => hb x (by simp [hx]))
    have e : padded (bits8 (a :: b :: c :: t)) = bitsN 8 a ++ bitsN 8 b ++ bitsN 8 c ++ padded (bits8 t) := by
      have hl : (bits8 (a :: b :: c :: t)).length % 6 = (bits8 t).length % 6 := by rw [bits8_length, bits8_length, List.length_cons, List.length_cons, List.length_cons]; omega
      unfold padded
      rw [hl]
      simp [bits8]
    rw [e]
    simp only [bitsN_8, List.cons_append, List.nil_append, grp6, ih, sp3, vf, List.foldl_cons, List.foldl_nil]
    simp
    refine ⟨congrArg alpha (by omega), congrArg alpha (by omega), congrArg alpha (by omega), congrArg alpha (by omega)⟩
theorem grp6_step (P : List Int) (s : Nat) (h : s + 6 ≤ P.length) : grp6 (P.drop s) = alpha (vf 0 ((P.drop s).take 6)) :: grp6 (P.drop (s + 6)) := by
  rw [cons_drop P s (by omega), cons_drop P (s + 1) (by omega), cons_drop P (s + 2) (by omega), cons_drop P (s + 3) (by omega), cons_drop P (s + 4) (by omega), cons_drop P (s + 5) (by omega)]
  rfl
theorem six_drop (P : List Int) (s q j : Nat) (h : j < q) (hl : s + q ≤ P.length) : ((P.drop s).take q).drop j = rd P ((s + j : Nat) : Int) :: ((P.drop s).take q).drop (j + 1) := by
  rw [cons_drop _ j (by rw [List.length_take, List.length_drop]; omega)]
  congr 1
  unfold rd
  simp only [Int.toNat_natCast, List.getD_eq_getElem?_getD, List.getElem?_take, List.getElem?_drop]
  rw [if_pos h]
theorem vf_cons (m b : Int) (t : List Int) : vf m (b :: t) = vf (2 * m + b) t := rfl
/-- How long a slice is. -/
def slen : Value → Nat
  | .slice _ m _ => m
  | _ => 0
theorem padded_length (B : List Int) : (padded B).length = B.length + (6 - B.length % 6) % 6 := by simp [padded]
theorem padded_Zo (B : List Int) (h : Zo B) : Zo (padded B) := h.app (Zo.zeros _)
def strB : Value → Nat
  | .string s => s.size
  | _ => 0
theorem str_app (a b : List Int) : strOfNums a ++ strOfNums b = strOfNums (a ++ b) := by
  apply ByteArray.ext
  simp [strOfNums, ByteArray.data_append]
theorem one_letter : ∀ n : Fin 64, b64S.extract n.val (n.val + 1) = strOfNums [b64L (n.val : Int)] := by decide +kernel
theorem str_letter (O : List Int) (m : Int) (m0 : 0 ≤ m) (m1 : m < 64) : strOfNums (O.map tr) ++ b64S.extract m.toNat (m + 1).toNat = strOfNums ((O ++ [alpha m]).map tr) := by
  have h := one_letter ⟨m.toNat, by omega⟩
  simp only [Int.toNat_of_nonneg m0] at h
  rw [show (m + 1).toNat = m.toNat + 1 by omega, h, str_app, (tr_all m m0 m1).1, List.map_append]
  rfl
set_option maxRecDepth 20000 in
set_option maxHeartbeats 4000000 in
theorem Base64Ref_calls {n : Nat} (A0 : Option Addr) (c0 : Nat) (l0 : List Int) (w : World) (hr0 : Rd w A0 n l0) (hb0 : Bytes l0) (hs : n ≤ 1099511627776) :
    Calls Tryd.prog 19 #[.slice A0 n c0] w fun e w' => e = .returned (.string (strOfNums (b64 l0))) ∧ Below w.heap.size w w' := by
  have HR := Lib.hid hr0
  have HY := Lib.hid hb0
  have HL := Lib.hid (Kd.C_len hr0)
  have HG := Lib.hid (grp6_sp3 l0 hb0)
  clear hr0 hb0
  go_enter Tryd.func19, Tryd.ntmps19
  go_wp2
  go_loopw [3, 13] (fun v i wr => ∃ k : Nat, k ≤ n ∧ i = .int .i64 k ∧ Hid (OwnI w wr v (bits8 (l0.take k))) ∧ Hid (Below w.heap.size w wr)) (fun _ i _ => n - (intOf i).toNat)
  case atStart => exact ⟨0, by omega, rfl, Lib.hid (OwnI.nil w w), Lib.hid (Below.refl _ _)⟩
  case round =>
    obtain ⟨k, hk, rfl, HO0, HB0⟩ := hrel
    by_cases hkn : k < n
    · have dkn : decide ((k : Int) < n) = true := decide_eq_true (by omega)
      obtain ⟨x, hx⟩ : ∃ x, x = rd l0 k := ⟨_, rfl⟩
      obtain ⟨x0, x1⟩ := bytes_rd HY.out k (by rw [HL.out]; exact hkn)
      rw [← hx] at x0 x1
      have HSN := Lib.hid (show bits8 (l0.take (k + 1)) = bits8 (l0.take k) ++ bitsN 8 x by rw [hx]; exact bits8_snoc l0 k (by rw [HL.out]; exact hkn))
      obtain ⟨ad, rfl, hcell⟩ := Rd.cells (Kd.C_below HR.out HB0.out) (by omega)
      have hxc := hcell k hkn
      rw [← hx] at hxc
      have hwx : IntKind.i64.wrap x = x := wrap_idn (by omega) (by omega)
      clear hcell hx
      go_wp2
      clear hxc
      go_loopw [3, 6] (fun v i wr => ∃ j : Nat, j ≤ 8 ∧ i = .int .i64 ((j : Int) - 1) ∧ Hid (OwnI w wr v (bits8 (l0.take k) ++ (bitsN 8 x).take (8 - j))) ∧ Hid (Below w.heap.size w wr)) (fun _ i _ => (intOf i + 1).toNat)
      case atStart => exact ⟨8, by omega, by go_num, Lib.hid (HO0.out.cast (by simp)), HB0⟩
      case round =>
        obtain ⟨j, hj, rfl, HO, HB⟩ := hrel
        have hj8 : j = 0 ∨ j = 1 ∨ j = 2 ∨ j = 3 ∨ j = 4 ∨ j = 5 ∨ j = 6 ∨ j = 7 ∨ j = 8 := by omega
        rcases hj8 with rfl | rfl | rfl | rfl | rfl | rfl | rfl | rfl | rfl
        · have HO3 := Lib.hid (HO.out.cast (show _ = bits8 (l0.take (k + 1)) by rw [HSN.out, show (bitsN 8 x).take (8 - 0) = bitsN 8 x from List.take_of_length_le (by rw [bitsN_length]; exact Nat.le_refl 8)]))
          clear HO
          go_wp2
          go_roundw
          case rel => exact ⟨k + 1, by omega, by go_num, HO3, HB⟩
          case measure => simp [intOf]; omega
        · have HT := Lib.hid (bitsN_take 8 7 x (by omega))
          go_wp2_with (at_builtin; refine appi_one HO.out HB.out (by rw [List.length_append, List.length_take, bitsN_length, bits8_length, List.length_take]; omega) rfl rfl rfl rfl ?_)
          intro v3 w3 ho3 hb3 _ _
          have HO3 := Lib.hid (ho3.cast (show _ = bits8 (l0.take k) ++ (bitsN 8 x).take (8 - 0) by rw [show 8 - 0 = 7 + 1 from rfl, HT.out]; simp))
          have HB3 := Lib.hid hb3
          clear ho3 hb3
          go_wp2
          go_roundw
          case rel => exact ⟨0, by omega, by go_num, HO3, HB3⟩
          case measure => simp [intOf]
        · have HT := Lib.hid (bitsN_take 8 6 x (by omega))
          go_wp2_with (at_builtin; refine appi_one HO.out HB.out (by rw [List.length_append, List.length_take, bitsN_length, bits8_length, List.length_take]; omega) rfl rfl rfl rfl ?_)
          intro v3 w3 ho3 hb3 _ _
          have HO3 := Lib.hid (ho3.cast (show _ = bits8 (l0.take k) ++ (bitsN 8 x).take (8 - 1) by rw [show 8 - 1 = 6 + 1 from rfl, HT.out]; simp))
          have HB3 := Lib.hid hb3
          clear ho3 hb3
          go_wp2
          go_roundw
          case rel => exact ⟨1, by omega, by go_num, HO3, HB3⟩
          case measure => simp [intOf]
        · have HT := Lib.hid (bitsN_take 8 5 x (by omega))
          go_wp2_with (at_builtin; refine appi_one HO.out HB.out (by rw [List.length_append, List.length_take, bitsN_length, bits8_length, List.length_take]; omega) rfl rfl rfl rfl ?_)
          intro v3 w3 ho3 hb3 _ _
          have HO3 := Lib.hid (ho3.cast (show _ = bits8 (l0.take k) ++ (bitsN 8 x).take (8 - 2) by rw [show 8 - 2 = 5 + 1 from rfl, HT.out]; simp))
          have HB3 := Lib.hid hb3
          clear ho3 hb3
          go_wp2
          go_roundw
          case rel => exact ⟨2, by omega, by go_num, HO3, HB3⟩
          case measure => simp [intOf]
        · have HT := Lib.hid (bitsN_take 8 4 x (by omega))
          go_wp2_with (at_builtin; refine appi_one HO.out HB.out (by rw [List.length_append, List.length_take, bitsN_length, bits8_length, List.length_take]; omega) rfl rfl rfl rfl ?_)
          intro v3 w3 ho3 hb3 _ _
          have HO3 := Lib.hid (ho3.cast (show _ = bits8 (l0.take k) ++ (bitsN 8 x).take (8 - 3) by rw [show 8 - 3 = 4 + 1 from rfl, HT.out]; simp))
          have HB3 := Lib.hid hb3
          clear ho3 hb3
          go_wp2
          go_roundw
          case rel => exact ⟨3, by omega, by go_num, HO3, HB3⟩
          case measure => simp [intOf]
        · have HT := Lib.hid (bitsN_take 8 3 x (by omega))
          go_wp2_with (at_builtin; refine appi_one HO.out HB.out (by rw [List.length_append, List.length_take, bitsN_length, bits8_length, List.length_take]; omega) rfl rfl rfl rfl ?_)
          intro v3 w3 ho3 hb3 _ _
          have HO3 := Lib.hid (ho3.cast (show _ = bits8 (l0.take k) ++ (bitsN 8 x).take (8 - 4) by rw [show 8 - 4 = 3 + 1 from rfl, HT.out]; simp))
          have HB3 := Lib.hid hb3
          clear ho3 hb3
          go_wp2
          go_roundw
          case rel => exact ⟨4, by omega, by go_num, HO3, HB3⟩
          case measure => simp [intOf]
        · have HT := Lib.hid (bitsN_take 8 2 x (by omega))
          go_wp2_with (at_builtin; refine appi_one HO.out HB.out (by rw [List.length_append, List.length_take, bitsN_length, bits8_length, List.length_take]; omega) rfl rfl rfl rfl ?_)
          intro v3 w3 ho3 hb3 _ _
          have HO3 := Lib.hid (ho3.cast (show _ = bits8 (l0.take k) ++ (bitsN 8 x).take (8 - 5) by rw [show 8 - 5 = 2 + 1 from rfl, HT.out]; simp))
          have HB3 := Lib.hid hb3
          clear ho3 hb3
          go_wp2
          go_roundw
          case rel => exact ⟨5, by omega, by go_num, HO3, HB3⟩
          case measure => simp [intOf]
        · have HT := Lib.hid (bitsN_take 8 1 x (by omega))
          go_wp2_with (at_builtin; refine appi_one HO.out HB.out (by rw [List.length_append, List.length_take, bitsN_length, bits8_length, List.length_take]; omega) rfl rfl rfl rfl ?_)
          intro v3 w3 ho3 hb3 _ _
          have HO3 := Lib.hid (ho3.cast (show _ = bits8 (l0.take k) ++ (bitsN 8 x).take (8 - 6) by rw [show 8 - 6 = 1 + 1 from rfl, HT.out]; simp))
          have HB3 := Lib.hid hb3
          clear ho3 hb3
          go_wp2
          go_roundw
          case rel => exact ⟨6, by omega, by go_num, HO3, HB3⟩
          case measure => simp [intOf]
        · have HT := Lib.hid (bitsN_take 8 0 x (by omega))
          go_wp2_with (at_builtin; refine appi_one HO.out HB.out (by rw [List.length_append, List.length_take, bitsN_length, bits8_length, List.length_take]; omega) rfl rfl rfl rfl ?_)
          intro v3 w3 ho3 hb3 _ _
          have HO3 := Lib.hid (ho3.cast (show _ = bits8 (l0.take k) ++ (bitsN 8 x).take (8 - 7) by rw [show 8 - 7 = 0 + 1 from rfl, HT.out]; simp))
          have HB3 := Lib.hid hb3
          clear ho3 hb3
          go_wp2
          go_roundw
          case rel => exact ⟨7, by omega, by go_num, HO3, HB3⟩
          case measure => simp [intOf]
    · obtain rfl : k = n := by omega
      have dkn : decide ((k : Int) < k) = false := decide_eq_false (by omega)
      obtain ⟨B, hB⟩ : ∃ B, B = bits8 l0 := ⟨_, rfl⟩
      have hBL : B.length = 8 * k := by rw [hB, bits8_length, HL.out]
      have HZ := Lib.hid (show Zo (padded B) from padded_Zo B (hB ▸ bits8_Zo l0))
      rw [← hB] at HG
      have HO1 := Lib.hid (HO0.out.cast (show _ = B by rw [hB, List.take_of_length_le (by rw [HL.out]; exact Nat.le_refl _)]))
      have HBL := Lib.hid hBL
      clear hB HO0
      go_wp2
      obtain ⟨p, hp⟩ : ∃ p, p = (6 - B.length % 6) % 6 := ⟨_, rfl⟩
      have hp6 : p < 6 ∧ (8 * k + p) % 6 = 0 ∧ (∀ z, z < p → (8 * k + z) % 6 ≠ 0) := by rw [HBL.out] at hp; refine ⟨by omega, by omega, fun z hz => by omega⟩
      have HPE := Lib.hid (show B ++ List.replicate p 0 = padded B by rw [hp]; rfl)
      clear hp
      go_loopw [3] (fun v wr => ∃ z : Nat, z ≤ p ∧ Hid (OwnI w wr v (B ++ List.replicate z 0)) ∧ Hid (Below w.heap.size w wr)) (fun v _ => 8 * k + 6 - slen v)
      case atStart => exact ⟨0, by omega, Lib.hid (HO1.out.cast (by simp)), HB0⟩
      case round =>
        obtain ⟨z, hz, HO, HB⟩ := hrel
        obtain ⟨q, hq⟩ : ∃ q, q = 8 * k + z := ⟨_, rfl⟩
        have hlen : (B ++ List.replicate z 0).length = q := by rw [List.length_append, List.length_replicate, HBL.out, hq]
        have hql : q < 8 * k + 6 := by omega
        obtain ⟨A2, c2, rfl, hc2, hrd2⟩ := HO.out.reads
        rw [hlen] at hc2 hrd2 HO ⊢
        by_cases hzp : z < p
        · have hne := hp6.2.2 z hzp
          rw [← hq] at hne
          have d1 : ((q : Int) % 6 == 0) = false := beq_eq_false_iff_ne.2 (by omega)
          have d2 : ((q : Int) % 6 != 0) = true := by rw [bne, d1]; rfl
          have hL1 : (B ++ List.replicate z 0).length + 1 ≤ 17592186044416 := by rw [hlen]; omega
          have HZ3 := Lib.hid (show B ++ List.replicate z 0 ++ [0] = B ++ List.replicate (z + 1) 0 by rw [List.replicate_succ', List.append_assoc])
          have hlen3 : (B ++ List.replicate (z + 1) 0).length = q + 1 := by rw [List.length_append, List.length_replicate, HBL.out, hq]; omega
          have HLEN3 := Lib.hid hlen3
          clear hne hrd2 hq hlen hlen3
          go_wp2_with (at_builtin; refine appi_one HO.out HB.out hL1 rfl rfl rfl rfl ?_)
          intro v3 w3 ho3 hb3 _ _
          have HO3 := Lib.hid (ho3.cast (show _ = B ++ List.replicate (z + 1) 0 by rw [← HZ3.out]; simp only [List.append_assoc]))
          have HB3 := Lib.hid hb3
          clear ho3 hb3 HO HB
          obtain ⟨A3, c3, rfl, _, _⟩ := HO3.out.reads
          rw [HLEN3.out] at HO3 ⊢
          go_wp2
          go_roundw
          case rel => exact ⟨z + 1, by omega, HO3, HB3⟩
          case measure => simp [slen]; omega
        · obtain rfl : z = p := by omega
          have hq6 : q % 6 = 0 := by rw [hq]; exact hp6.2.1
          have d1 : ((q : Int) % 6 == 0) = true := beq_iff_eq.2 (by omega)
          have d2 : ((q : Int) % 6 != 0) = false := by rw [bne, d1]; rfl
          rw [HPE.out] at HO hrd2 hlen
          obtain ⟨P, hP⟩ : ∃ P, P = padded B := ⟨_, rfl⟩
          rw [← hP] at HG HO hrd2 hlen HZ
          have HRP := Lib.hid hrd2
          have HLP := Lib.hid hlen
          obtain ⟨w2, hw2⟩ : ∃ w2, w2 = wr := ⟨_, rfl⟩
          rw [← hw2] at HRP HB ⊢
          clear hrd2 hlen HO hP hp6 HPE hq hw2 HO1 HBL
          go_wp2
          go_loopw [7, 8] (fun v i wr => ∃ (g : Nat) (O : List Int) (st : ByteArray), 6 * g ≤ q ∧ i = .int .i64 ((6 * g : Nat) : Int) ∧ v = .string st ∧ Hid (st = strOfNums (O.map tr)) ∧ Hid (w2 = wr) ∧ Hid (O ++ grp6 (P.drop (6 * g)) = sp3 l0) ∧ O.length = g) (fun _ i _ => q - (intOf i).toNat)
          case atStart => exact ⟨0, [], _, by omega, rfl, rfl, Lib.hid rfl, Lib.hid rfl, Lib.hid (by rw [Nat.mul_zero, List.drop_zero, List.nil_append, HG.out]), rfl⟩
          case round =>
            obtain ⟨g, O, st, hg, rfl, rfl, HO, HW2, HS, hOl⟩ := hrel
            have hOl1 : O.length + 1 ≤ 140737488355328 := by omega
            have HOL := Lib.hid hOl
            clear hOl
            obtain ⟨s, hsg⟩ : ∃ s, s = 6 * g := ⟨_, rfl⟩
            rw [← hsg] at hg HS ⊢
            have hsm : s % 6 = 0 := by omega
            have HSG := Lib.hid hsg
            clear hsg
            by_cases hsq : s < q
            · have dsq : decide ((s : Int) < q) = true := decide_eq_true (by omega)
              have hs6 : s + 6 ≤ q := by omega
              have HGS := Lib.hid (grp6_step P s (by rw [HLP.out]; exact hs6))
              have H6 := Lib.hid (fun j hj => six_drop P s 6 j hj (by rw [HLP.out]; exact hs6))
              have HSL := Lib.hid (show ((P.drop s).take 6).length = 6 by rw [List.length_take, List.length_drop, HLP.out]; omega)
              obtain ⟨six, hsix⟩ : ∃ six, six = (P.drop s).take 6 := ⟨_, rfl⟩
              rw [← hsix] at HGS H6 HSL
              obtain ⟨V, hV⟩ : ∃ V, V = vf 0 six := ⟨_, rfl⟩
              rw [← hV] at HGS
              have HV := Lib.hid hV
              obtain ⟨ad2, rfl, hcell⟩ := RdI.cells (show RdI wr _ _ _ from HW2.out ▸ HRP.out) (by omega)
              have HCELL := Lib.hid hcell
              clear hsix hV hcell
              go_wp2
              go_loopw [9, 43] (fun nv i wr' => wr = wr' ∧ ∃ (j : Nat) (m : Int), j ≤ 6 ∧ i = .int .i64 j ∧ nv = .int .i64 m ∧ 0 ≤ m ∧ ((j = 0 → m < 1) ∧ (j = 1 → m < 2) ∧ (j = 2 → m < 4) ∧ (j = 3 → m < 8) ∧ (j = 4 → m < 16) ∧ (j = 5 → m < 32) ∧ (j = 6 → m < 64)) ∧ Hid (vf m (six.drop j) = V)) (fun _ i _ => 6 - (intOf i).toNat)
              case atStart => exact ⟨by first | rfl | trivial, 0, 0, by omega, rfl, rfl, by omega, by omega, Lib.hid (by rw [List.drop_zero, HV.out])⟩
              case round =>
                obtain ⟨rfl, j, m, hj, rfl, rfl, m0, mB, HVF⟩ := hrel
                by_cases hj6 : j < 6
                · have dj : decide ((j : Int) < 6) = true := decide_eq_true (by omega)
                  obtain ⟨b, hb⟩ : ∃ b, b = rd P ((s + j : Nat) : Int) := ⟨_, rfl⟩
                  have hx := HCELL.out (s + j) (by omega)
                  obtain ⟨b0, b1⟩ := HZ.out.rd (s + j) (by rw [HLP.out]; omega)
                  have HVF2 := Lib.hid (show vf (2 * m + b) (six.drop (j + 1)) = V by rw [← HVF.out, H6.out j hj6, ← hb]; rfl)
                  rw [← hb] at hx b0 b1
                  clear hb
                  have hw1 : IntKind.i64.wrap (2 * m) = 2 * m := wrap_idn (by omega) (by omega)
                  have hw2 : IntKind.i64.wrap ((s : Int) + j) = s + j := wrap_idn (by omega) (by omega)
                  have hw3 : IntKind.i64.wrap (2 * m + b) = 2 * m + b := wrap_idn (by omega) (by omega)
                  have i0 : (0 : Int) ≤ (s : Int) + j := by omega
                  have i1 : (s : Int) + j < q := by omega
                  have i2 : ((s : Int) + j).toNat = s + j := by omega
                  go_wp2
                  go_roundw
                  case rel => exact ⟨by first | rfl | trivial, j + 1, 2 * m + b, by omega, by go_num, by first | rfl | (rw [hw3]), by omega, by omega, HVF2⟩
                  case measure => simp [intOf]; omega
                · obtain rfl : j = 6 := by omega
                  have hVm : V = m := by rw [← HVF.out, List.drop_of_length_le (by rw [HSL.out]; exact Nat.le_refl _)]; rfl
                  have HS2 := Lib.hid (show O ++ [alpha m] ++ grp6 (P.drop (s + 6)) = sp3 l0 by rw [← HS.out, HGS.out, hVm, List.append_assoc]; rfl)
                  have hm64 : m < 64 := by omega
                  clear hVm mB
                  have hm1 : IntKind.i64.wrap (m + 1) = m + 1 := wrap_idn (by omega) (by omega)
                  have s1 : m ≤ m + 1 := by omega
                  have s2 : m + 1 ≤ 64 := by omega
                  have HSTR := Lib.hid (show st ++ b64S.extract m.toNat (m + 1).toNat = strOfNums ((O ++ [alpha m]).map tr) by rw [HO.out]; exact str_letter O m m0 hm64)
                  have hst1 : st.size = (O.map tr).length := by
                    rw [HO.out]
                    simp [strOfNums, ByteArray.size]
                  have hst : st.size ≤ 140737488355328 := by rw [hst1, List.length_map]; omega
                  clear hst1
                  go_wp2_with fail
                  go_roundw
                  case rel => exact ⟨g + 1, O ++ [alpha m], _, by have := HSG.out; omega, by have := HSG.out; go_num, by first | rfl | exact congrArg Value.string HSTR.out, Lib.hid (by first | rfl | exact HSTR.out), HW2, by rw [show 6 * (g + 1) = s + 6 by have := HSG.out; omega]; exact HS2, by rw [List.length_append, HOL.out]; rfl⟩
                  case measure => simp [intOf]; omega
            · obtain rfl : s = q := by omega
              have dsq : decide ((s : Int) < s) = false := decide_eq_false (by omega)
              have HE := Lib.hid (show O = sp3 l0 by rw [← HS.out, List.drop_of_length_le (by rw [HLP.out]; exact Nat.le_refl _)]; simp [grp6])
              have hw2 := HW2.out
              subst hw2
              obtain ⟨G, hG⟩ : ∃ G, G = (sp3 l0).map tr := ⟨_, rfl⟩
              obtain ⟨gl, hgl⟩ : ∃ gl, gl = G.length := ⟨_, rfl⟩
              obtain ⟨p9, hp9⟩ : ∃ p9, p9 = (3 - l0.length % 3) % 3 := ⟨_, rfl⟩
              have hgl2 : gl = (4 * l0.length + 2) / 3 := by rw [hgl, hG, List.length_map, sp3_length]
              have hq9 : (gl + p9) % 4 = 0 ∧ p9 < 3 ∧ ∀ z, z < p9 → (gl + z) % 4 ≠ 0 := by
                rw [hgl2, hp9]
                generalize l0.length = n
                obtain ⟨a, r, hr, rfl⟩ : ∃ a r, r < 3 ∧ n = 3 * a + r := ⟨n / 3, n % 3, by omega, by omega⟩
                have e : (3 * a + r) % 3 = r := by omega
                rw [e]
                rcases (by omega : r = 0 ∨ r = 1 ∨ r = 2) with rfl | rfl | rfl
                · have e2 : (4 * (3 * a + 0) + 2) / 3 = 4 * a := by omega
                  rw [e2]
                  exact ⟨by omega, by omega, fun z hz => by omega⟩
                · have e2 : (4 * (3 * a + 1) + 2) / 3 = 4 * a + 2 := by omega
                  rw [e2]
                  exact ⟨by omega, by omega, fun z hz => by omega⟩
                · have e2 : (4 * (3 * a + 2) + 2) / 3 = 4 * a + 3 := by omega
                  rw [e2]
                  exact ⟨by omega, by omega, fun z hz => by omega⟩
              have HF := Lib.hid (show G ++ List.replicate p9 61 = b64 l0 by rw [b64_sp3 l0 HY.out, hG, hp9])
              have hgb : gl ≤ 20000000000000 := by rw [hgl2, HL.out]; omega
              have HS9 := Lib.hid (show st = strOfNums (G ++ List.replicate 0 61) by rw [HO.out, HE.out, List.replicate_zero, List.append_nil, hG])
              have HGL := Lib.hid hgl.symm
              have HBB := Lib.hid HB.out
              clear HO HS hG hgl hp9 hgl2
              go_wp2
              go_loopw [7] (fun v wi => ∃ (z : Nat) (st' : ByteArray), z ≤ p9 ∧ v = .string st' ∧ Hid (st' = strOfNums (G ++ List.replicate z 61)) ∧ Hid (Below w.heap.size w wi)) (fun v _ => gl + 3 - strB v)
              case atStart => exact ⟨0, _, by omega, rfl, HS9, HBB⟩
              case round =>
                obtain ⟨z, st', hz, rfl, HST, HBi⟩ := hrel
                have hsz : st'.size = gl + z := by rw [HST.out]; simp [strOfNums, ByteArray.size, HGL.out]
                by_cases hzp : z < p9
                · have hne := hq9.2.2 z hzp
                  have f1 : (((gl + z : Nat) : Int) % 4 == 0) = false := beq_eq_false_iff_ne.2 (by omega)
                  have f2 : (((gl + z : Nat) : Int) % 4 != 0) = true := by rw [bne, f1]; rfl
                  obtain ⟨u, hu⟩ : ∃ u, u = gl + z := ⟨_, rfl⟩
                  rw [← hu] at hsz f1 f2
                  have hub : u ≤ 20000000000010 := by omega
                  have HN := Lib.hid (show st' ++ ⟨#[61]⟩ = strOfNums (G ++ List.replicate (z + 1) 61) by rw [HST.out, List.replicate_succ', ← List.append_assoc, ← str_app (G ++ List.replicate z 61) [61]]; rfl)
                  have HU := Lib.hid (show u < gl + 3 by have := hq9.2.1; omega)
                  clear hne hu
                  go_wp2
                  go_roundw
                  case rel => exact ⟨z + 1, _, by omega, by first | rfl | trivial, HN, HBi⟩
                  case measure =>
                    have hk := HU.out
                    simp only [strB, ByteArray.size_append, hsz]
                    have : (ByteArray.mk #[61]).size = 1 := rfl
                    omega
                · obtain rfl : z = p9 := by omega
                  have f1 : (((gl + z : Nat) : Int) % 4 == 0) = true := beq_iff_eq.2 (by omega)
                  have f2 : (((gl + z : Nat) : Int) % 4 != 0) = false := by rw [bne, f1]; rfl
                  obtain ⟨u, hu⟩ : ∃ u, u = gl + z := ⟨_, rfl⟩
                  rw [← hu] at hsz f1 f2
                  clear hu hq9
                  go_wp2
                  go_ret
                  exact ⟨by rw [HST.out, HF.out]; rfl, HBi.out⟩
end Go.Proofs.YtfhnchabifklnaaDoor
