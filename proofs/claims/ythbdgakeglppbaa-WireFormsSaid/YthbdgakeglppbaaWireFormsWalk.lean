/- WireForms: the walk of the law. -/
import Derived.Test.YthbdgakeglppbaaCursorAll
import Derived.Test.YthbdgakeglppbaaFrames1
namespace Go.Proofs.Ythbdgakeglppbaa
open Go.RowKit Go.Proofs.YthbdgakeglppbaaW.PrintWords
theorem readNum_seven : readNum [7] = (7, 1, 0) := rfl
theorem unframe_frame (l : List Int) (hb : Bytes l) (h : (unframe l).2.2 = 0) : ∃ k : Nat, (unframe l).2.1 = k ∧ k ≤ l.length ∧ (unframe l).1.length ≤ 65536 ∧ frameOf (unframe l).1 = l.take k := by
  unfold unframe at h ⊢
  by_cases h1 : l.length < 3
  · rw [if_pos h1] at h
    simp at h
  rw [if_neg h1] at h ⊢
  by_cases h2 : 65536 < unLen l
  · rw [if_pos h2] at h
    simp at h
  rw [if_neg h2] at h ⊢
  by_cases h3 : l.length < (unLen l).toNat + 7
  · rw [if_pos h3] at h
    simp at h
  rw [if_neg h3] at h ⊢
  by_cases h4 : frameOf (unMid l) = l.take ((unLen l).toNat + 7)
  · rw [if_pos h4]
    have := unMid_length l (by omega)
    have h5 := unLen_range l hb (by omega)
    exact ⟨(unLen l).toNat + 7, by simp only; omega, by omega, by simp only; omega, h4⟩
  · rw [if_neg h4] at h
    simp at h
theorem unframe_bad (l : List Int) (h : (unframe l).2.2 ≠ 0) : (unframe l).1 = [] ∧ (unframe l).2.1 = 0 := by
  unfold unframe at h ⊢
  repeat' split
  all_goals simp_all
theorem textForm_size (s : ByteArray) : s.size ≤ (textForm s).length := by
  unfold textForm
  rw [List.length_append, bytesOf_length]
  omega
set_option maxHeartbeats 800000 in
theorem WireForms_early (A0 : Option Addr) (n0 c0 : Nat) (w : World) (hbig : 262144 < n0) :
    Calls Try.prog 16 #[.slice A0 n0 c0] w fun e w' => e = .returned (.bool true) ∧ Below w.heap.size w w' := by
  have hd : decide (262144 < n0) = true := decide_eq_true hbig
  go_enter Try.func16, Try.ntmps16
  go_wp2_with fail
  refine (Sum_nil _).mono ?_
  rintro e w1 ⟨rfl, hd1⟩
  have HB1 := Lib.hid hd1.below
  clear hd1
  go_wp2
  go_ret
  exact ⟨rfl, HB1.out⟩
set_option maxRecDepth 20000 in
set_option maxHeartbeats 4000000 in
theorem WireForms_main (A0 : Option Addr) (n0 c0 : Nat) (l0 : List Int) (w : World) (hr0 : Rd w A0 n0 l0) (hc0 : n0 ≤ c0) (hb0 : Bytes l0) (hl0 : n0 ≤ 262144) :
    Calls Try.prog 16 #[.slice A0 n0 c0] w fun e w' => e = .returned (.bool true) ∧ Below w.heap.size w w' := by
  have hd : decide (262144 < n0) = false := decide_eq_false (by omega)
  have HR := Lib.hid hr0
  have HY := Lib.hid hb0
  have HL := Lib.hid (Kd.C_len hr0)
  clear hr0 hb0
  go_enter Try.func16, Try.ntmps16
  go_wp2_with fail
  obtain ⟨A, c, e, hc, hrd⟩ := (lit_one (Below.refl w.heap.size w) 7).reads
  cases e
  refine (From_calls _ _ [7] _ hrd (by decide)).mono ?_
  rintro e w1 ⟨g1, p1, A1, c1, rfl, hcur, hg1, hp1, hA1, hb1⟩
  have H1 := Lib.hid hcur
  have hal : Below w.heap.size w (w.alloc (.cells #[.int .u8 7] 5)) := below_alloc (Below.refl _ _) _
  have HB1 := Lib.hid (below_step hal hb1)
  have HP1 := Lib.hid (Nat.le_trans hal.size hp1)
  clear hcur hg1 hp1 hA1 hb1 hrd hc hal
  go_wp2_with fail
  refine (CNumber_ok _ H1.out (Bytes.con (by omega) (by omega) Bytes.nil) 7 1 rfl).mono ?_
  rintro e w2 ⟨rfl, _, hg2⟩
  have HB2 := Lib.hid (HB1.out.grown hg2 HB1.out.size (fun k hk => by cases hk; exact HP1.out))
  clear hg2 H1 HB1 HP1
  go_wp2_with fail
  refine (From_calls A0 c0 l0 _ (Kd.C_below HR.out HB2.out) (by omega)).mono ?_
  rintro e w3 ⟨g3, p3, A3, c3, rfl, hcur, hg, hp, hA, hb⟩
  have H3 := Lib.hid hcur
  have HP3 := Lib.hid (Nat.le_trans HB2.out.size hp)
  have HB3 := Lib.hid (below_step HB2.out hb)
  clear hcur hg hp hA hb HB2
  have hgood : (readNum l0).2.2 = 0 → numForm (readNum l0).1 = l0.take (readNum l0).2.1.toNat ∧ (readNum l0).2.1.toNat ≤ n0 ∧ 0 ≤ (readNum l0).1 ∧ (readNum l0).1 < 9223372036854775808 := by
    intro hE
    have hk := readNum_ok l0 HY.out hE
    have hl := HL.out
    exact ⟨numForm_read l0 HY.out (readNum l0).1 (readNum l0).2.1.toNat (by rw [← hE, Int.toNat_of_nonneg (by omega)]), by omega, hk.2.2⟩
  have hbad : (readNum l0).2.2 ≠ 0 → (readNum l0).2.1.toNat = 0 := by
    intro hE
    rw [(readNum_bad l0 hE).2]
    rfl
  go_wp2_with fail
  refine (CNumber_calls _ H3.out HY.out).mono ?_
  rintro e w4 ⟨rfl, hcur, hg⟩
  have HB4 := Lib.hid (HB3.out.grown hg HB3.out.size (fun k hk => by cases hk; exact HP3.out))
  have H4 := Lib.hid hcur
  clear hcur hg HB3 H3 HP3
  rw [List.drop_zero, Nat.zero_add] at H4
  rw [List.drop_zero]
  obtain ⟨N, hN⟩ : ∃ N, N = (readNum l0).1 := ⟨_, rfl⟩
  obtain ⟨E, hEq⟩ : ∃ E, E = (readNum l0).2.2 := ⟨_, rfl⟩
  obtain ⟨K, hK⟩ : ∃ K, K = (readNum l0).2.1.toNat := ⟨_, rfl⟩
  rw [← hN, ← hK, ← hEq] at hgood
  rw [← hEq, ← hK] at hbad
  rw [← hK] at H4
  rw [← hN, ← hEq]
  clear hN hEq hK
  go_upto_region 8 with (fail)
  go_cut [56] (fun v wc => v = .bool false ∧ Hid (Below w.heap.size w wc))
  case first =>
    by_cases hE : E = 0
    · have HF := Lib.hid (hgood hE).1
      have hKn := (hgood hE).2.1
      have d1 : (E == 0) = true := beq_iff_eq.2 hE
      have d2 : (E != 0) = false := by rw [bne, d1]; rfl
      obtain ⟨_, _, hN0, hN1⟩ := hgood hE
      clear hgood hbad hE
      have f6 : (K : Int) ≤ c0 := by omega
      go_wp2_with fail
      refine (Number_calls none 0 [] N _ (Kd.C_nil _ _) (by simp) (by omega) (by omega)).mono ?_
      rintro e w5 ⟨v5, rfl, ho5, hb5⟩
      rw [List.nil_append, HF.out] at ho5
      obtain ⟨A5, c5, rfl, hc5, hrd5⟩ := ho5.reads
      have hlk : (l0.take K).length = K := by rw [List.length_take, HL.out]; omega
      rw [hlk] at hc5 hrd5 ⊢
      clear hlk
      have HB5 := Lib.hid (below_step HB4.out hb5)
      have H5 := Lib.hid (H4.out.below hb5)
      have HR5 := Lib.hid hrd5
      have hk5 := Lib.hid (Kd.C_len hrd5)
      clear ho5 hb5 hrd5 H4
      go_wp2_with fail
      refine (At_calls _ H5.out).mono ?_
      rintro e w6 ⟨rfl, hd6⟩
      have HB6 := Lib.hid (below_step HB5.out hd6.below)
      have HR6 := Lib.hid (Kd.C_below HR5.out hd6.below)
      clear hd6 H5 HB5 HR5
      go_wp2_with fail
      refine (Equal_true _ _ (l0.take K) _ _ (l0.take K) _ HR6.out (Rd.take (Kd.C_below HR.out HB6.out) K hKn) (HY.out.tk K) rfl).mono ?_
      rintro e w7 ⟨rfl, hd7⟩
      have HB7 := Lib.hid (below_step HB6.out hd7.below)
      clear hd7
      go_wp2
      go_meet
      case rel => exact ⟨rfl, HB7⟩
    · have d1 : (E == 0) = false := beq_eq_false_iff_ne.2 hE
      have d2 : (E != 0) = true := by rw [bne, d1]; rfl
      have hk := hbad hE
      clear hgood hbad hE
      go_wp2_with fail
      refine (At_calls _ H4.out).mono ?_
      rintro e w6 ⟨rfl, hd6⟩
      have HB6 := Lib.hid (below_step HB4.out hd6.below)
      have d3 : ((K : Int) != 0) = false := by subst hk; rfl
      clear hd6
      go_wp2
      go_meet
      case rel => exact ⟨rfl, HB6⟩
  case rest =>
    obtain ⟨rfl, HB5⟩ := hcut
    go_wp2_with fail
    refine (From_calls A0 c0 l0 _ (Kd.C_below HR.out HB5.out) (by omega)).mono ?_
    rintro e w6 ⟨g6, p6, A6, c6, rfl, hcur, hg, hp, hA, hb⟩
    have H6 := Lib.hid hcur
    have HP6 := Lib.hid (Nat.le_trans HB5.out.size hp)
    have HB6 := Lib.hid (below_step HB5.out hb)
    clear hcur hg hp hA hb HB5
    have hgood : (readText l0 n0).2.2 = 0 → textForm (strOfNums (readText l0 n0).1) = l0.take (readText l0 n0).2.1 ∧ (readText l0 n0).2.1 ≤ n0 := by
      intro hE
      have hk := textForm_read l0 HY.out n0 hE
      rw [HL.out] at hk
      exact hk
    have hbad : (readText l0 n0).2.2 ≠ 0 → (readText l0 n0).2.1 = 0 := readText_bad l0 n0
    go_wp2_with fail
    refine (CText_calls n0 _ H6.out HY.out).mono ?_
    rintro e w7 ⟨rfl, hcur, hg⟩
    have HB7 := Lib.hid (HB6.out.grown hg HB6.out.size (fun k hk => by cases hk; exact HP6.out))
    have H7 := Lib.hid hcur
    clear hcur hg HB6 H6 HP6
    rw [List.drop_zero, Nat.zero_add] at H7
    rw [List.drop_zero]
    obtain ⟨S, hN⟩ : ∃ S, S = strOfNums (readText l0 n0).1 := ⟨_, rfl⟩
    obtain ⟨E, hEq⟩ : ∃ E, E = (readText l0 n0).2.2 := ⟨_, rfl⟩
    obtain ⟨K, hK⟩ : ∃ K, K = (readText l0 n0).2.1 := ⟨_, rfl⟩
    rw [← hN, ← hK, ← hEq] at hgood
    rw [← hEq, ← hK] at hbad
    rw [← hK] at H7
    rw [← hN, ← hEq]
    clear hN hEq hK
    go_upto_region 12 with (fail)
    go_cut [86] (fun v wc => v = .bool false ∧ Hid (Below w.heap.size w wc))
    case first =>
      by_cases hE : E = 0
      · have HF := Lib.hid (hgood hE).1
        have hKn := (hgood hE).2
        have d1 : (E == 0) = true := beq_iff_eq.2 hE
        have d2 : (E != 0) = false := by rw [bne, d1]; rfl
        have hS : S.size ≤ 262144 := by
          have h1 := textForm_size S
          rw [HF.out, List.length_take] at h1
          omega
        clear hgood hbad hE
        have f6 : (K : Int) ≤ c0 := by omega
        go_wp2_with fail
        refine (Text_calls none 0 [] S _ (Kd.C_nil _ _) (by simp only [List.length_nil, Nat.zero_add]; omega)).mono ?_
        rintro e w5 ⟨v5, rfl, ho5, hb5⟩
        rw [List.nil_append, HF.out] at ho5
        obtain ⟨A5, c5, rfl, hc5, hrd5⟩ := ho5.reads
        have hlk : (l0.take K).length = K := by rw [List.length_take, HL.out]; omega
        rw [hlk] at hc5 hrd5 ⊢
        clear hlk
        have HB5 := Lib.hid (below_step HB7.out hb5)
        have H5 := Lib.hid (H7.out.below hb5)
        have HR5 := Lib.hid hrd5
        have hk5 := Lib.hid (Kd.C_len hrd5)
        clear ho5 hb5 hrd5 H7
        go_wp2_with fail
        refine (At_calls _ H5.out).mono ?_
        rintro e w6 ⟨rfl, hd6⟩
        have HB6 := Lib.hid (below_step HB5.out hd6.below)
        have HR6 := Lib.hid (Kd.C_below HR5.out hd6.below)
        clear hd6 H5 HB5 HR5
        go_wp2_with fail
        refine (Equal_true _ _ (l0.take K) _ _ (l0.take K) _ HR6.out (Rd.take (Kd.C_below HR.out HB6.out) K hKn) (HY.out.tk K) rfl).mono ?_
        rintro e w7 ⟨rfl, hd7⟩
        have HB7 := Lib.hid (below_step HB6.out hd7.below)
        clear hd7
        go_wp2
        go_meet
        case rel => exact ⟨rfl, HB7⟩
      · have d1 : (E == 0) = false := beq_eq_false_iff_ne.2 hE
        have d2 : (E != 0) = true := by rw [bne, d1]; rfl
        have hk := hbad hE
        clear hgood hbad hE
        go_wp2_with fail
        refine (At_calls _ H7.out).mono ?_
        rintro e w6 ⟨rfl, hd6⟩
        have HB6 := Lib.hid (below_step HB7.out hd6.below)
        have d3 : ((K : Int) != 0) = false := by subst hk; rfl
        clear hd6
        go_wp2
        go_meet
        case rel => exact ⟨rfl, HB6⟩
    case rest =>
      obtain ⟨rfl, HB8⟩ := hcut
      have hgood := unframe_frame l0 HY.out
      have hbad := unframe_bad l0
      go_wp2_with fail
      refine (Unframe_calls A0 c0 l0 _ (Kd.C_below HR.out HB8.out) hc0 HY.out (by omega)).mono ?_
      rintro e w9 ⟨v9, rfl, ho9, hb9⟩
      obtain ⟨P, hP⟩ : ∃ P, P = (unframe l0).1 := ⟨_, rfl⟩
      obtain ⟨M, hM⟩ : ∃ M, M = (unframe l0).2.1 := ⟨_, rfl⟩
      obtain ⟨E, hEq⟩ : ∃ E, E = (unframe l0).2.2 := ⟨_, rfl⟩
      rw [← hP, ← hM, ← hEq] at hgood hbad
      rw [← hP] at ho9
      rw [← hM, ← hEq]
      clear hP hM hEq
      obtain ⟨A9, c9, rfl, hc9, hrd9⟩ := ho9.reads
      have HB9 := Lib.hid (below_step HB8.out hb9)
      have HR9 := Lib.hid hrd9
      clear ho9 hb9 hrd9 HB8
      by_cases hE : E = 0
      · obtain ⟨k, rfl, hk, hP, hF⟩ := hgood hE
        rw [HL.out] at hk
        have HF := Lib.hid hF
        clear hgood hbad hF
        subst hE
        have f6 : (k : Int) ≤ c0 := by omega
        have f7 : decide ((k : Int) ≤ n0) = true := decide_eq_true (by omega)
        go_wp2_with fail
        refine (Frame_ok A9 c9 P w9 HR9.out hP).mono ?_
        rintro e w10 ⟨v10, rfl, ho10, hb10⟩
        rw [HF.out] at ho10
        obtain ⟨A10, c10, rfl, hc10, hrd10⟩ := ho10.reads
        have hlk : (l0.take k).length = k := by rw [List.length_take, HL.out]; omega
        rw [hlk] at hc10 hrd10 ⊢
        clear hlk
        have HB10 := Lib.hid (below_step HB9.out hb10)
        have HR10 := Lib.hid hrd10
        clear ho10 hb10 hrd10 HB9 HR9
        go_wp2_with fail
        refine (Equal_true _ _ (l0.take k) _ _ (l0.take k) _ HR10.out (Rd.take (Kd.C_below HR.out HB10.out) k hk) (HY.out.tk k) rfl).mono ?_
        rintro e w11 ⟨rfl, hd11⟩
        have HB11 := Lib.hid (below_step HB10.out hd11.below)
        clear hd11
        go_wp2
        go_ret
        exact ⟨rfl, HB11.out⟩
      · obtain ⟨rfl, rfl⟩ := hbad hE
        have d1 : (E == 0) = false := beq_eq_false_iff_ne.2 hE
        have d2 : (E != 0) = true := by rw [bne, d1]; rfl
        clear hgood hbad hE
        go_wp2
        go_ret
        exact ⟨rfl, HB9.out⟩
theorem WireForms_walk (A0 : Option Addr) (c0 : Nat) (l0 : List Int) (w : World) (hr0 : Rd w A0 l0.length l0) (hc0 : l0.length ≤ c0) (_hs0 : l0.length ≤ 140737488351232) (hb0 : Bytes l0) :
    Calls Try.prog 16 #[.slice A0 l0.length c0] w fun e w' => e = .returned (.bool true) ∧ Below w.heap.size w w' := by
  by_cases hbig : 262144 < l0.length
  · exact WireForms_early A0 _ c0 w hbig
  · exact WireForms_main A0 _ c0 l0 w hr0 hc0 hb0 (by omega)
end Go.Proofs.Ythbdgakeglppbaa
