/- WireOrder: the walk of the law. -/
import Derived.Test.YthbdgakeglppbaaOrderLaw
import Derived.Test.YthbdgakeglppbaaNumber
import Derived.Test.YthbdgakeglppbaaInts
namespace Go.Proofs.Ythbdgakeglppbaa
open Go.RowKit Go.Proofs.YthbdgakeglppbaaW.PrintWords Go.Proofs.YthbdgakeglppbaaW.PrintMore
attribute [local go_sem] max2_int max_two
set_option maxHeartbeats 1600000 in
theorem WireOrder_walk (m n : Int) (w : World) (hm : (Lit.int .i64 m).wf = true) (hn : (Lit.int .i64 n).wf = true) :
    Calls Try.prog 4 #[.int .i64 m, .int .i64 n] w fun e w' => e = .returned (.bool true) ∧ Below w.heap.size w w' := by
  obtain ⟨m0, m1⟩ := int_wf hm
  obtain ⟨n0, n1⟩ := int_wf hn
  clear hm hn
  go_enter Try.func4, Try.ntmps4
  go_upto_region 1 with (fail)
  go_cut [0, 1] (fun v0 v1 wc => wc = w ∧ ∃ M N : Int, v0 = .int .i64 M ∧ v1 = .int .i64 N ∧ 0 ≤ M ∧ M < 9223372036854775808 ∧ 0 ≤ N ∧ N < 9223372036854775808)
  case first =>
    go_wp2
    all_goals
      go_meet
      case rel => exact ⟨rfl, _, _, rfl, rfl, by omega, by omega, by omega, by omega⟩
  case rest =>
    obtain ⟨rfl, M, N, rfl, rfl, M0, M1, N0, N1⟩ := hcut
    have hML := numForm_length M
    have hNL := numForm_length N
    obtain ⟨lm, hlm⟩ : ∃ lm, lm = numForm M := ⟨_, rfl⟩
    obtain ⟨ln, hln⟩ : ∃ ln, ln = numForm N := ⟨_, rfl⟩
    rw [← hlm] at hML
    rw [← hln] at hNL
    have BM := Lib.hid (show Bytes lm from hlm ▸ numForm_Bytes M)
    have BN := Lib.hid (show Bytes ln from hln ▸ numForm_Bytes N)
    have HM := Lib.hid hlm
    have HN := Lib.hid hln
    clear hlm hln
    go_wp2_with fail
    refine (Number_calls none 0 [] M _ (Kd.C_nil _ _) (by simp) (by omega) (by omega)).mono ?_
    rintro e w1 ⟨v1, rfl, ho1, hb1⟩
    rw [List.nil_append, ← HM.out] at ho1
    obtain ⟨A1, c1, rfl, hc1, hrd1⟩ := ho1.reads
    have HB1 := Lib.hid hb1
    have HR1 := Lib.hid hrd1
    clear ho1 hb1 hrd1
    go_wp2_with fail
    refine (Number_calls none 0 [] N _ (Kd.C_nil _ _) (by simp) (by omega) (by omega)).mono ?_
    rintro e w2 ⟨v2, rfl, ho2, hb2⟩
    rw [List.nil_append, ← HN.out] at ho2
    obtain ⟨A2, c2, rfl, hc2, hrd2⟩ := ho2.reads
    have HB2 := Lib.hid (below_step HB1.out hb2)
    have HR2 := Lib.hid hrd2
    have HR3 := Lib.hid (Kd.C_below HR1.out hb2)
    clear ho2 hb2 hrd2 HR1 HB1
    go_wp2_with fail
    refine (Compare_calls _ _ lm _ _ ln _ HR3.out HR2.out BM.out BN.out).mono ?_
    rintro e w' ⟨rfl, rfl⟩
    rcases Int.lt_trichotomy M N with h | h | h
    · rw [show cmpBytes lm ln = -1 by rw [HM.out, HN.out]; exact form_lt M N M0 h N1]
      have HP1 := Lib.hid (show decide (ln.length ≤ lm.length ∧ lm.take ln.length = ln) = false by rw [HM.out, HN.out]; exact form_prefix M N M0 M1 N0 N1 (by omega))
      have HP2 := Lib.hid (show decide (lm.length ≤ ln.length ∧ ln.take lm.length = lm) = false by rw [HM.out, HN.out]; exact form_prefix N M N0 N1 M0 M1 (by omega))
      have d1 : decide (M < N) = true := decide_eq_true h
      have d2 : (M == N) = false := beq_eq_false_iff_ne.2 (by omega)
      go_wp2_with fail
      refine (HasPrefix_calls _ _ lm _ _ ln _ HR3.out hc1 HR2.out BM.out BN.out).mono ?_
      rintro e w3 ⟨rfl, hd3⟩
      rw [HP1.out]
      have HB3 := Lib.hid (below_step HB2.out hd3.below)
      have HR4 := Lib.hid (Kd.C_below HR3.out hd3.below)
      have HR5 := Lib.hid (Kd.C_below HR2.out hd3.below)
      clear hd3
      go_wp2_with fail
      refine (HasPrefix_calls _ _ ln _ _ lm _ HR5.out hc2 HR4.out BN.out BM.out).mono ?_
      rintro e w4 ⟨rfl, hd4⟩
      rw [HP2.out]
      have HB4 := Lib.hid (below_step HB3.out hd4.below)
      clear hd4
      go_wp2
      go_ret
      exact ⟨ret_bool (by simp; omega), HB4.out⟩
    · rw [show cmpBytes lm ln = 0 by rw [HM.out, HN.out, h]; exact cmp_self _]
      have d1 : decide (M < N) = false := decide_eq_false (by omega)
      have d2 : (M == N) = true := beq_iff_eq.2 h
      clear h
      go_wp2
      go_ret
      exact ⟨ret_bool (by simp; omega), HB2.out⟩
    · rw [show cmpBytes lm ln = 1 by rw [HM.out, HN.out]; exact form_gt M N N0 h M1]
      have HP1 := Lib.hid (show decide (ln.length ≤ lm.length ∧ lm.take ln.length = ln) = false by rw [HM.out, HN.out]; exact form_prefix M N M0 M1 N0 N1 (by omega))
      have HP2 := Lib.hid (show decide (lm.length ≤ ln.length ∧ ln.take lm.length = lm) = false by rw [HM.out, HN.out]; exact form_prefix N M N0 N1 M0 M1 (by omega))
      have d1 : decide (M < N) = false := decide_eq_false (by omega)
      have d2 : (M == N) = false := beq_eq_false_iff_ne.2 (by omega)
      go_wp2_with fail
      refine (HasPrefix_calls _ _ lm _ _ ln _ HR3.out hc1 HR2.out BM.out BN.out).mono ?_
      rintro e w3 ⟨rfl, hd3⟩
      rw [HP1.out]
      have HB3 := Lib.hid (below_step HB2.out hd3.below)
      have HR4 := Lib.hid (Kd.C_below HR3.out hd3.below)
      have HR5 := Lib.hid (Kd.C_below HR2.out hd3.below)
      clear hd3
      go_wp2_with fail
      refine (HasPrefix_calls _ _ ln _ _ lm _ HR5.out hc2 HR4.out BN.out BM.out).mono ?_
      rintro e w4 ⟨rfl, hd4⟩
      rw [HP2.out]
      have HB4 := Lib.hid (below_step HB3.out hd4.below)
      clear hd4
      go_wp2
      go_ret
      exact ⟨ret_bool (by simp; omega), HB4.out⟩
end Go.Proofs.Ythbdgakeglppbaa
