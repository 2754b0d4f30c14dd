/- DigestBase: the walk of the law. -/
import Derived.Test.YtfhnchabifklnaaDoorBase64Ref
import Derived.Test.YtfhnchabifklnaaDoorAwake
import Derived.Test.YtfhnchabifklnaaDoorSEqual
import Derived.Test.YtfhnchabifklnaaDoorClone
namespace Go.Proofs.YtfhnchabifklnaaDoor
open Go.RowKit Go.Proofs.YtfhnchabifklnaaDoorW.PrintWords
set_option maxHeartbeats 1600000 in
theorem DigestBase_walk (A0 : Option Addr) (c0 : Nat) (l0 : List Int) (w : World) (hG : Laid w) (hr0 : Kd.C (Kd.int .u8) w A0 l0.length l0) (hc0 : l0.length ≤ c0) (hs0 : l0.length ≤ 140737488351232) (hb0 : Bytes l0) :
    Calls Tryd.prog 5 #[.slice A0 l0.length c0] w fun e w' => e = .returned (.bool true) ∧ Below w.heap.size w w' := by
  obtain ⟨n0, hn0⟩ : ∃ n, n = l0.length := ⟨_, rfl⟩
  have hcl := fun W (h : Rd W A0 l0.length l0) => bytes_Clone.calls A0 c0 l0 l0 W h hc0 (if_pos (by omega))
  rw [← hn0] at hr0 hc0 hcl ⊢
  have HI := Lib.hid (show Rd w A0 n0 l0 ∧ Bytes l0 ∧ Laid w ∧ n0 = l0.length from ⟨hr0, hb0, hG, hn0⟩)
  have HCL := Lib.hid hcl
  clear hr0 hb0 hG hn0 hcl hs0
  go_enter Tryd.func5, Tryd.ntmps5
  by_cases hbig : 20000 < n0
  · have d1 : decide (20000 < (n0 : Int)) = true := decide_eq_true (by omega)
    have d1' : decide (20000 < n0) = true := decide_eq_true hbig
    go_wp2_with (go_at_call 11; with_reducible refine (awake_calls _ HI.out.2.2.1).mono ?_; rintro e w6 ⟨rfl, hb6⟩; have HB6 := Lib.hid hb6; clear hb6)
    go_ret
    exact ⟨rfl, HB6.out⟩
  · have d1 : decide (20000 < (n0 : Int)) = false := decide_eq_false (by omega)
    have d1' : decide (20000 < n0) = false := decide_eq_false hbig
    go_wp2_with fail
    refine (HCL.out _ HI.out.1).mono ?_
    rintro e w1 ⟨v1, rfl, ho1, hb1⟩
    replace ho1 : Own w w1 v1 l0 := ho1
    obtain ⟨A1, c1, rfl, hc1, hr1⟩ := ho1.reads
    rw [← HI.out.2.2.2] at hc1 hr1 ⊢
    have HR1 := Lib.hid (show Rd w1 A1 n0 l0 ∧ n0 ≤ c1 ∧ Below w.heap.size w w1 from ⟨hr1, hc1, hb1⟩)
    have HN := Lib.hid (show n0 ≤ 20000 by omega)
    clear ho1 hc1 hr1 hb1 hbig
    go_wp2_with (first
      | (go_at_call 11; with_reducible refine (awake_calls _ (HI.out.2.2.1.below HB4.out HI.out.2.2.1.lt)).mono ?_; rintro e w6 ⟨rfl, hb6⟩; have HB6 := Lib.hid (below_step HB4.out hb6); clear hb6)
      | (go_at_call 14; with_reducible refine (SEqual_calls _ _ l0 _ _ l0 _ (Kd.C_below HR1.out.1 HB3.out.2) (Kd.C_below HI.out.1 HB3.out.1) HI.out.2.1 HI.out.2.1).mono ?_; rintro e w4 ⟨he4, hd4⟩; obtain rfl : e = .returned (.bool true) := (by rw [he4]; simp); have HB4 := Lib.hid (below_step HB3.out.1 hd4.below); clear hd4)
      | (go_at_call 19; with_reducible refine (Base64Ref_calls A0 c0 l0 _ (Kd.C_below HI.out.1 HB2.out.1) HI.out.2.1 (by have := HN.out; omega)).mono ?_; rintro e w3 ⟨rfl, hb3⟩; have HB3 := Lib.hid (show Below w.heap.size w w3 ∧ Below w1.heap.size w1 w3 from ⟨below_step HB2.out.1 hb3, below_step HB2.out.2 hb3⟩); clear hb3)
      | (go_at_call 18; with_reducible refine (Base64_calls A1 c1 l0 _ HR1.out.1 HI.out.2.1 HR1.out.2.1 (by have := HN.out; omega)).mono ?_; rintro e w2 ⟨rfl, hb2⟩; have HB2 := Lib.hid (show Below w.heap.size w w2 ∧ Below w1.heap.size w1 w2 from ⟨below_step HR1.out.2.2 hb2, hb2⟩); clear hb2))
    go_ret
    exact ⟨rfl, HB6.out⟩
end Go.Proofs.YtfhnchabifklnaaDoor
