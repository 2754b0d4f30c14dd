/- WireSums: the walk of the law. -/
import Derived.Test.YthbdgakeglppbaaSumRef
import Derived.Lib.SmallJoins
namespace Go.Proofs.Ythbdgakeglppbaa
open Go.RowKit Go.Proofs.YthbdgakeglppbaaW.PrintWords
theorem sum_123456789 : wireSum [49, 50, 51, 52, 53, 54, 55, 56, 57] = 3808858755 := by decide +kernel
set_option maxHeartbeats 800000 in
theorem WireSums_walk (A0 : Option Addr) (c0 : Nat) (l0 : List Int) (w : World) (hr0 : Kd.C (Kd.int .u8) w A0 l0.length l0) (hc0 : l0.length ≤ c0) (_hs0 : l0.length ≤ 140737488351232) (hb0 : Bytes l0) :
    Calls Try.prog 3 #[.slice A0 l0.length c0] w fun e w' => e = .returned (.bool true) ∧ Below w.heap.size w w' := by
  have hm0 := Kd.C_max hr0
  have HR := Lib.hid hr0
  have HBY := Lib.hid hb0
  clear hr0 hb0
  have kc := fun (w : World) (C : Array Value) (n c g : Nat) (hg : g = w.heap.size) => Joins.run_convert_bytes_const_at (P := Try.prog) w 22 5 C n c g hg Try.underlying22 Try.underlying5
  have HC : ∀ W : World, (Kd.int .u8).C (W.alloc (.cells #[.int .u8 49, .int .u8 50, .int .u8 51, .int .u8 52, .int .u8 53, .int .u8 54, .int .u8 55, .int .u8 56, .int .u8 57] 5 (9, 10))) (some ⟨W.heap.size, 0, none⟩) 9 [49, 50, 51, 52, 53, 54, 55, 56, 57] :=
    fun W => C_const W 5 [49, 50, 51, 52, 53, 54, 55, 56, 57] (9, 10) (by decide)
  have HC := Lib.hid HC
  have HF := Lib.hid (show wire_Sum.f [49, 50, 51, 52, 53, 54, 55, 56, 57] = some 3808858755 from congrArg some sum_123456789)
  by_cases hbig : 262144 < l0.length
  · have hd : decide (262144 < l0.length) = true := decide_eq_true hbig
    go_enter Try.func3, Try.ntmps3
    go_wp2_with (go_at_call 18; (with_reducible refine (wire_Sum.calls _ _ [49, 50, 51, 52, 53, 54, 55, 56, 57] _ _ (HC.out _) (Nat.le_refl _) HF.out).mono ?_); rintro e w1 ⟨rfl, hd1⟩)
    go_ret
    exact ⟨rfl, below_then (below_alloc (Below.refl _ _) _) (by simp) hd1.below⟩
  · have hd : decide (262144 < l0.length) = false := decide_eq_false hbig
    go_enter Try.func3, Try.ntmps3
    go_wp2_with (first | (go_at_call 18; (with_reducible refine (wire_Sum.calls _ _ l0 _ _ HR.out hc0 rfl).mono ?_); rintro e w1 ⟨rfl, hd1⟩; have HB1 := Lib.hid hd1.below; have HR1 := Lib.hid (Kd.C_below HR.out HB1.out); clear hd1 HR) | (go_at_call 19; (with_reducible refine (SumRef_calls _ _ l0 _ HR1.out HBY.out).mono ?_); rintro e w2 ⟨rfl, hd2⟩; have HB2 := Lib.hid (below_step HB1.out hd2.below); clear hd2) | (go_at_call 18; (with_reducible refine (wire_Sum.calls _ _ [49, 50, 51, 52, 53, 54, 55, 56, 57] _ _ (HC.out _) (Nat.le_refl _) HF.out).mono ?_); rintro e w3 ⟨rfl, hd3⟩))
    go_ret
    exact ⟨rfl, below_then (below_alloc HB2.out _) (by have := HB2.out.size; simp; omega) hd3.below⟩
end Go.Proofs.Ythbdgakeglppbaa
