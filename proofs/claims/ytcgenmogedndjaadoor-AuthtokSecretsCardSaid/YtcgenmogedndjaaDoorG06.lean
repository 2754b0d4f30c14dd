/- The texts Turn in one. -/
import Derived.Test.YtcgenmogedndjaaDoorG02
namespace Go.Proofs.YtcgenmogedndjaaDoor
open Go.RowKit Go.Proofs.YtcgenmogedndjaaDoorW.PrintWords
theorem Drawn0.trans {w w1 w2 : World} (h : Drawn0 w w1) (k : Drawn0 w1 w2) : Drawn0 w w2 := by
  obtain ⟨n, rfl⟩ := k
  exact h.step n
set_option maxHeartbeats 800000 in
theorem turn_calls (x : Int) (i j k : Nat) (w : World) (x0 : 0 ≤ x) (x1 : x < 4294967296) (hi : 1 ≤ i ∧ i < 32) (hj : 1 ≤ j ∧ j < 32) (hk : 1 ≤ k ∧ k < 32) :
    Calls Tryd.prog 71 #[.int .u32 x, .int .i64 i, .int .i64 j, .int .i64 k] w fun e w' => e = .returned (.int .u32 (turn x i j k)) ∧ Drawn0 w w' := by
  have wi : IntKind.i64.wrap (-(i : Int)) = -(i : Int) := by rw [IntKind.wrap_i64]; omega
  have wj : IntKind.i64.wrap (-(j : Int)) = -(j : Int) := by rw [IntKind.wrap_i64]; omega
  have wk : IntKind.i64.wrap (-(k : Int)) = -(k : Int) := by rw [IntKind.wrap_i64]; omega
  have hT : bits .xor .u32 (bits .xor .u32 (rotl x (32 - i)) (rotl x (32 - j))) (rotl x (32 - k)) = turn x i j k := rfl
  have HX := Lib.hid (show (0 ≤ x ∧ x < 4294967296) ∧ (1 ≤ i ∧ i < 32) ∧ (1 ≤ j ∧ j < 32) ∧ (1 ≤ k ∧ k < 32) from ⟨⟨x0, x1⟩, hi, hj, hk⟩)
  clear x0 x1 hi hj hk
  go_enter Tryd.func71, Tryd.ntmps71
  go_wp2_with fail
  refine (rot_calls x (-(i : Int)) _ HX.out.1.1 HX.out.1.2 (32 - i) (by have := HX.out; omega) (by have := HX.out; omega)).mono ?_
  rintro e w1 ⟨rfl, hd1⟩
  have HD1 := Lib.hid hd1
  clear hd1
  go_wp2_with fail
  refine (rot_calls x (-(j : Int)) _ HX.out.1.1 HX.out.1.2 (32 - j) (by have := HX.out; omega) (by have := HX.out; omega)).mono ?_
  rintro e w2 ⟨rfl, hd2⟩
  have HD2 := Lib.hid (Drawn0.trans HD1.out hd2)
  clear hd2
  go_wp2_with fail
  refine (rot_calls x (-(k : Int)) _ HX.out.1.1 HX.out.1.2 (32 - k) (by have := HX.out; omega) (by have := HX.out; omega)).mono ?_
  rintro e w3 ⟨rfl, hd3⟩
  have HD3 := Lib.hid (Drawn0.trans HD2.out hd3)
  clear hd3
  go_wp2
  go_ret
  exact ⟨rfl, HD3.out⟩
end Go.Proofs.YtcgenmogedndjaaDoor
