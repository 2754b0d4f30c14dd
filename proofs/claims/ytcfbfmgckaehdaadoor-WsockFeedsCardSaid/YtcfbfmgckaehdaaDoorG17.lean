/- The texts WsText in one. -/
import Derived.Test.YtcfbfmgckaehdaaDoorG08
import Derived.Test.YtcfbfmgckaehdaaDoorG11
import Derived.Test.YtcfbfmgckaehdaaDoorG12
import Derived.Test.YtcfbfmgckaehdaaDoorG16
namespace Go.Proofs.YtcfbfmgckaehdaaDoor
open Go.RowKit Go.Proofs.YtcfbfmgckaehdaaDoorW.PrintWords
def mayB (code : Int) : Bool := decide (1000 ≤ code ∧ code ≤ 1003 ∨ 1007 ≤ code ∧ code ≤ 1011 ∨ 3000 ≤ code ∧ code ≤ 4999)
theorem may_calls (code : Int) (w : World) : Calls Tryd.prog 46 #[.int .i64 code] w fun e w' => e = .returned (.bool (mayB code)) ∧ w' = w := by
  have hh : (code ≤ 999) ∨ (1000 ≤ code ∧ code ≤ 1003) ∨ (1004 ≤ code ∧ code ≤ 1006) ∨ (1007 ≤ code ∧ code ≤ 1011) ∨ (1012 ≤ code ∧ code ≤ 2999) ∨ (3000 ≤ code ∧ code ≤ 4999) ∨ (5000 ≤ code) := by omega
  rcases hh with h | h | h | h | h | h | h
  · have d0 : decide (1000 ≤ code) = false := decide_eq_false (by omega)
    have d1 : decide (code ≤ 1003) = true := decide_eq_true (by omega)
    have d2 : decide (1007 ≤ code) = false := decide_eq_false (by omega)
    have d3 : decide (code ≤ 1011) = true := decide_eq_true (by omega)
    have d4 : decide (3000 ≤ code) = false := decide_eq_false (by omega)
    have d5 : decide (code ≤ 4999) = true := decide_eq_true (by omega)
    rw [show mayB code = false from decide_eq_false (by omega)]
    clear h
    go_enter Tryd.func46, Tryd.ntmps46
    go_wp2
    go_ret
    exact ⟨rfl, rfl⟩
  · have d0 : decide (1000 ≤ code) = true := decide_eq_true (by omega)
    have d1 : decide (code ≤ 1003) = true := decide_eq_true (by omega)
    have d2 : decide (1007 ≤ code) = false := decide_eq_false (by omega)
    have d3 : decide (code ≤ 1011) = true := decide_eq_true (by omega)
    have d4 : decide (3000 ≤ code) = false := decide_eq_false (by omega)
    have d5 : decide (code ≤ 4999) = true := decide_eq_true (by omega)
    rw [show mayB code = true from decide_eq_true (by omega)]
    clear h
    go_enter Tryd.func46, Tryd.ntmps46
    go_wp2
    go_ret
    exact ⟨rfl, rfl⟩
  · have d0 : decide (1000 ≤ code) = true := decide_eq_true (by omega)
    have d1 : decide (code ≤ 1003) = false := decide_eq_false (by omega)
    have d2 : decide (1007 ≤ code) = false := decide_eq_false (by omega)
    have d3 : decide (code ≤ 1011) = true := decide_eq_true (by omega)
    have d4 : decide (3000 ≤ code) = false := decide_eq_false (by omega)
    have d5 : decide (code ≤ 4999) = true := decide_eq_true (by omega)
    rw [show mayB code = false from decide_eq_false (by omega)]
    clear h
    go_enter Tryd.func46, Tryd.ntmps46
    go_wp2
    go_ret
    exact ⟨rfl, rfl⟩
  · have d0 : decide (1000 ≤ code) = true := decide_eq_true (by omega)
    have d1 : decide (code ≤ 1003) = false := decide_eq_false (by omega)
    have d2 : decide (1007 ≤ code) = true := decide_eq_true (by omega)
    have d3 : decide (code ≤ 1011) = true := decide_eq_true (by omega)
    have d4 : decide (3000 ≤ code) = false := decide_eq_false (by omega)
    have d5 : decide (code ≤ 4999) = true := decide_eq_true (by omega)
    rw [show mayB code = true from decide_eq_true (by omega)]
    clear h
    go_enter Tryd.func46, Tryd.ntmps46
    go_wp2
    go_ret
    exact ⟨rfl, rfl⟩
  · have d0 : decide (1000 ≤ code) = true := decide_eq_true (by omega)
    have d1 : decide (code ≤ 1003) = false := decide_eq_false (by omega)
    have d2 : decide (1007 ≤ code) = true := decide_eq_true (by omega)
    have d3 : decide (code ≤ 1011) = false := decide_eq_false (by omega)
    have d4 : decide (3000 ≤ code) = false := decide_eq_false (by omega)
    have d5 : decide (code ≤ 4999) = true := decide_eq_true (by omega)
    rw [show mayB code = false from decide_eq_false (by omega)]
    clear h
    go_enter Tryd.func46, Tryd.ntmps46
    go_wp2
    go_ret
    exact ⟨rfl, rfl⟩
  · have d0 : decide (1000 ≤ code) = true := decide_eq_true (by omega)
    have d1 : decide (code ≤ 1003) = false := decide_eq_false (by omega)
    have d2 : decide (1007 ≤ code) = true := decide_eq_true (by omega)
    have d3 : decide (code ≤ 1011) = false := decide_eq_false (by omega)
    have d4 : decide (3000 ≤ code) = true := decide_eq_true (by omega)
    have d5 : decide (code ≤ 4999) = true := decide_eq_true (by omega)
    rw [show mayB code = true from decide_eq_true (by omega)]
    clear h
    go_enter Tryd.func46, Tryd.ntmps46
    go_wp2
    go_ret
    exact ⟨rfl, rfl⟩
  · have d0 : decide (1000 ≤ code) = true := decide_eq_true (by omega)
    have d1 : decide (code ≤ 1003) = false := decide_eq_false (by omega)
    have d2 : decide (1007 ≤ code) = true := decide_eq_true (by omega)
    have d3 : decide (code ≤ 1011) = false := decide_eq_false (by omega)
    have d4 : decide (3000 ≤ code) = true := decide_eq_true (by omega)
    have d5 : decide (code ≤ 4999) = false := decide_eq_false (by omega)
    rw [show mayB code = false from decide_eq_false (by omega)]
    clear h
    go_enter Tryd.func46, Tryd.ntmps46
    go_wp2
    go_ret
    exact ⟨rfl, rfl⟩
set_option maxHeartbeats 1600000 in
theorem MayRef_calls (code : Int) (w : World) : Calls Tryd.prog 47 #[.int .i64 code] w fun e w' => e = .returned (.bool (mayB code)) ∧ Below w.heap.size w w' := by
  obtain ⟨W1, hW1⟩ : ∃ W, W = w.alloc (.cells #[.int .i64 1000, .int .i64 1003] 3) := ⟨_, rfl⟩
  obtain ⟨W2, hW2⟩ : ∃ W, W = W1.alloc (.cells #[.int .i64 1007, .int .i64 1011] 3) := ⟨_, rfl⟩
  obtain ⟨W3, hW3⟩ : ∃ W, W = W2.alloc (.cells #[.int .i64 3000, .int .i64 4999] 3) := ⟨_, rfl⟩
  obtain ⟨W4, hW4⟩ : ∃ W, W = W3.alloc (.cells #[.slice (some ⟨w.heap.size, 0, none⟩) 2 2, .slice (some ⟨w.heap.size + 1, 0, none⟩) 2 2, .slice (some ⟨w.heap.size + 2, 0, none⟩) 2 2] 42) := ⟨_, rfl⟩
  have z1 : W1.heap.size = w.heap.size + 1 := by rw [hW1, size_alloc]
  have z2 : W2.heap.size = w.heap.size + 2 := by rw [hW2, size_alloc, z1]
  have z3 : W3.heap.size = w.heap.size + 3 := by rw [hW3, size_alloc, z2]
  have b1 : Below w.heap.size w W1 := by rw [hW1]; exact below_alloc (Below.refl _ _) _
  have b12 : Below W1.heap.size W1 W2 := by rw [hW2]; exact below_alloc (Below.refl _ _) _
  have b23 : Below W2.heap.size W2 W3 := by rw [hW3]; exact below_alloc (Below.refl _ _) _
  have b34 : Below W3.heap.size W3 W4 := by rw [hW4]; exact below_alloc (Below.refl _ _) _
  have k1 : Whole W1 w.heap.size 3 #[.int .i64 1000, .int .i64 1003] := by rw [hW1]; exact Whole.new w _ _
  have k2 : Whole W2 (w.heap.size + 1) 3 #[.int .i64 1007, .int .i64 1011] := by rw [hW2, ← z1]; exact Whole.new W1 _ _
  have k3 : Whole W3 (w.heap.size + 2) 3 #[.int .i64 3000, .int .i64 4999] := by rw [hW3, ← z2]; exact Whole.new W2 _ _
  have k4 : Whole W4 (w.heap.size + 3) 42 #[.slice (some ⟨w.heap.size, 0, none⟩) 2 2, .slice (some ⟨w.heap.size + 1, 0, none⟩) 2 2, .slice (some ⟨w.heap.size + 2, 0, none⟩) 2 2] := by rw [hW4, ← z3]; exact Whole.new W3 _ _
  have k1' := ((k1.below b12 k1.lt).below b23 (k1.below b12 k1.lt).lt).below b34 ((k1.below b12 k1.lt).below b23 (k1.below b12 k1.lt).lt).lt
  have k2' := (k2.below b23 k2.lt).below b34 (k2.below b23 k2.lt).lt
  have k3' := k3.below b34 k3.lt
  have HB := Lib.hid (below_step (below_step (below_step b1 b12) b23) b34)
  have HW4 := Lib.hid (show W4 = (((w.alloc (.cells #[.int .i64 1000, .int .i64 1003] 3)).alloc (.cells #[.int .i64 1007, .int .i64 1011] 3)).alloc (.cells #[.int .i64 3000, .int .i64 4999] 3)).alloc (.cells #[.slice (some ⟨w.heap.size, 0, none⟩) 2 2, .slice (some ⟨w.heap.size + 1, 0, none⟩) 2 2, .slice (some ⟨w.heap.size + 2, 0, none⟩) 2 2] 42) by rw [hW4, hW3, hW2, hW1])
  have o0 := k4.cell 0 _ rfl
  have o1 := k4.cell 1 _ rfl
  have o2 := k4.cell 2 _ rfl
  have p0 := k1'.cell 0 _ rfl
  have p1 := k1'.cell 1 _ rfl
  have p2 := k2'.cell 0 _ rfl
  have p3 := k2'.cell 1 _ rfl
  have p4 := k3'.cell 0 _ rfl
  have p5 := k3'.cell 1 _ rfl
  clear hW1 hW2 hW3 hW4 z1 z2 z3 b1 b12 b23 b34 k1 k2 k3 k4 k1' k2' k3'
  have hh : (code ≤ 999) ∨ (1000 ≤ code ∧ code ≤ 1003) ∨ (1004 ≤ code ∧ code ≤ 1006) ∨ (1007 ≤ code ∧ code ≤ 1011) ∨ (1012 ≤ code ∧ code ≤ 2999) ∨ (3000 ≤ code ∧ code ≤ 4999) ∨ (5000 ≤ code) := by omega
  rcases hh with h | h | h | h | h | h | h
  · have d0 : decide (1000 ≤ code) = false := decide_eq_false (by omega)
    have d1 : decide (code ≤ 1003) = true := decide_eq_true (by omega)
    have d2 : decide (1007 ≤ code) = false := decide_eq_false (by omega)
    have d3 : decide (code ≤ 1011) = true := decide_eq_true (by omega)
    have d4 : decide (3000 ≤ code) = false := decide_eq_false (by omega)
    have d5 : decide (code ≤ 4999) = true := decide_eq_true (by omega)
    rw [show mayB code = false from decide_eq_false (by omega)]
    clear h
    go_enter Tryd.func47, Tryd.ntmps47
    go_wp2_with fail
    skip
    go_loopw [10] (fun i wr => ∃ k : Nat, i = .int .i64 k ∧ k ≤ 3 ∧ W4 = wr) (fun i _ => 4 - (intOf i).toNat)
    case atStart => exact ⟨0, rfl, by omega, HW4.out⟩
    case round =>
      obtain ⟨k, rfl, hk, rfl⟩ := hrel
      have hk4 : k = 0 ∨ k = 1 ∨ k = 2 ∨ k = 3 := by omega
      rcases hk4 with rfl | rfl | rfl | rfl
      · go_wp2
        go_roundw
        case rel => exact ⟨1, rfl, by omega, by first | rfl | trivial⟩
        case measure => simp [intOf]
      · go_wp2
        go_roundw
        case rel => exact ⟨2, rfl, by omega, by first | rfl | trivial⟩
        case measure => simp [intOf]
      · go_wp2
        go_roundw
        case rel => exact ⟨3, rfl, by omega, by first | rfl | trivial⟩
        case measure => simp [intOf]
      · go_wp2
        go_ret
        exact ⟨rfl, HB.out⟩
  · have d0 : decide (1000 ≤ code) = true := decide_eq_true (by omega)
    have d1 : decide (code ≤ 1003) = true := decide_eq_true (by omega)
    have d2 : decide (1007 ≤ code) = false := decide_eq_false (by omega)
    have d3 : decide (code ≤ 1011) = true := decide_eq_true (by omega)
    have d4 : decide (3000 ≤ code) = false := decide_eq_false (by omega)
    have d5 : decide (code ≤ 4999) = true := decide_eq_true (by omega)
    rw [show mayB code = true from decide_eq_true (by omega)]
    clear h
    go_enter Tryd.func47, Tryd.ntmps47
    go_wp2_with fail
    skip
    go_loopw [10] (fun i wr => ∃ k : Nat, i = .int .i64 k ∧ k ≤ 0 ∧ W4 = wr) (fun i _ => 4 - (intOf i).toNat)
    case atStart => exact ⟨0, rfl, by omega, HW4.out⟩
    case round =>
      obtain ⟨k, rfl, hk, rfl⟩ := hrel
      have hk4 : k = 0 := by omega
      rcases hk4 with rfl
      · go_wp2
        go_ret
        exact ⟨rfl, HB.out⟩
  · have d0 : decide (1000 ≤ code) = true := decide_eq_true (by omega)
    have d1 : decide (code ≤ 1003) = false := decide_eq_false (by omega)
    have d2 : decide (1007 ≤ code) = false := decide_eq_false (by omega)
    have d3 : decide (code ≤ 1011) = true := decide_eq_true (by omega)
    have d4 : decide (3000 ≤ code) = false := decide_eq_false (by omega)
    have d5 : decide (code ≤ 4999) = true := decide_eq_true (by omega)
    rw [show mayB code = false from decide_eq_false (by omega)]
    clear h
    go_enter Tryd.func47, Tryd.ntmps47
    go_wp2_with fail
    skip
    go_loopw [10] (fun i wr => ∃ k : Nat, i = .int .i64 k ∧ k ≤ 3 ∧ W4 = wr) (fun i _ => 4 - (intOf i).toNat)
    case atStart => exact ⟨0, rfl, by omega, HW4.out⟩
    case round =>
      obtain ⟨k, rfl, hk, rfl⟩ := hrel
      have hk4 : k = 0 ∨ k = 1 ∨ k = 2 ∨ k = 3 := by omega
      rcases hk4 with rfl | rfl | rfl | rfl
      · go_wp2
        go_roundw
        case rel => exact ⟨1, rfl, by omega, by first | rfl | trivial⟩
        case measure => simp [intOf]
      · go_wp2
        go_roundw
        case rel => exact ⟨2, rfl, by omega, by first | rfl | trivial⟩
        case measure => simp [intOf]
      · go_wp2
        go_roundw
        case rel => exact ⟨3, rfl, by omega, by first | rfl | trivial⟩
        case measure => simp [intOf]
      · go_wp2
        go_ret
        exact ⟨rfl, HB.out⟩
  · have d0 : decide (1000 ≤ code) = true := decide_eq_true (by omega)
    have d1 : decide (code ≤ 1003) = false := decide_eq_false (by omega)
    have d2 : decide (1007 ≤ code) = true := decide_eq_true (by omega)
    have d3 : decide (code ≤ 1011) = true := decide_eq_true (by omega)
    have d4 : decide (3000 ≤ code) = false := decide_eq_false (by omega)
    have d5 : decide (code ≤ 4999) = true := decide_eq_true (by omega)
    rw [show mayB code = true from decide_eq_true (by omega)]
    clear h
    go_enter Tryd.func47, Tryd.ntmps47
    go_wp2_with fail
    skip
    go_loopw [10] (fun i wr => ∃ k : Nat, i = .int .i64 k ∧ k ≤ 1 ∧ W4 = wr) (fun i _ => 4 - (intOf i).toNat)
    case atStart => exact ⟨0, rfl, by omega, HW4.out⟩
    case round =>
      obtain ⟨k, rfl, hk, rfl⟩ := hrel
      have hk4 : k = 0 ∨ k = 1 := by omega
      rcases hk4 with rfl | rfl
      · go_wp2
        go_roundw
        case rel => exact ⟨1, rfl, by omega, by first | rfl | trivial⟩
        case measure => simp [intOf]
      · go_wp2
        go_ret
        exact ⟨rfl, HB.out⟩
  · have d0 : decide (1000 ≤ code) = true := decide_eq_true (by omega)
    have d1 : decide (code ≤ 1003) = false := decide_eq_false (by omega)
    have d2 : decide (1007 ≤ code) = true := decide_eq_true (by omega)
    have d3 : decide (code ≤ 1011) = false := decide_eq_false (by omega)
    have d4 : decide (3000 ≤ code) = false := decide_eq_false (by omega)
    have d5 : decide (code ≤ 4999) = true := decide_eq_true (by omega)
    rw [show mayB code = false from decide_eq_false (by omega)]
    clear h
    go_enter Tryd.func47, Tryd.ntmps47
    go_wp2_with fail
    skip
    go_loopw [10] (fun i wr => ∃ k : Nat, i = .int .i64 k ∧ k ≤ 3 ∧ W4 = wr) (fun i _ => 4 - (intOf i).toNat)
    case atStart => exact ⟨0, rfl, by omega, HW4.out⟩
    case round =>
      obtain ⟨k, rfl, hk, rfl⟩ := hrel
      have hk4 : k = 0 ∨ k = 1 ∨ k = 2 ∨ k = 3 := by omega
      rcases hk4 with rfl | rfl | rfl | rfl
      · go_wp2
        go_roundw
        case rel => exact ⟨1, rfl, by omega, by first | rfl | trivial⟩
        case measure => simp [intOf]
      · go_wp2
        go_roundw
        case rel => exact ⟨2, rfl, by omega, by first | rfl | trivial⟩
        case measure => simp [intOf]
      · go_wp2
        go_roundw
        case rel => exact ⟨3, rfl, by omega, by first | rfl | trivial⟩
        case measure => simp [intOf]
      · go_wp2
        go_ret
        exact ⟨rfl, HB.out⟩
  · have d0 : decide (1000 ≤ code) = true := decide_eq_true (by omega)
    have d1 : decide (code ≤ 1003) = false := decide_eq_false (by omega)
    have d2 : decide (1007 ≤ code) = true := decide_eq_true (by omega)
    have d3 : decide (code ≤ 1011) = false := decide_eq_false (by omega)
    have d4 : decide (3000 ≤ code) = true := decide_eq_true (by omega)
    have d5 : decide (code ≤ 4999) = true := decide_eq_true (by omega)
    rw [show mayB code = true from decide_eq_true (by omega)]
    clear h
    go_enter Tryd.func47, Tryd.ntmps47
    go_wp2_with fail
    skip
    go_loopw [10] (fun i wr => ∃ k : Nat, i = .int .i64 k ∧ k ≤ 2 ∧ W4 = wr) (fun i _ => 4 - (intOf i).toNat)
    case atStart => exact ⟨0, rfl, by omega, HW4.out⟩
    case round =>
      obtain ⟨k, rfl, hk, rfl⟩ := hrel
      have hk4 : k = 0 ∨ k = 1 ∨ k = 2 := by omega
      rcases hk4 with rfl | rfl | rfl
      · go_wp2
        go_roundw
        case rel => exact ⟨1, rfl, by omega, by first | rfl | trivial⟩
        case measure => simp [intOf]
      · go_wp2
        go_roundw
        case rel => exact ⟨2, rfl, by omega, by first | rfl | trivial⟩
        case measure => simp [intOf]
      · go_wp2
        go_ret
        exact ⟨rfl, HB.out⟩
  · have d0 : decide (1000 ≤ code) = true := decide_eq_true (by omega)
    have d1 : decide (code ≤ 1003) = false := decide_eq_false (by omega)
    have d2 : decide (1007 ≤ code) = true := decide_eq_true (by omega)
    have d3 : decide (code ≤ 1011) = false := decide_eq_false (by omega)
    have d4 : decide (3000 ≤ code) = true := decide_eq_true (by omega)
    have d5 : decide (code ≤ 4999) = false := decide_eq_false (by omega)
    rw [show mayB code = false from decide_eq_false (by omega)]
    clear h
    go_enter Tryd.func47, Tryd.ntmps47
    go_wp2_with fail
    skip
    go_loopw [10] (fun i wr => ∃ k : Nat, i = .int .i64 k ∧ k ≤ 3 ∧ W4 = wr) (fun i _ => 4 - (intOf i).toNat)
    case atStart => exact ⟨0, rfl, by omega, HW4.out⟩
    case round =>
      obtain ⟨k, rfl, hk, rfl⟩ := hrel
      have hk4 : k = 0 ∨ k = 1 ∨ k = 2 ∨ k = 3 := by omega
      rcases hk4 with rfl | rfl | rfl | rfl
      · go_wp2
        go_roundw
        case rel => exact ⟨1, rfl, by omega, by first | rfl | trivial⟩
        case measure => simp [intOf]
      · go_wp2
        go_roundw
        case rel => exact ⟨2, rfl, by omega, by first | rfl | trivial⟩
        case measure => simp [intOf]
      · go_wp2
        go_roundw
        case rel => exact ⟨3, rfl, by omega, by first | rfl | trivial⟩
        case measure => simp [intOf]
      · go_wp2
        go_ret
        exact ⟨rfl, HB.out⟩
end Go.Proofs.YtcfbfmgckaehdaaDoor
