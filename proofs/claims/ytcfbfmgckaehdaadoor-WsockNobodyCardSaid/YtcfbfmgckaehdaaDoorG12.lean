/- The texts WsNobody in one. -/
import Derived.Test.YtcfbfmgckaehdaaDoorG10
namespace Go.Proofs.YtcfbfmgckaehdaaDoor
open Go.RowKit Go.Proofs.YtcfbfmgckaehdaaDoorW.PrintWords
set_option maxHeartbeats 1600000 in
theorem SameEvent_true {n m : Nat} (op code : Int) (A : Option Addr) (c : Nat) (l : List Int) (A1 : Option Addr) (c1 : Nat) (bad : Bool) (w : World) (hr : Rd w A n l) (hr1 : Rd w A1 m l) :
    Calls Tryd.prog 27 #[.agg #[.int .i64 op, .int .i64 code, .slice A n c, .bool bad], .agg #[.int .i64 op, .int .i64 code, .slice A1 m c1, .bool bad]] w fun e w' => e = .returned (.bool true) ∧ Below w.heap.size w w' := by
  obtain ⟨g0, hg0⟩ : ∃ g, g = w.heap.size := ⟨_, rfl⟩
  obtain ⟨g1, hg1⟩ : ∃ g, g = g0 + 1 := ⟨_, rfl⟩
  obtain ⟨W0, hW0⟩ : ∃ W0, W0 = w.alloc (.cells #[.int .i64 op, .int .i64 code, .slice A n c, .bool bad] 51) := ⟨_, rfl⟩
  obtain ⟨W1, hW1⟩ : ∃ W1, W1 = W0.alloc (.cells #[.int .i64 op, .int .i64 code, .slice A1 m c1, .bool bad] 51) := ⟨_, rfl⟩
  have hz0 : W0.heap.size = g1 := by rw [hW0, size_alloc, hg1, hg0]
  have hb0 : Below w.heap.size w W0 := by rw [hW0]; exact below_alloc (Below.refl _ _) _
  have hb01 : Below W0.heap.size W0 W1 := by rw [hW1]; exact below_alloc (Below.refl _ _) _
  have hb1 := below_step hb0 hb01
  have hp0 : Whole W0 g0 51 #[.int .i64 op, .int .i64 code, .slice A n c, .bool bad] := by rw [hW0, hg0]; exact Whole.new w _ _
  have hk0 := hp0.below hb01 hp0.lt
  have hk1 : Whole W1 g1 51 #[.int .i64 op, .int .i64 code, .slice A1 m c1, .bool bad] := by rw [hW1, ← hz0]; exact Whole.new W0 _ _
  have HS := Lib.hid (show g0 = w.heap.size ∧ W0 = w.alloc _ ∧ W1 = W0.alloc _ ∧ g1 = g0 + 1 from ⟨hg0, hW0, hW1, hg1⟩)
  have HB := Lib.hid hb1
  have x0 := hk0.cell 0 _ rfl
  have x1 := hk0.cell 1 _ rfl
  have x2 := hk0.cell 2 _ rfl
  have x3 := hk0.cell 3 _ rfl
  have y0 := hk1.cell 0 _ rfl
  have y1 := hk1.cell 1 _ rfl
  have y2 := hk1.cell 2 _ rfl
  have y3 := hk1.cell 3 _ rfl
  have k0 := Kd.C_string (P := Tryd.prog) (src := 22) (dst := 9) (e := 5) Tryd.underlying22 Tryd.underlying5 Tryd.underlying9 (c := c) (Kd.C_below hr hb1)
  have k1 := Kd.C_string (P := Tryd.prog) (src := 22) (dst := 9) (e := 5) Tryd.underlying22 Tryd.underlying5 Tryd.underlying9 (c := c1) (Kd.C_below hr1 hb1)
  have e1 : (op == op) = true := by simp
  have e2 : (code == code) = true := by simp
  clear hr hr1 hg0 hg1 hz0 hb0 hb01 hb1 hp0 hk0 hk1 hW0 hW1
  go_enter Tryd.func27, Tryd.ntmps27
  go_upto_region 1 with (fail)
  rw [← HS.out.1, ← HS.out.2.1, ← HS.out.2.2.2, ← HS.out.2.2.1]
  cases bad
  all_goals
    go_wp2
    go_ret
    exact ⟨by simp, HB.out⟩
/-- An end that no call made: nil, or an empty one. -/
def NoConn (w : World) (p : Option Addr) : Prop := p = none ∨ ∃ g, p = some ⟨g, 0, none⟩ ∧ Whole w g 55 #[.bool false, .bool false, .bool false, .slice none 0 0, .int .i64 0, .slice none 0 0]
theorem NoConn.below {w w1 : World} {p : Option Addr} (h : NoConn w p) (hb : Below w.heap.size w w1) : NoConn w1 p := by
  rcases h with h | ⟨g, h, k⟩
  · exact .inl h
  · exact .inr ⟨g, h, k.below hb k.lt⟩
theorem Waiting_no (w : World) (p : Option Addr) (h : NoConn w p) : Calls Tryd.prog 30 #[.pointer p] w fun e w' => e = .returned (.int .i64 0) ∧ w' = w := by
  rcases h with rfl | ⟨g, rfl, k⟩
  · go_enter Tryd.func30, Tryd.ntmps30
    go_wp2
    go_ret
    exact ⟨rfl, rfl⟩
  · have x3 := k.cell 3 _ rfl
    clear k
    go_enter Tryd.func30, Tryd.ntmps30
    go_wp2
    go_ret
    exact ⟨rfl, rfl⟩
theorem Over_no (w : World) (p : Option Addr) (h : NoConn w p) : Calls Tryd.prog 31 #[.pointer p] w fun e w' => e = .returned (.bool false) ∧ w' = w := by
  rcases h with rfl | ⟨g, rfl, k⟩
  · go_enter Tryd.func31, Tryd.ntmps31
    go_wp2
    go_ret
    exact ⟨rfl, rfl⟩
  · have x2 := k.cell 2 _ rfl
    clear k
    go_enter Tryd.func31, Tryd.ntmps31
    go_wp2
    go_ret
    exact ⟨rfl, rfl⟩
theorem Feed_no (w : World) (p : Option Addr) (A : Option Addr) (n c : Nat) (h : NoConn w p) : Calls Tryd.prog 29 #[.pointer p, .slice A n c] w fun e w' => e = .returned (.int .i64 8) ∧ w' = w := by
  rcases h with rfl | ⟨g, rfl, k⟩
  · go_enter Tryd.func29, Tryd.ntmps29
    go_wp2
    go_ret
    exact ⟨rfl, rfl⟩
  · have x0 := k.cell 0 _ rfl
    clear k
    go_enter Tryd.func29, Tryd.ntmps29
    go_wp2
    go_ret
    exact ⟨rfl, rfl⟩
/-- An empty event's cells. -/
abbrev ev0 : Array Value := #[.int .i64 0, .int .i64 0, .slice none 0 0, .bool false]
set_option maxHeartbeats 1600000 in
theorem Next_no (w : World) (p : Option Addr) (h : NoConn w p) : Calls Tryd.prog 28 #[.pointer p] w fun e w' => e = .returned (.tuple #[.agg #[.int .i64 0, .int .i64 0, .slice none 0 0, .bool false], .bool false]) ∧ Below w.heap.size w w' := by
  obtain ⟨g0, hg0⟩ : ∃ g, g = w.heap.size := ⟨_, rfl⟩
  obtain ⟨W1, hW1⟩ : ∃ W1, W1 = w.alloc (.cells #[.int .i64 0, .int .i64 0, .slice none 0 0, .bool false] 51) := ⟨_, rfl⟩
  have hb1 : Below w.heap.size w W1 := by rw [hW1]; exact below_alloc (Below.refl _ _) _
  have hk1 : Whole W1 g0 51 ev0 := by rw [hW1, hg0]; exact Whole.new w _ _
  have HS := Lib.hid (show g0 = w.heap.size ∧ W1 = w.alloc _ ∧ w.heap.size ≤ g0 from ⟨hg0, hW1, by rw [hg0]; exact Nat.le_refl _⟩)
  have HI := Lib.hid (show Below w.heap.size w W1 ∧ Whole W1 g0 51 ev0 from ⟨hb1, hk1⟩)
  have hn := h.below hb1
  clear h hb1 hk1 hg0 hW1
  rcases hn with rfl | ⟨g, rfl, k⟩
  · go_enter Tryd.func28, Tryd.ntmps28
    go_wp2_with fail
    rw [← HS.out.1, ← HS.out.2.1]
    go_loopw [3] (fun v wr => v = .bool false ∧ W1 = wr) (fun _ _ => 0)
    case atStart => exact ⟨rfl, rfl⟩
    case round =>
      obtain ⟨rfl, rfl⟩ := hrel
      go_wp2_with (refine gate_ (.store 51 (.tmp 2) (.tmp 84)) rfl ?_; refine store_whole rfl rfl rfl rfl rfl HI.out.2 rfl (by simp [Value.oneCell']) rfl (by kernel_rfl) ?_; intro w9 hk9 hb9 hf9 hg9)
      refine bodyPost_ret (results_ct rfl _ _ g0 _ _ _ _ rfl hk9 Tryd.underlying51 rfl (by kernel_rfl)) rfl ?_
      exact ⟨rfl, hb9 _ _ HI.out.1 HS.out.2.2⟩
  · have x0 := k.cell 0 _ rfl
    clear k
    go_enter Tryd.func28, Tryd.ntmps28
    go_wp2_with fail
    rw [← HS.out.1, ← HS.out.2.1]
    go_loopw [3] (fun v wr => v = .bool false ∧ W1 = wr) (fun _ _ => 0)
    case atStart => exact ⟨rfl, rfl⟩
    case round =>
      obtain ⟨rfl, rfl⟩ := hrel
      go_wp2_with (refine gate_ (.store 51 (.tmp 2) (.tmp 84)) rfl ?_; refine store_whole rfl rfl rfl rfl rfl HI.out.2 rfl (by simp [Value.oneCell']) rfl (by kernel_rfl) ?_; intro w9 hk9 hb9 hf9 hg9)
      refine bodyPost_ret (results_ct rfl _ _ g0 _ _ _ _ rfl hk9 Tryd.underlying51 rfl (by kernel_rfl)) rfl ?_
      exact ⟨rfl, hb9 _ _ HI.out.1 HS.out.2.2⟩
end Go.Proofs.YtcfbfmgckaehdaaDoor
