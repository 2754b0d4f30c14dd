/- The walk of a law: WsockNobodyWalk. -/
import Derived.Test.YtcfbfmgckaehdaaDoorG12
namespace Go.Proofs.YtcfbfmgckaehdaaDoor
open Go.RowKit Go.Proofs.YtcfbfmgckaehdaaDoorW.PrintWords
/-- What stands through the loop: the empty end, the row of the two ends, the bytes. -/
def NobAt (w W : World) (g1 g2 : Nat) (A0 : Option Addr) (l : List Int) : Prop :=
  Below w.heap.size w W ∧ Whole W g1 55 #[.bool false, .bool false, .bool false, .slice none 0 0, .int .i64 0, .slice none 0 0] ∧ Whole W g2 53 #[.pointer none, .pointer (some ⟨g1, 0, none⟩)] ∧ Rd W A0 l.length l
theorem NobAt.below {w W W' : World} {g1 g2 : Nat} {A0 : Option Addr} {l : List Int} (h : NobAt w W g1 g2 A0 l) (hb : Below W.heap.size W W') : NobAt w W' g1 g2 A0 l :=
  ⟨below_step h.1 hb, h.2.1.below hb h.2.1.lt, h.2.2.1.below hb h.2.2.1.lt, Kd.C_below h.2.2.2 hb⟩
set_option maxRecDepth 20000 in
set_option maxHeartbeats 6400000 in
theorem WsockNobody_walk (A0 : Option Addr) (c0 : Nat) (l : List Int) (w : World) (hr : Rd w A0 l.length l) (hc : l.length ≤ c0) (hs : l.length ≤ 140737488351232) (_hb : Bytes l) :
    Calls Tryd.prog 8 #[.slice A0 l.length c0] w fun e w' => e = .returned (.bool true) ∧ Below w.heap.size w w' := by
  obtain ⟨g1, hg1⟩ : ∃ g, g = w.heap.size := ⟨_, rfl⟩
  obtain ⟨g2, hg2⟩ : ∃ g, g = g1 + 1 := ⟨_, rfl⟩
  obtain ⟨W1, hW1⟩ : ∃ W, W = w.alloc (.cells #[.bool false, .bool false, .bool false, .slice none 0 0, .int .i64 0, .slice none 0 0] 55) := ⟨_, rfl⟩
  obtain ⟨W2, hW2⟩ : ∃ W, W = W1.alloc (.cells #[.pointer none, .pointer (some ⟨g1, 0, none⟩)] 53) := ⟨_, rfl⟩
  have z1 : W1.heap.size = g2 := by rw [hW1, size_alloc, hg2, hg1]
  have b1 : Below w.heap.size w W1 := by rw [hW1]; exact below_alloc (Below.refl _ _) _
  have b12 : Below W1.heap.size W1 W2 := by rw [hW2]; exact below_alloc (Below.refl _ _) _
  have k1 : Whole W1 g1 55 #[.bool false, .bool false, .bool false, .slice none 0 0, .int .i64 0, .slice none 0 0] := by rw [hW1, hg1]; exact Whole.new w _ _
  have k2 : Whole W2 g2 53 #[.pointer none, .pointer (some ⟨g1, 0, none⟩)] := by rw [hW2, ← z1]; exact Whole.new W1 _ _
  have HA := Lib.hid (show NobAt w W2 g1 g2 A0 l from ⟨below_step b1 b12, k1.below b12 k1.lt, k2, Kd.C_below hr (below_step b1 b12)⟩)
  have HS := Lib.hid (show g1 = w.heap.size ∧ W1 = w.alloc _ ∧ g2 = g1 + 1 ∧ W2 = W1.alloc _ from ⟨hg1, hW1, hg2, hW2⟩)
  have HC := Lib.hid (And.intro hc hs)
  clear hr hc hs z1 b1 b12 k1 k2 hg1 hg2 hW1 hW2
  go_enter Tryd.func8, Tryd.ntmps8
  go_wp2_with fail
  rw [← HS.out.1, ← HS.out.2.1, ← HS.out.2.2.1, ← HS.out.2.2.2]
  go_loopw [11] (fun i wr => ∃ k : Nat, i = .int .i64 k ∧ k ≤ 2 ∧ Hid (NobAt w wr g1 g2 A0 l)) (fun i _ => 2 - (intOf i).toNat)
  case atStart => exact ⟨0, rfl, by omega, HA⟩
  case round =>
    obtain ⟨k, rfl, hk, HR⟩ := hrel
    have hk3 : k = 0 ∨ k = 1 ∨ k = 2 := by omega
    clear hk
    rcases hk3 with rfl | rfl | rfl
    · have x0 := HR.out.2.2.1.cell 0 _ rfl
      go_wp2_with fail
      refine (Next_no _ none (.inl rfl)).mono ?_
      rintro e w1 ⟨rfl, hb1⟩
      have H1 := Lib.hid (HR.out.below hb1)
      clear hb1 x0
      go_upto_region 5 with (fail)
      obtain ⟨ge, hge⟩ : ∃ g, g = w1.heap.size := ⟨_, rfl⟩
      obtain ⟨W3, hW3⟩ : ∃ W, W = w1.alloc (.cells #[.int .i64 0, .int .i64 0, .slice none 0 0, .bool false] 51) := ⟨_, rfl⟩
      have b3 : Below w1.heap.size w1 W3 := by rw [hW3]; exact below_alloc (Below.refl _ _) _
      have k3 : Whole W3 ge 51 ev0 := by rw [hW3, hge]; exact Whole.new w1 _ _
      have H3 := Lib.hid (show NobAt w W3 g1 g2 A0 l ∧ Whole W3 ge 51 ev0 from ⟨H1.out.below b3, k3⟩)
      rw [← hW3, ← hge]
      clear b3 k3 hge hW3
      go_wp2_with fail
      refine (bytes_Clone.calls A0 c0 l l _ H3.out.1.2.2.2 HC.out.1 (if_pos (by have := HC.out; omega))).mono ?_
      rintro e w4 ⟨v4, rfl, ho4, hb4⟩
      obtain ⟨A4, c4, rfl, _, _⟩ := Own.reads ho4
      have H4 := Lib.hid (show NobAt w w4 g1 g2 A0 l ∧ Whole w4 ge 51 ev0 from ⟨H3.out.1.below hb4, H3.out.2.below hb4 H3.out.2.lt⟩)
      clear ho4 hb4
      go_wp2_with fail
      refine (Feed_no _ none _ _ _ (.inl rfl)).mono ?_
      rintro e w5 ⟨rfl, rfl⟩
      have y0 := H4.out.2.cell 0 _ rfl
      have y1 := H4.out.2.cell 1 _ rfl
      have y2 := H4.out.2.cell 2 _ rfl
      have y3 := H4.out.2.cell 3 _ rfl
      go_wp2_with fail
      refine (SameEvent_true 0 0 none 0 [] none 0 false _ (Kd.C_nil _ _) (Kd.C_nil _ _)).mono ?_
      rintro e w6 ⟨rfl, hb6⟩
      have H6 := Lib.hid (H4.out.1.below hb6)
      clear hb6 y0 y1 y2 y3
      go_wp2_with fail
      refine (Waiting_no _ none (.inl rfl)).mono ?_
      rintro e w7 ⟨rfl, rfl⟩
      go_wp2_with fail
      refine (Over_no _ none (.inl rfl)).mono ?_
      rintro e w8 ⟨rfl, rfl⟩
      go_wp2
      go_roundw
      case rel => exact ⟨1, rfl, by omega, H6⟩
      case measure => simp [intOf]
    · have x1 := HR.out.2.2.1.cell 1 _ rfl
      go_wp2_with fail
      refine (Next_no _ (some ⟨g1, 0, none⟩) (.inr ⟨g1, rfl, HR.out.2.1⟩)).mono ?_
      rintro e w1 ⟨rfl, hb1⟩
      have H1 := Lib.hid (HR.out.below hb1)
      clear hb1 x1
      go_upto_region 5 with (fail)
      obtain ⟨ge, hge⟩ : ∃ g, g = w1.heap.size := ⟨_, rfl⟩
      obtain ⟨W3, hW3⟩ : ∃ W, W = w1.alloc (.cells #[.int .i64 0, .int .i64 0, .slice none 0 0, .bool false] 51) := ⟨_, rfl⟩
      have b3 : Below w1.heap.size w1 W3 := by rw [hW3]; exact below_alloc (Below.refl _ _) _
      have k3 : Whole W3 ge 51 ev0 := by rw [hW3, hge]; exact Whole.new w1 _ _
      have H3 := Lib.hid (show NobAt w W3 g1 g2 A0 l ∧ Whole W3 ge 51 ev0 from ⟨H1.out.below b3, k3⟩)
      rw [← hW3, ← hge]
      clear b3 k3 hge hW3
      go_wp2_with fail
      refine (bytes_Clone.calls A0 c0 l l _ H3.out.1.2.2.2 HC.out.1 (if_pos (by have := HC.out; omega))).mono ?_
      rintro e w4 ⟨v4, rfl, ho4, hb4⟩
      obtain ⟨A4, c4, rfl, _, _⟩ := Own.reads ho4
      have H4 := Lib.hid (show NobAt w w4 g1 g2 A0 l ∧ Whole w4 ge 51 ev0 from ⟨H3.out.1.below hb4, H3.out.2.below hb4 H3.out.2.lt⟩)
      clear ho4 hb4
      go_wp2_with fail
      refine (Feed_no _ (some ⟨g1, 0, none⟩) _ _ _ (.inr ⟨g1, rfl, H4.out.1.2.1⟩)).mono ?_
      rintro e w5 ⟨rfl, rfl⟩
      have y0 := H4.out.2.cell 0 _ rfl
      have y1 := H4.out.2.cell 1 _ rfl
      have y2 := H4.out.2.cell 2 _ rfl
      have y3 := H4.out.2.cell 3 _ rfl
      go_wp2_with fail
      refine (SameEvent_true 0 0 none 0 [] none 0 false _ (Kd.C_nil _ _) (Kd.C_nil _ _)).mono ?_
      rintro e w6 ⟨rfl, hb6⟩
      have H6 := Lib.hid (H4.out.1.below hb6)
      clear hb6 y0 y1 y2 y3
      go_wp2_with fail
      refine (Waiting_no _ (some ⟨g1, 0, none⟩) (.inr ⟨g1, rfl, H6.out.2.1⟩)).mono ?_
      rintro e w7 ⟨rfl, rfl⟩
      go_wp2_with fail
      refine (Over_no _ (some ⟨g1, 0, none⟩) (.inr ⟨g1, rfl, H6.out.2.1⟩)).mono ?_
      rintro e w8 ⟨rfl, rfl⟩
      go_wp2
      go_roundw
      case rel => exact ⟨2, rfl, by omega, H6⟩
      case measure => simp [intOf]
    · go_wp2_with fail
      refine (wsAwake_calls _).mono ?_
      rintro e w1 ⟨rfl, hb1⟩
      have HB := Lib.hid (below_step HR.out.1 hb1)
      clear hb1
      go_wp2
      go_ret
      exact ⟨rfl, HB.out⟩
end Go.Proofs.YtcfbfmgckaehdaaDoor
