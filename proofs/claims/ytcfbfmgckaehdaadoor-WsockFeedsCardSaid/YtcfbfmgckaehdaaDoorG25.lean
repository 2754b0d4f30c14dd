/- The texts WsFeedR in one. -/
import Derived.Test.YtcfbfmgckaehdaaDoorG23
namespace Go.Proofs.YtcfbfmgckaehdaaDoor
open Go.RowKit Go.Proofs.YtcfbfmgckaehdaaDoorW.PrintWords
def FeedR (w0 w : World) (H : Nat → Prop) (gr : Nat) (c : Cn) (F : List Frm) (b : List Int) (e : Ending) (w1 : World) : Prop :=
  e = .returned (.int .i64 (feedE c b.length)) ∧ RefAt w0 w1 H gr (feedC c b) F ∧ Keep1 w w1 gr ∧ Below w0.heap.size w0 w1
set_option maxRecDepth 20000 in
set_option maxHeartbeats 1600000 in
theorem WsFeedR_calls {n : Nat} (w0 w : World) (H : Nat → Prop) (gr : Nat) (c : Cn) (F : List Frm) (A : Option Addr) (cb : Nat) (b : List Int) (h : RefAt w0 w H gr c F) (hB : Below w0.heap.size w0 w) (hr : Rd w A n b) (hH : ∀ k, w.heap.size ≤ k → ¬ H k) (hw : c.wait.length ≤ 65536) (hn : n ≤ 35184372088832) :
    Calls Tryd.prog 35 #[.pointer (some ⟨gr, 0, none⟩), .slice A n cb] w (FeedR w0 w H gr c F b) := by
  have hbl := Kd.C_len hr
  have hg := h.gr
  have h' := h
  obtain ⟨Aw, nw, cw, vp, hk, hrw, hcw, ha, hp, _, hgb⟩ := h'
  have hnw := Kd.C_len hrw
  have x1 := hk.cell 1 _ rfl
  have x2 := hk.cell 2 _ rfl
  have f2 := hk.free 2
  have HI := Lib.hid (show RefAt w0 w H gr c F ∧ Below w0.heap.size w0 w ∧ Rd w A n b ∧ (∀ k, w.heap.size ≤ k → ¬ H k) ∧ b.length = n ∧ Rd w Aw nw c.wait ∧ c.wait.length = nw ∧ H gr ∧ gr < w.heap.size ∧ w0.heap.size ≤ gr ∧ n ≤ 35184372088832 from ⟨h, hB, hr, hH, hbl, hrw, hnw, hg.1, hg.2.1, hg.2.2, hn⟩)
  have HP := Lib.hid (show Whole w gr 68 #[.bool c.mask, .bool c.over, .slice Aw nw cw, vp] ∧ PartsAt w0 w H vp F from ⟨hk, hp⟩)
  have hE : feedE c n = if c.over = true then 31 else if 65536 < nw + n then 7 else 0 := by rw [← hnw]; rfl
  have hnw6 : nw ≤ 65536 := by rw [← hnw]; exact hw
  clear h hB hr hH hw hbl hg hk hrw hcw ha hp hgb hnw
  cases hov : c.over with
  | true =>
    rw [hov] at x1
    have HF := Lib.hid (show feedE c b.length = 31 by rw [HI.out.2.2.2.2.1, hE, hov]; rfl)
    clear hE hov
    go_enter Tryd.func35, Tryd.ntmps35
    go_wp2
    go_ret
    exact ⟨by rw [HF.out]; rfl, by unfold feedC; rw [if_neg (by rw [HF.out]; decide)]; exact HI.out.1, ⟨Nat.le_refl _, fun _ _ _ => rfl⟩, HI.out.2.1⟩
  | false =>
    rw [hov] at x1
    have wn : IntKind.i64.wrap ((nw : Int) + n) = nw + n := by rw [IntKind.wrap_i64]; omega
    by_cases hf : 65536 < nw + n
    · have d1 : decide (65536 < (nw : Int) + n) = true := decide_eq_true (by omega)
      have d1' : decide (65536 < nw + n) = true := decide_eq_true hf
      have HF := Lib.hid (show feedE c b.length = 7 by rw [HI.out.2.2.2.2.1, hE, hov, if_neg (by decide), if_pos hf])
      clear hE hov hf hn
      go_enter Tryd.func35, Tryd.ntmps35
      go_wp2
      go_ret
      exact ⟨by rw [HF.out]; rfl, by unfold feedC; rw [if_neg (by rw [HF.out]; decide)]; exact HI.out.1, ⟨Nat.le_refl _, fun _ _ _ => rfl⟩, HI.out.2.1⟩
    · have d1 : decide (65536 < (nw : Int) + n) = false := decide_eq_false (by omega)
      have d1' : decide (65536 < nw + n) = false := decide_eq_false hf
      have HF := Lib.hid (show feedE c b.length = 0 by rw [HI.out.2.2.2.2.1, hE, hov, if_neg (by decide), if_neg hf])
      have HN := Lib.hid (show nw + n ≤ 65536 by omega)
      have HO := Lib.hid hov
      clear hE hov hf hnw6 hn
      go_enter Tryd.func35, Tryd.ntmps35
      have z2 := (HP.out.1.below (below_alloc (Below.refl _ _) (.cells #[] 5)) HP.out.1.lt).cell 2 _ rfl
      go_wp2_with (at_builtin; refine app_row (w0 := w) (lit_nil (Below.refl _ _)) (Kd.C_alloc HI.out.2.2.2.2.2.1 _) (below_alloc (Below.refl _ _) _) (by have := HN.out; simp only [List.length_nil]; omega) rfl rfl rfl rfl ?_)
      intro v5 w5 ho5 hb5 hg5 _
      have H5 := Lib.hid (show Own w w5 v5 ([] ++ c.wait) ∧ Below w.heap.size w w5 from ⟨ho5, hb5⟩)
      clear ho5 hb5 hg5 z2
      go_wp2_with (at_builtin; refine app_row (w0 := w) H5.out.1 (Kd.C_below HI.out.2.2.1 H5.out.2) H5.out.2 (by have := HN.out; have := HI.out; simp only [List.nil_append]; omega) rfl rfl rfl rfl ?_)
      intro v6 w6 ho6 hb6 hg6 _
      have hk6 := HP.out.1.below hb6 HP.out.1.lt
      obtain ⟨A6, c6, rfl, hc6, hr6⟩ := ho6.reads
      obtain ⟨L, hL⟩ : ∃ L, L = (c.wait ++ b).length := ⟨_, rfl⟩
      have hge := ho6.ge
      have hlt := ho6.lt
      rw [← hL] at hc6 hr6 hge hlt ⊢
      have H6 := Lib.hid (show Below w.heap.size w w6 ∧ Rd w6 A6 L (c.wait ++ b) ∧ L ≤ c6 ∧ Whole w6 gr 68 #[.bool c.mask, .bool c.over, .slice Aw nw cw, vp] ∧ (∀ k, (Value.slice A6 L c6).ownBlock = some k → w.heap.size ≤ k) ∧ (∀ k, (Value.slice A6 L c6).ownBlock = some k → k < w6.heap.size) from ⟨hb6, hr6, hc6, hk6, hge, hlt⟩)
      clear ho6 hb6 hg6 hc6 hr6 hL hk6 x1 x2 f2 hge hlt
      have x2 := H6.out.2.2.2.1.cell 2 _ rfl
      have f2 := H6.out.2.2.2.1.free 2
      go_wp2
      go_ret
      have hown : ∀ ad, A6 = some ad → (Value.slice A6 L c6).ownBlock = some ad.block := fun ad he => by rw [he]; rfl
      have hkeep : Keep1 w (w6.setCell ⟨gr, 2, none⟩ (.slice A6 L c6)) gr := ⟨by rw [World.size_setCell]; exact H6.out.1.size, fun k hk hn => by rw [heap_far hn]; exact H6.out.1.block k hk⟩
      have hfc : feedC c b = { c with wait := c.wait ++ b } := by unfold feedC; rw [if_pos HF.out]
      refine ⟨by rw [HF.out]; rfl, ?_, hkeep, (below_step HI.out.2.1 H6.out.1).setCell (p := ⟨gr, 2, none⟩) HI.out.2.2.2.2.2.2.2.2.2.1 _⟩
      rw [hfc]
      refine ⟨A6, L, c6, vp, H6.out.2.2.2.1.set 2 _, H6.out.2.1.same (fun ad he _ => heap_far (fun e => ?_)), H6.out.2.2.1, fun ad he _ => ⟨HI.out.2.2.2.1 _ (H6.out.2.2.2.2.1 _ (hown ad he)), by rw [World.size_setCell]; exact H6.out.2.2.2.2.2 _ (hown ad he)⟩, HP.out.2.keep hkeep HI.out.2.2.2.2.2.2.2.1, HI.out.2.2.2.2.2.2.2.1, HI.out.2.2.2.2.2.2.2.2.2.1⟩
      have h1 := H6.out.2.2.2.2.1 _ (hown ad he)
      have h2 := HI.out.2.2.2.2.2.2.2.2.1
      have e : ad.block = gr := e
      omega
end Go.Proofs.YtcfbfmgckaehdaaDoor
