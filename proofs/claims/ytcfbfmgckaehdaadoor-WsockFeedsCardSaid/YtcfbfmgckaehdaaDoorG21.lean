/- The texts WsPart2 in one. -/
import Derived.Test.YtcfbfmgckaehdaaDoorG20
import Derived.Deep.RegionLaw
namespace Go.Proofs.YtcfbfmgckaehdaaDoor
open Go.RowKit Go.Proofs.YtcfbfmgckaehdaaDoorW.PrintWords
/-- An event and whether there is one. -/
def StepR (r : Option Evt) (x : Evt) (ok : Bool) : Prop := (ok = true ∧ r = some x) ∨ (ok = false ∧ r = none ∧ x = ⟨0, 0, [], false⟩)
/-- What a call that may tell an event leaves. -/
def StepPost (w0 w : World) (g : Nat) (vw vl : Value) (r : Cn × Option Evt) (e : Ending) (w' : World) : Prop :=
  ∃ (vw' vl' v : Value) (x : Evt) (ok : Bool), e = .returned (.tuple #[.agg #[.int .i64 x.op, .int .i64 x.code, v, .bool x.bad], .bool ok]) ∧ StepR r.2 x ok ∧ Own w0 w' v x.load ∧ ConnAt w0 w' g r.1 vw' vl' ∧ Rest w w' (Foot g vw vl) (Foot g vw' vl') ∧ (∀ k, Foot g vw' vl' k → some k ≠ v.ownBlock) ∧ Below w0.heap.size w0 w' ∧ (∀ k, some k = v.ownBlock → Foot g vw vl k ∨ w.heap.size ≤ k)
theorem EndedPost.step {w0 w w' : World} {g : Nat} {c c1 : Cn} {vw vl : Value} {x : Evt} {e : Ending} {r : Cn × Option Evt} (h : EndedPost w0 w g c1 vw vl x e w') (hr : r = (failC c1, some x)) (hc : ConnAt w0 w g c vw vl) (hB : Below w0.heap.size w0 w) : StepPost w0 w g vw vl r e w' := by
  subst hr
  obtain ⟨v, he, ho, hp⟩ := h
  refine ⟨.slice none 0 0, .slice none 0 0, v, x, true, he, .inl ⟨rfl, rfl⟩, ho.lower hB.size, hp.1, hp.2.1, fun k hk hv => ?_, hp.2.2, fun k hk => .inr (ho.ge k hk.symm)⟩
  rcases hk with h1 | h1 | h1
  · have h2 := ho.ge k hv.symm
    have h3 := hc.1.lt
    omega
  · simp [Value.ownBlock] at h1
  · simp [Value.ownBlock] at h1
/-- The same as EndPost.fin, behind stores on the end. -/
theorem EndPost.fin2 {w0 w W1 w2 w9 : World} {g g0 : Nat} {c : Cn} {vw vl vw1 vl1 : Value} (h : EndPost w0 W1 g c vw1 vl1 w2) (hb : Rest w W1 (Foot g vw vl) (Foot g vw1 vl1)) (hg : w.heap.size ≤ g0) (hgg : g0 ≠ g) (hf : ∀ k, k < w2.heap.size → k ≠ g0 → w9.heap[k]? = w2.heap[k]?) (hs : w2.heap.size ≤ w9.heap.size) (hB : Below w0.heap.size w0 w9) : EndPost w0 w g c vw vl w9 := by
  refine ⟨h.1.step (fun k hk _ => ?_), ⟨Nat.le_trans (Nat.le_trans hb.1 h.2.1.1) hs, fun k hk hF => ?_, fun k hk => ?_⟩, hB⟩
  · rcases hk with h1 | h1 | h1
    · exact hf k (by rw [h1]; exact h.1.1.lt) (by omega)
    · simp [Value.ownBlock] at h1
    · simp [Value.ownBlock] at h1
  · have hF1 : ¬ Foot g vw1 vl1 k := fun h1 => by
      rcases hb.2.2 k h1 with h2 | h2
      · exact hF h2
      · omega
    rw [hf k (Nat.lt_of_lt_of_le (Nat.lt_of_lt_of_le hk hb.1) h.2.1.1) (by omega), h.2.1.2.1 k (Nat.lt_of_lt_of_le hk hb.1) hF1]
    exact hb.2.1 k hk hF
  · rcases h.2.1.2.2 k hk with h1 | h1
    · exact hb.2.2 k h1
    · exact .inr (Nat.le_trans hb.1 h1)
theorem Rest.trans {w w1 w2 : World} {F F1 F2 : Nat → Prop} (h : Rest w w1 F F1) (h2 : Rest w1 w2 F1 F2) : Rest w w2 F F2 := by
  refine ⟨Nat.le_trans h.1 h2.1, fun k hk hF => ?_, fun k hk => ?_⟩
  · rw [h2.2.1 k (Nat.lt_of_lt_of_le hk h.1) (fun h1 => by rcases h.2.2 k h1 with h3 | h3; · exact hF h3
                                                           · omega)]
    exact h.2.1 k hk hF
  · rcases h2.2.2 k hk with h1 | h1
    · exact h.2.2 k h1
    · exact .inr (Nat.le_trans h.1 h1)
theorem Rest.own {w W w9 : World} {F F1 : Nat → Prop} {g0 : Nat} (h : Rest w W F F1) (hg : w.heap.size ≤ g0) (hf : ∀ k, k ≠ g0 → w9.heap[k]? = W.heap[k]?) (hs : W.heap.size ≤ w9.heap.size) : Rest w w9 F F1 :=
  ⟨Nat.le_trans h.1 hs, fun k hk hF => (hf k (by omega)).trans (h.2.1 k hk hF), h.2.2⟩
theorem Own.row {w0 w : World} {A : Option Addr} {n cb : Nat} {l : List Int} (h : Own w0 w (.slice A n cb) l) : Rd w A n l := by have h := Kd.R_reads' h; rw [← h.1] at h; exact h.2.2
theorem Rest.of_below {w w1 : World} {F : Nat → Prop} (h : Below w.heap.size w w1) : Rest w w1 F F := ⟨h.size, fun k hk _ => h.block k hk, fun _ h => .inl h⟩
theorem Rest.setg {w w1 : World} {g i : Nat} {vw vl vw1 vl1 x : Value} (h : Rest w w1 (Foot g vw vl) (Foot g vw1 vl1)) : Rest w (w1.setCell ⟨g, i, none⟩ x) (Foot g vw vl) (Foot g vw1 vl1) :=
  ⟨by rw [World.size_setCell]; exact h.1, fun k hk hF => by rw [heap_far (fun e => hF (.inl e))]; exact h.2.1 k hk hF, h.2.2⟩
/-- Within a call of part: the end, the call's own frame and event, what was handed over. -/
def PartAt (w0 w W : World) (g : Nat) (c1 : Cn) (vw vl : Value) (gf g0 : Nat) (fin : Bool) (op : Int) (A : Option Addr) (n cb : Nat) (l : List Int) : Prop :=
  ConnAt w0 W g c1 vw vl ∧ Below w0.heap.size w0 W ∧ Whole W gf 26 #[.bool fin, .int .i64 op, .slice A n cb] ∧ Whole W g0 51 ev0 ∧ Rest w W (Foot g vw vl) (Foot g vw vl) ∧ Own w0 W (.slice A n cb) l
theorem PartAt.below {w0 w W W1 : World} {g : Nat} {c1 : Cn} {vw vl : Value} {gf g0 : Nat} {fin : Bool} {op : Int} {A : Option Addr} {n cb : Nat} {l : List Int} (h : PartAt w0 w W g c1 vw vl gf g0 fin op A n cb l) (hb : Below W.heap.size W W1) : PartAt w0 w W1 g c1 vw vl gf g0 fin op A n cb l :=
  ⟨h.1.below hb, below_step h.2.1 hb, h.2.2.1.below hb h.2.2.1.lt, h.2.2.2.1.below hb h.2.2.2.1.lt, h.2.2.2.2.1.trans (.of_below hb), h.2.2.2.2.2.below hb⟩
theorem PartAt.set4 {w0 w W : World} {g : Nat} {c1 : Cn} {vw vl : Value} {gf g0 : Nat} {fin : Bool} {op : Int} {A : Option Addr} {n cb : Nat} {l : List Int} (h : PartAt w0 w W g c1 vw vl gf g0 fin op A n cb l) (hf : gf ≠ g) (h0 : g0 ≠ g) (ha : some g ≠ (Value.slice A n cb).ownBlock) (x : Int) : PartAt w0 w (W.setCell ⟨g, 4, none⟩ (.int .i64 x)) g { c1 with op := x } vw vl gf g0 fin op A n cb l :=
  ⟨⟨h.1.1.six4 _, h.1.2.1.far (p := ⟨g, 4, none⟩) h.1.2.2.2.2.1 _, h.1.2.2.1.far (p := ⟨g, 4, none⟩) h.1.2.2.2.2.2.1 _, h.1.2.2.2⟩, h.2.1.setCell (p := ⟨g, 4, none⟩) h.1.2.2.2.1 _, h.2.2.1.other (p := ⟨g, 4, none⟩) (Ne.symm hf) _, h.2.2.2.1.other (p := ⟨g, 4, none⟩) (Ne.symm h0) _, h.2.2.2.2.1.setg, h.2.2.2.2.2.far (p := ⟨g, 4, none⟩) ha _⟩
set_option maxRecDepth 20000 in
set_option maxHeartbeats 6400000 in
theorem WsPart_long {n : Nat} (w0 w : World) (g : Nat) (c : Cn) (vw vl : Value) (fin : Bool) (op : Int) (A : Option Addr) (cb : Nat) (l : List Int) (h : ConnAt w0 w g c vw vl) (hB : Below w0.heap.size w0 w) (hgood : (decide (op = 0) != decide (c.op ≠ 0)) = false) (hfl : Own w0 w (.slice A n cb) l) (hap : ∀ k, Foot g vw vl k → some k ≠ (Value.slice A n cb).ownBlock) (hby : Bytes l) (hn : n ≤ 16384) (hl : 16384 < c.load.length + n) :
    Calls Tryd.prog 52 #[.pointer (some ⟨g, 0, none⟩), .agg #[.bool fin, .int .i64 op, .slice A n cb]] w (StepPost w0 w g vw vl (partV c ⟨fin, op, l⟩)) := by
  obtain ⟨gf, hgf⟩ : ∃ g, g = w.heap.size := ⟨_, rfl⟩
  obtain ⟨g0, hg0⟩ : ∃ g, g = gf + 1 := ⟨_, rfl⟩
  obtain ⟨W0, hW0⟩ : ∃ W, W = w.alloc (.cells #[.bool fin, .int .i64 op, .slice A n cb] 26) := ⟨_, rfl⟩
  obtain ⟨W1, hW1⟩ : ∃ W, W = W0.alloc (.cells #[.int .i64 0, .int .i64 0, .slice none 0 0, .bool false] 51) := ⟨_, rfl⟩
  have z0 : W0.heap.size = g0 := by rw [hW0, size_alloc, hg0, hgf]
  have b0 : Below w.heap.size w W0 := by rw [hW0]; exact below_alloc (Below.refl _ _) _
  have b01 : Below W0.heap.size W0 W1 := by rw [hW1]; exact below_alloc (Below.refl _ _) _
  have b1 := below_step b0 b01
  have kf0 : Whole W0 gf 26 #[.bool fin, .int .i64 op, .slice A n cb] := by rw [hW0, hgf]; exact Whole.new w _ _
  have kf := kf0.below b01 kf0.lt
  have k0 : Whole W1 g0 51 ev0 := by rw [hW1, ← z0]; exact Whole.new W0 _ _
  have hlt := h.1.lt
  have hbl : l.length = n := (Kd.R_reads' hfl).1.symm
  have HS := Lib.hid (show gf = w.heap.size ∧ W0 = w.alloc _ ∧ g0 = gf + 1 ∧ W1 = W0.alloc _ from ⟨hgf, hW0, hg0, hW1⟩)
  have HP := Lib.hid (show PartAt w0 w W1 g c vw vl gf g0 fin op A n cb l from ⟨h.below b1, below_step hB b1, kf, k0, .of_below b1, hfl.below b1⟩)
  have HG := Lib.hid (show gf ≠ g ∧ g0 ≠ g ∧ gf ≠ g0 ∧ w.heap.size ≤ gf ∧ w.heap.size ≤ g0 ∧ w0.heap.size ≤ g0 ∧ ¬ Foot g vw vl g0 ∧ ¬ Foot g vw vl gf ∧ some g ≠ (Value.slice A n cb).ownBlock from ⟨by omega, by omega, by omega, by omega, by omega, by have := hB.size; omega, h.outside g0 (by omega), h.outside gf (by omega), hap g (.inl rfl)⟩)
  have HC := Lib.hid (show ConnAt w0 w g c vw vl ∧ Below w0.heap.size w0 w ∧ n ≤ 16384 ∧ l.length = n ∧ Bytes l from ⟨h, hB, hn, hbl, hby⟩)
  have q1 := kf.cell 1 _ rfl
  have x4 := HP.out.1.1.cell 4 _ rfl
  obtain ⟨J, hJ⟩ : ∃ J, J = joinOp c ⟨fin, op, l⟩ := ⟨_, rfl⟩
  obtain ⟨p, hp⟩ : ∃ p, (op == 0) = p := ⟨_, rfl⟩
  obtain ⟨q, hq⟩ : ∃ q, (c.op != 0) = q := ⟨_, rfl⟩
  have hop : (op != 0) = !p := by rw [← hp]; rfl
  have hpq : (p != q) = false := by
    rw [← hp, ← hq, show (op == 0) = decide (op = 0) from by by_cases h1 : op = 0 <;> simp [h1], show (c.op != 0) = decide (c.op ≠ 0) from by by_cases h1 : c.op = 0 <;> simp [h1]]
    exact hgood
  have hjop : J = if p = true then c.op else op := by
    rw [hJ, ← hp]; unfold joinOp
    by_cases h1 : op = 0
    · rw [if_pos h1, if_pos (by rw [beq_iff_eq]; exact h1)]
    · rw [if_neg h1, if_neg (by rw [beq_iff_eq]; exact h1)]
  have hpq2 : (p = true ∧ q = true) ∨ (p = false ∧ q = false) := by cases p <;> cases q <;> simp at hpq ⊢
  have HJO := Lib.hid hJ
  have HGD := Lib.hid hgood
  obtain ⟨Lc, hLc⟩ : ∃ n, n = c.load.length := ⟨_, rfl⟩
  have hLs : Lc ≤ 16384 := by rw [hLc]; exact h.2.2.2.2.2.2.2.2.1
  obtain ⟨Al, cl, hvl, _, _⟩ := h.2.2.1.reads
  rw [← hLc] at hvl
  subst hvl
  have HL := Lib.hid hLc
  have wl : IntKind.i64.wrap (16384 - (Lc : Int)) = 16384 - Lc := wrap_id (by omega) (by omega)
  have d1 : decide (16384 - (Lc : Int) < n) = true := decide_eq_true (by omega)
  have HV := Lib.hid (show partV c ⟨fin, op, l⟩ = (failC { c with op := J }, some (failE 1009)) by unfold partV; rw [if_neg (by rw [HGD.out]; decide), if_pos (by show 16384 < c.load.length + l.length; rw [hbl]; exact hl), HJO.out])
  clear hl hLc hLs
  clear h hB z0 b0 b01 b1 kf0 kf k0 hlt hgf hg0 hW0 hW1 hgood hfl hap hby hn hbl hpq hJ
  have HPQ := Lib.hid hpq2
  clear hpq2
  have HWK : ∃ W5 : World, True := ⟨w, trivial⟩
  clear HWK
  go_enter Tryd.func52, Tryd.ntmps52
  go_upto_region 1 with (fail)
  rw [← HS.out.1, ← HS.out.2.1, ← HS.out.2.2.1, ← HS.out.2.2.2]
  go_quiet (fail)
  have HJ := Lib.hid (HP.out.below (pw_below_drewN (Below.refl _ _) nq))
  generalize W1.drewN nq = W3 at HJ ⊢
  clear q1 x4
  have HK : Hid (PartAt w0 w (if p = true then W3 else W3.setCell ⟨g, 4, none⟩ (.int .i64 op)) g { c with op := J } vw (.slice Al Lc cl) gf g0 fin op A n cb l) := by
    rw [hjop]
    rcases HPQ.out with ⟨rfl, _⟩ | ⟨rfl, _⟩
    · exact Lib.hid HJ.out
    · exact Lib.hid (HJ.out.set4 HG.out.1 HG.out.2.1 HG.out.2.2.2.2.2.2.2.2 op)
  have q1 := HJ.out.2.2.1.cell 1 _ rfl
  have x4 := HJ.out.1.1.cell 4 _ rfl
  have f4 := HJ.out.1.1.free 4
  clear hp hq hjop
  rcases HPQ.out with ⟨rfl, rfl⟩ | ⟨rfl, rfl⟩
  · go_upto_region 5 with (fail)
    simp only [if_true] at HK
    generalize W3 = W5 at HK ⊢
    clear q1 x4 f4 HJ
    have q2 := HK.out.2.2.1.cell 2 _ rfl
    have x5 := HK.out.1.1.cell 5 _ rfl
    go_quiet (fail)
    have HQ := Lib.hid (HK.out.below (pw_below_drewN (Below.refl _ _) nq))
    generalize W5.drewN nq = W6 at HQ ⊢
    clear q2 x5 HK
    go_wp2_with fail
    refine (WsFail_calls w0 _ g { c with op := J } vw _ 1009 HQ.out.1 HQ.out.2.1).mono ?_
    rintro e w2 ⟨rfl, he2⟩
    have H2 := Lib.hid (show EndPost w0 W6 g { c with op := J } vw (.slice Al Lc cl) w2 ∧ Whole w2 g0 51 ev0 from ⟨he2, HQ.out.2.2.2.1.far (he2.2.1.2.1 g0 HQ.out.2.2.2.1.lt HG.out.2.2.2.2.2.2.1)⟩)
    clear he2
    go_wp2_with (refine gate_ (.store 51 (.tmp 4) (.tmp 40)) rfl ?_; refine store_whole rfl rfl rfl rfl rfl H2.out.2 rfl (by simp [Value.oneCell']) rfl (by kernel_rfl) ?_; intro w9 hk9 hb9 hf9 hg9)
    refine bodyPost_ret (results_ct rfl _ _ g0 _ _ _ _ rfl hk9 Tryd.underlying51 rfl (by kernel_rfl)) rfl ?_
    exact EndedPost.step ⟨.slice none 0 0, rfl, Own.nil _ _, H2.out.1.fin2 HQ.out.2.2.2.2.1 HG.out.2.2.2.2.1 HG.out.2.1 (fun k _ h => hf9 k h) hg9.size (hb9 _ _ H2.out.1.2.2 HG.out.2.2.2.2.2.1)⟩ HV.out HC.out.1 HC.out.2.1
  · go_upto_region 5 with (fail)
    simp only [Bool.false_eq_true, if_false] at HK
    generalize W3.setCell ⟨g, 4, none⟩ (.int .i64 op) = W5 at HK ⊢
    clear q1 x4 f4 HJ
    have q2 := HK.out.2.2.1.cell 2 _ rfl
    have x5 := HK.out.1.1.cell 5 _ rfl
    go_quiet (fail)
    have HQ := Lib.hid (HK.out.below (pw_below_drewN (Below.refl _ _) nq))
    generalize W5.drewN nq = W6 at HQ ⊢
    clear q2 x5 HK
    go_wp2_with fail
    refine (WsFail_calls w0 _ g { c with op := J } vw _ 1009 HQ.out.1 HQ.out.2.1).mono ?_
    rintro e w2 ⟨rfl, he2⟩
    have H2 := Lib.hid (show EndPost w0 W6 g { c with op := J } vw (.slice Al Lc cl) w2 ∧ Whole w2 g0 51 ev0 from ⟨he2, HQ.out.2.2.2.1.far (he2.2.1.2.1 g0 HQ.out.2.2.2.1.lt HG.out.2.2.2.2.2.2.1)⟩)
    clear he2
    go_wp2_with (refine gate_ (.store 51 (.tmp 4) (.tmp 40)) rfl ?_; refine store_whole rfl rfl rfl rfl rfl H2.out.2 rfl (by simp [Value.oneCell']) rfl (by kernel_rfl) ?_; intro w9 hk9 hb9 hf9 hg9)
    refine bodyPost_ret (results_ct rfl _ _ g0 _ _ _ _ rfl hk9 Tryd.underlying51 rfl (by kernel_rfl)) rfl ?_
    exact EndedPost.step ⟨.slice none 0 0, rfl, Own.nil _ _, H2.out.1.fin2 HQ.out.2.2.2.2.1 HG.out.2.2.2.2.1 HG.out.2.1 (fun k _ h => hf9 k h) hg9.size (hb9 _ _ H2.out.1.2.2 HG.out.2.2.2.2.2.1)⟩ HV.out HC.out.1 HC.out.2.1
/-- Behind the append: the end with its longer message. -/
def PartBt (w0 w W : World) (g : Nat) (c1 : Cn) (vw v7 vl : Value) (gf g0 : Nat) (fin : Bool) (op : Int) (A : Option Addr) (n cb : Nat) : Prop :=
  ConnAt w0 W g c1 vw v7 ∧ Below w0.heap.size w0 W ∧ Whole W gf 26 #[.bool fin, .int .i64 op, .slice A n cb] ∧ Whole W g0 51 ev0 ∧ Rest w W (Foot g vw vl) (Foot g vw v7) ∧ ¬ Foot g vw v7 g0
theorem PartAt.app {w0 w W w7 : World} {g : Nat} {c1 : Cn} {vw vl v7 : Value} {gf g0 : Nat} {fin : Bool} {op : Int} {A : Option Addr} {n cb : Nat} {l : List Int} (h : PartAt w0 w W g c1 vw vl gf g0 fin op A n cb l)
    (ho : Own w0 w7 v7 (c1.load ++ l)) (hb : Below w0.heap.size w0 w7) (hg : W.grownBy w7 vl.ownBlock) (hat : v7.ownBlock = vl.ownBlock ∨ ∃ b, v7.ownBlock = some b ∧ W.heap.size ≤ b) (hF0 : ¬ Foot g vw vl g0) (hFf : ¬ Foot g vw vl gf) (hsz : c1.load.length + l.length ≤ 16384) (hby : Bytes l) (hgg : w0.heap.size ≤ g) :
    PartBt w0 w (w7.setCell ⟨g, 5, none⟩ v7) g { c1 with load := c1.load ++ l } vw v7 vl gf g0 fin op A n cb := by
  have hng : some g ≠ vl.ownBlock := h.1.2.2.2.2.2.1
  have hk7 := h.1.1.grown hg hng
  have hne7 : some g ≠ v7.ownBlock := ne_after hat hng h.1.1.lt
  have h0g : g0 ≠ g := fun e => hF0 (.inl e)
  have hfg : gf ≠ g := fun e => hFf (.inl e)
  have hvw : Own w0 w7 vw c1.wait := h.1.2.1.keep (fun k hk hlt => hg.block k hlt (fun e => by
    have h1 := h.1.2.2.2.2.2.2.1 (hk.symm.trans e)
    rw [h1] at hk
    cases hk))
  have hapart : vw.ownBlock = v7.ownBlock → vw.ownBlock = none := fun e => by
    rcases hat with h1 | ⟨k, h1, h2⟩
    · rw [h1] at e
      exact h.1.2.2.2.2.2.2.1 e
    · have h3 := h.1.2.1.lt k (by rw [e, h1])
      omega
  have hc := h.1.2.2.2.2.2.2.2
  have hs := hg.size
  refine ⟨⟨hk7.six5 v7, hvw.far (p := ⟨g, 5, none⟩) h.1.2.2.2.2.1 _, ho.far (p := ⟨g, 5, none⟩) hne7 _, hgg, h.1.2.2.2.2.1, hne7, hapart, hc.1, by show (c1.load ++ l).length ≤ 16384; rw [List.length_append]; exact hsz, hc.2.2.1, Bytes.app hc.2.2.2.1 hby, hc.2.2.2.2⟩, hb.setCell (p := ⟨g, 5, none⟩) hgg _, (h.2.2.1.grown hg (fun e => hFf (.inr (.inr e)))).other (p := ⟨g, 5, none⟩) (Ne.symm hfg) _, (h.2.2.2.1.grown hg (fun e => hF0 (.inr (.inr e)))).other (p := ⟨g, 5, none⟩) (Ne.symm h0g) _, (h.2.2.2.2.1.trans ⟨hs, fun k hk hF => hg.block k hk (fun e => hF (.inr (.inr e))), fun k hk => ?_⟩).setg, fun hF => ?_⟩
  · rcases hk with h1 | h1 | h1
    · exact .inl (.inl h1)
    · exact .inl (.inr (.inl h1))
    · rcases hat with h2 | ⟨b, h2, h3⟩
      · exact .inl (.inr (.inr (h1.trans h2)))
      · rw [h2] at h1
        injection h1 with h1
        exact .inr (by omega)
  · rcases hF with h1 | h1 | h1
    · exact h0g h1
    · exact hF0 (.inr (.inl h1))
    · rcases hat with h2 | ⟨b, h2, h3⟩
      · exact hF0 (.inr (.inr (h1.trans h2)))
      · rw [h2] at h1
        injection h1 with h1
        have := h.2.2.2.1.lt
        omega
set_option maxRecDepth 20000 in
set_option maxHeartbeats 6400000 in
theorem WsPart_goes {n : Nat} (w0 w : World) (g : Nat) (c : Cn) (vw vl : Value) (fin : Bool) (op : Int) (A : Option Addr) (cb : Nat) (l : List Int) (h : ConnAt w0 w g c vw vl) (hB : Below w0.heap.size w0 w) (hgood : (decide (op = 0) != decide (c.op ≠ 0)) = false) (hfl : Own w0 w (.slice A n cb) l) (hap : ∀ k, Foot g vw vl k → some k ≠ (Value.slice A n cb).ownBlock) (hby : Bytes l) (hn : n ≤ 16384) (hl : c.load.length + n ≤ 16384) (hfin : fin = false) :
    Calls Tryd.prog 52 #[.pointer (some ⟨g, 0, none⟩), .agg #[.bool fin, .int .i64 op, .slice A n cb]] w (StepPost w0 w g vw vl (partV c ⟨fin, op, l⟩)) := by
  obtain ⟨gf, hgf⟩ : ∃ g, g = w.heap.size := ⟨_, rfl⟩
  obtain ⟨g0, hg0⟩ : ∃ g, g = gf + 1 := ⟨_, rfl⟩
  obtain ⟨W0, hW0⟩ : ∃ W, W = w.alloc (.cells #[.bool fin, .int .i64 op, .slice A n cb] 26) := ⟨_, rfl⟩
  obtain ⟨W1, hW1⟩ : ∃ W, W = W0.alloc (.cells #[.int .i64 0, .int .i64 0, .slice none 0 0, .bool false] 51) := ⟨_, rfl⟩
  have z0 : W0.heap.size = g0 := by rw [hW0, size_alloc, hg0, hgf]
  have b0 : Below w.heap.size w W0 := by rw [hW0]; exact below_alloc (Below.refl _ _) _
  have b01 : Below W0.heap.size W0 W1 := by rw [hW1]; exact below_alloc (Below.refl _ _) _
  have b1 := below_step b0 b01
  have kf0 : Whole W0 gf 26 #[.bool fin, .int .i64 op, .slice A n cb] := by rw [hW0, hgf]; exact Whole.new w _ _
  have kf := kf0.below b01 kf0.lt
  have k0 : Whole W1 g0 51 ev0 := by rw [hW1, ← z0]; exact Whole.new W0 _ _
  have hlt := h.1.lt
  have hbl : l.length = n := (Kd.R_reads' hfl).1.symm
  have HS := Lib.hid (show gf = w.heap.size ∧ W0 = w.alloc _ ∧ g0 = gf + 1 ∧ W1 = W0.alloc _ from ⟨hgf, hW0, hg0, hW1⟩)
  have HP := Lib.hid (show PartAt w0 w W1 g c vw vl gf g0 fin op A n cb l from ⟨h.below b1, below_step hB b1, kf, k0, .of_below b1, hfl.below b1⟩)
  have HG := Lib.hid (show gf ≠ g ∧ g0 ≠ g ∧ gf ≠ g0 ∧ w.heap.size ≤ gf ∧ w.heap.size ≤ g0 ∧ w0.heap.size ≤ g0 ∧ ¬ Foot g vw vl g0 ∧ ¬ Foot g vw vl gf ∧ some g ≠ (Value.slice A n cb).ownBlock from ⟨by omega, by omega, by omega, by omega, by omega, by have := hB.size; omega, h.outside g0 (by omega), h.outside gf (by omega), hap g (.inl rfl)⟩)
  have HC := Lib.hid (show ConnAt w0 w g c vw vl ∧ Below w0.heap.size w0 w ∧ n ≤ 16384 ∧ l.length = n ∧ Bytes l from ⟨h, hB, hn, hbl, hby⟩)
  have q1 := kf.cell 1 _ rfl
  have x4 := HP.out.1.1.cell 4 _ rfl
  obtain ⟨J, hJ⟩ : ∃ J, J = joinOp c ⟨fin, op, l⟩ := ⟨_, rfl⟩
  obtain ⟨p, hp⟩ : ∃ p, (op == 0) = p := ⟨_, rfl⟩
  obtain ⟨q, hq⟩ : ∃ q, (c.op != 0) = q := ⟨_, rfl⟩
  have hop : (op != 0) = !p := by rw [← hp]; rfl
  have hpq : (p != q) = false := by
    rw [← hp, ← hq, show (op == 0) = decide (op = 0) from by by_cases h1 : op = 0 <;> simp [h1], show (c.op != 0) = decide (c.op ≠ 0) from by by_cases h1 : c.op = 0 <;> simp [h1]]
    exact hgood
  have hjop : J = if p = true then c.op else op := by
    rw [hJ, ← hp]; unfold joinOp
    by_cases h1 : op = 0
    · rw [if_pos h1, if_pos (by rw [beq_iff_eq]; exact h1)]
    · rw [if_neg h1, if_neg (by rw [beq_iff_eq]; exact h1)]
  have hpq2 : (p = true ∧ q = true) ∨ (p = false ∧ q = false) := by cases p <;> cases q <;> simp at hpq ⊢
  have HJO := Lib.hid hJ
  have HGD := Lib.hid hgood
  have HFT := Lib.hid hl
  clear hl
  obtain ⟨Lc, hLc⟩ : ∃ n, n = c.load.length := ⟨_, rfl⟩
  have hLs : Lc ≤ 16384 := by rw [hLc]; exact h.2.2.2.2.2.2.2.2.1
  obtain ⟨Al, cl, hvl, _, _⟩ := h.2.2.1.reads
  rw [← hLc] at hvl
  subst hvl
  have HL := Lib.hid hLc
  have wl : IntKind.i64.wrap (16384 - (Lc : Int)) = 16384 - Lc := wrap_id (by omega) (by omega)
  have hl : c.load.length + n ≤ 16384 := HFT.out
  have d1 : decide (16384 - (Lc : Int) < n) = false := decide_eq_false (by rw [← hLc] at hl; omega)
  clear hl hLc hLs
  have HV := Lib.hid (show partV c ⟨fin, op, l⟩ = ({ c with op := J, load := c.load ++ l }, none) by unfold partV; rw [if_neg (by rw [HGD.out]; decide), if_neg (by show ¬ 16384 < c.load.length + l.length; rw [hbl]; have := HFT.out; omega), if_pos hfin, HJO.out])
  subst hfin
  clear h hB z0 b0 b01 b1 kf0 kf k0 hlt hgf hg0 hW0 hW1 hgood hfl hap hby hn hbl hpq hJ
  have HPQ := Lib.hid hpq2
  clear hpq2
  have HWK : ∃ W5 : World, True := ⟨w, trivial⟩
  clear HWK
  go_enter Tryd.func52, Tryd.ntmps52
  go_upto_region 1 with (fail)
  rw [← HS.out.1, ← HS.out.2.1, ← HS.out.2.2.1, ← HS.out.2.2.2]
  go_quiet (fail)
  have HJ := Lib.hid (HP.out.below (pw_below_drewN (Below.refl _ _) nq))
  generalize W1.drewN nq = W3 at HJ ⊢
  clear q1 x4
  have HK : Hid (PartAt w0 w (if p = true then W3 else W3.setCell ⟨g, 4, none⟩ (.int .i64 op)) g { c with op := J } vw (.slice Al Lc cl) gf g0 false op A n cb l) := by
    rw [hjop]
    rcases HPQ.out with ⟨rfl, _⟩ | ⟨rfl, _⟩
    · exact Lib.hid HJ.out
    · exact Lib.hid (HJ.out.set4 HG.out.1 HG.out.2.1 HG.out.2.2.2.2.2.2.2.2 op)
  have q1 := HJ.out.2.2.1.cell 1 _ rfl
  have x4 := HJ.out.1.1.cell 4 _ rfl
  have f4 := HJ.out.1.1.free 4
  clear hp hq hjop
  rcases HPQ.out with ⟨rfl, rfl⟩ | ⟨rfl, rfl⟩
  · go_upto_region 5 with (fail)
    simp only [if_true] at HK
    generalize W3 = W5 at HK ⊢
    clear q1 x4 f4 HJ
    have q2 := HK.out.2.2.1.cell 2 _ rfl
    have x5 := HK.out.1.1.cell 5 _ rfl
    go_quiet (fail)
    have HQ := Lib.hid (HK.out.below (pw_below_drewN (Below.refl _ _) nq))
    generalize W5.drewN nq = W6 at HQ ⊢
    clear q2 x5 HK
    have HD := Lib.hid (HQ.out.below (below_drew (Below.refl _ _)))
    have x5 := HD.out.1.1.cell 5 _ rfl
    have q2 := HD.out.2.2.1.cell 2 _ rfl
    have hlim : ({ c with op := J } : Cn).load.length + n ≤ 140737488355328 := by have := HFT.out; show c.load.length + n ≤ _; omega
    go_upto_region 7 with (fail)
    go_cut [49] (fun v wc => ∃ (A7 : Option Addr) (M c7 : Nat), v = .slice A7 M c7 ∧ Hid (PartBt w0 w wc g { c with op := J, load := c.load ++ l } vw (.slice A7 M c7) (.slice Al Lc cl) gf g0 false op A n cb))
    case first =>
      go_region_law (first | (refine app_row_step (s := .tmp 46) (x := .tmp 48) HD.out.1.2.2.1 HD.out.2.2.2.2.2.row HD.out.2.1 hlim (by rfl) rfl rfl rfl ?_; intro v7 w7 ho7 hb7 hg7 hat7; obtain ⟨A7, c7, rfl, _, _⟩ := ho7.reads; obtain ⟨M, hM⟩ : ∃ M, M = (({ c with op := J } : Cn).load ++ l).length := ⟨_, rfl⟩; rw [← hM] at ho7 hat7 ⊢; clear hM; have H7 := Lib.hid (show Own w0 w7 (.slice A7 M c7) (({ c with op := J } : Cn).load ++ l) ∧ Below w0.heap.size w0 w7 ∧ W6.drew.grownBy w7 (Value.ownBlock (.slice Al Lc cl)) ∧ ((Value.slice A7 M c7).ownBlock = Value.ownBlock (.slice Al Lc cl) ∨ ∃ b, (Value.slice A7 M c7).ownBlock = some b ∧ W6.drew.heap.size ≤ b) from ⟨ho7, hb7, hg7, hat7⟩); have f5 := (HD.out.1.1.grown hg7 HD.out.1.2.2.2.2.2.1).free 5; have y5 := (HD.out.1.1.grown hg7 HD.out.1.2.2.2.2.2.1).cell 5 _ rfl; clear ho7 hb7 hg7 hat7) | fail)
      all_goals
        go_wp2
        go_meet
        case rel => exact ⟨A7, M, c7, rfl, Lib.hid (HD.out.app H7.out.1 H7.out.2.1 H7.out.2.2.1 H7.out.2.2.2 HG.out.2.2.2.2.2.2.1 HG.out.2.2.2.2.2.2.2.1 (by rw [HC.out.2.2.2.1]; exact HFT.out) HC.out.2.2.2.2 HC.out.1.2.2.2.1)⟩
    case rest =>
    obtain ⟨A7, M, c7, rfl, HB7⟩ := hcut
    generalize wc = W8 at HB7 ⊢
    clear x5 q2 hlim HD HQ
    have q0 := HB7.out.2.2.1.cell 0 _ rfl
    go_upto_region 9 with (fail)
    go_wp2_with (refine gate_ (.store 51 (.tmp 4) (.tmp 55)) rfl ?_; refine store_whole rfl rfl rfl rfl rfl HB7.out.2.2.2.1 rfl (by simp [Value.oneCell']) rfl (by kernel_rfl) ?_; intro w9 hk9 hb9 hf9 hg9)
    refine bodyPost_ret (results_ct rfl _ _ g0 _ _ _ _ rfl hk9 Tryd.underlying51 rfl (by kernel_rfl)) rfl ?_
    rw [HV.out]
    exact ⟨vw, .slice A7 M c7, .slice none 0 0, ⟨0, 0, [], false⟩, false, rfl, .inr ⟨rfl, rfl, rfl⟩, Own.nil _ _, HB7.out.1.step (fun k hk _ => hf9 k (fun e => HB7.out.2.2.2.2.2 (e ▸ hk))), HB7.out.2.2.2.2.1.own HG.out.2.2.2.2.1 hf9 hg9.size, fun k _ => by simp [Value.ownBlock], hb9 _ _ HB7.out.2.1 HG.out.2.2.2.2.2.1, fun k hk => by simp [Value.ownBlock] at hk⟩
  · go_upto_region 5 with (fail)
    simp only [Bool.false_eq_true, if_false] at HK
    generalize W3.setCell ⟨g, 4, none⟩ (.int .i64 op) = W5 at HK ⊢
    clear q1 x4 f4 HJ
    have q2 := HK.out.2.2.1.cell 2 _ rfl
    have x5 := HK.out.1.1.cell 5 _ rfl
    go_quiet (fail)
    have HQ := Lib.hid (HK.out.below (pw_below_drewN (Below.refl _ _) nq))
    generalize W5.drewN nq = W6 at HQ ⊢
    clear q2 x5 HK
    have HD := Lib.hid (HQ.out.below (below_drew (Below.refl _ _)))
    have x5 := HD.out.1.1.cell 5 _ rfl
    have q2 := HD.out.2.2.1.cell 2 _ rfl
    have hlim : ({ c with op := J } : Cn).load.length + n ≤ 140737488355328 := by have := HFT.out; show c.load.length + n ≤ _; omega
    go_upto_region 7 with (fail)
    go_cut [49] (fun v wc => ∃ (A7 : Option Addr) (M c7 : Nat), v = .slice A7 M c7 ∧ Hid (PartBt w0 w wc g { c with op := J, load := c.load ++ l } vw (.slice A7 M c7) (.slice Al Lc cl) gf g0 false op A n cb))
    case first =>
      go_region_law (first | (refine app_row_step (s := .tmp 46) (x := .tmp 48) HD.out.1.2.2.1 HD.out.2.2.2.2.2.row HD.out.2.1 hlim (by rfl) rfl rfl rfl ?_; intro v7 w7 ho7 hb7 hg7 hat7; obtain ⟨A7, c7, rfl, _, _⟩ := ho7.reads; obtain ⟨M, hM⟩ : ∃ M, M = (({ c with op := J } : Cn).load ++ l).length := ⟨_, rfl⟩; rw [← hM] at ho7 hat7 ⊢; clear hM; have H7 := Lib.hid (show Own w0 w7 (.slice A7 M c7) (({ c with op := J } : Cn).load ++ l) ∧ Below w0.heap.size w0 w7 ∧ W6.drew.grownBy w7 (Value.ownBlock (.slice Al Lc cl)) ∧ ((Value.slice A7 M c7).ownBlock = Value.ownBlock (.slice Al Lc cl) ∨ ∃ b, (Value.slice A7 M c7).ownBlock = some b ∧ W6.drew.heap.size ≤ b) from ⟨ho7, hb7, hg7, hat7⟩); have f5 := (HD.out.1.1.grown hg7 HD.out.1.2.2.2.2.2.1).free 5; have y5 := (HD.out.1.1.grown hg7 HD.out.1.2.2.2.2.2.1).cell 5 _ rfl; clear ho7 hb7 hg7 hat7) | fail)
      all_goals
        go_wp2
        go_meet
        case rel => exact ⟨A7, M, c7, rfl, Lib.hid (HD.out.app H7.out.1 H7.out.2.1 H7.out.2.2.1 H7.out.2.2.2 HG.out.2.2.2.2.2.2.1 HG.out.2.2.2.2.2.2.2.1 (by rw [HC.out.2.2.2.1]; exact HFT.out) HC.out.2.2.2.2 HC.out.1.2.2.2.1)⟩
    case rest =>
    obtain ⟨A7, M, c7, rfl, HB7⟩ := hcut
    generalize wc = W8 at HB7 ⊢
    clear x5 q2 hlim HD HQ
    have q0 := HB7.out.2.2.1.cell 0 _ rfl
    go_upto_region 9 with (fail)
    go_wp2_with (refine gate_ (.store 51 (.tmp 4) (.tmp 55)) rfl ?_; refine store_whole rfl rfl rfl rfl rfl HB7.out.2.2.2.1 rfl (by simp [Value.oneCell']) rfl (by kernel_rfl) ?_; intro w9 hk9 hb9 hf9 hg9)
    refine bodyPost_ret (results_ct rfl _ _ g0 _ _ _ _ rfl hk9 Tryd.underlying51 rfl (by kernel_rfl)) rfl ?_
    rw [HV.out]
    exact ⟨vw, .slice A7 M c7, .slice none 0 0, ⟨0, 0, [], false⟩, false, rfl, .inr ⟨rfl, rfl, rfl⟩, Own.nil _ _, HB7.out.1.step (fun k hk _ => hf9 k (fun e => HB7.out.2.2.2.2.2 (e ▸ hk))), HB7.out.2.2.2.2.1.own HG.out.2.2.2.2.1 hf9 hg9.size, fun k _ => by simp [Value.ownBlock], hb9 _ _ HB7.out.2.1 HG.out.2.2.2.2.2.1, fun k hk => by simp [Value.ownBlock] at hk⟩
/-- Behind the last part: the end with no message, the event. -/
def WholeAt (w0 w W : World) (g : Nat) (c1 : Cn) (vw v7 vl : Value) (g0 g6 : Nat) (J : Int) (LL : List Int) : Prop :=
  ConnAt w0 W g c1 vw (.slice none 0 0) ∧ Below w0.heap.size w0 W ∧ Whole W g0 51 ev0 ∧ Whole W g6 51 #[.int .i64 J, .int .i64 0, v7, .bool false] ∧ Rest w W (Foot g vw vl) (Foot g vw (.slice none 0 0)) ∧ Own w0 W v7 LL ∧ ¬ Foot g vw (.slice none 0 0) g0 ∧ some g0 ≠ v7.ownBlock ∧ (∀ k, Foot g vw (.slice none 0 0) k → some k ≠ v7.ownBlock) ∧ (∀ k, some k = v7.ownBlock → Foot g vw vl k ∨ w.heap.size ≤ k)
theorem whole_new_drew (w : World) (t : TypeId) (cs : Array Value) : Whole (w.alloc (.cells cs t)).drew w.heap.size t cs := (Whole.new w t cs).below (below_drew (Below.refl _ _)) (Whole.new w t cs).lt
theorem foot_nil {g : Nat} {vw vl : Value} {k : Nat} (h : Foot g vw (.slice none 0 0) k) : Foot g vw vl k := by
  rcases h with h1 | h1 | h1
  · exact .inl h1
  · exact .inr (.inl h1)
  · simp [Value.ownBlock] at h1
theorem PartBt.whole {w0 w W W9 : World} {g : Nat} {c : Cn} {J : Int} {LL : List Int} {vw v7 vl : Value} {gf g0 g6 : Nat} {fin : Bool} {op : Int} {A : Option Addr} {n cb : Nat} (h : PartBt w0 w W g ⟨c.mask, c.over, c.wait, J, LL⟩ vw v7 vl gf g0 fin op A n cb)
    (hb : Below W.heap.size W W9) (h6 : Whole W9 g6 51 #[.int .i64 J, .int .i64 0, v7, .bool false]) (hg6 : W.heap.size ≤ g6) :
    WholeAt w0 w ((W9.setCell ⟨g, 4, none⟩ (.int .i64 0)).setCell ⟨g, 5, none⟩ (.slice none 0 0)) g ⟨c.mask, c.over, c.wait, 0, []⟩ vw v7 vl g0 g6 J LL := by
  have hC := h.1.below hb
  have hlt := h.1.1.lt
  have hgg : g ≠ g6 := by omega
  have h0g : g0 ≠ g := fun e => h.2.2.2.2.2 (.inl e)
  have hc := h.1.2.2.2.2.2.2.2
  refine ⟨⟨(hC.1.six4 _).six5 _, (hC.2.1.far (p := ⟨g, 4, none⟩) hC.2.2.2.2.1 _).far (p := ⟨g, 5, none⟩) hC.2.2.2.2.1 _, Own.nil _ _, hC.2.2.2.1, hC.2.2.2.2.1, by simp [Value.ownBlock], fun e => by rw [e]; rfl, hc.1, by simp, hc.2.2.1, Bytes.nil, hc.2.2.2.2⟩,
    ((below_step h.2.1 hb).setCell (p := ⟨g, 4, none⟩) hC.2.2.2.1 _).setCell (p := ⟨g, 5, none⟩) hC.2.2.2.1 _, ((h.2.2.2.1.below hb h.2.2.2.1.lt).other (p := ⟨g, 4, none⟩) (Ne.symm h0g) _).other (p := ⟨g, 5, none⟩) (Ne.symm h0g) _,
    (h6.other (p := ⟨g, 4, none⟩) hgg _).other (p := ⟨g, 5, none⟩) hgg _, ?_, (hC.2.2.1.far (p := ⟨g, 4, none⟩) hC.2.2.2.2.2.1 _).far (p := ⟨g, 5, none⟩) hC.2.2.2.2.2.1 _, fun hF => h.2.2.2.2.2 (foot_nil hF), fun e => h.2.2.2.2.2 (.inr (.inr e)), fun k hk => ?_, fun k hk => h.2.2.2.2.1.2.2 k (.inr (.inr hk))⟩
  · have h1 := ((h.2.2.2.2.1.trans (.of_below hb)).setg (i := 4) (x := .int .i64 0)).setg (i := 5) (x := .slice none 0 0)
    exact ⟨h1.1, h1.2.1, fun k hk => h1.2.2 k (foot_nil hk)⟩
  · rcases hk with h1 | h1 | h1
    · rw [h1]; exact h.1.2.2.2.2.2.1
    · intro e
      have h2 := h.1.2.2.2.2.2.2.1 (h1.symm.trans e)
      rw [h2] at h1
      cases h1
    · simp [Value.ownBlock] at h1
theorem WholeAt.below {w0 w W W1 : World} {g : Nat} {c1 : Cn} {vw v7 vl : Value} {g0 g6 : Nat} {J : Int} {LL : List Int} (h : WholeAt w0 w W g c1 vw v7 vl g0 g6 J LL) (hb : Below W.heap.size W W1) : WholeAt w0 w W1 g c1 vw v7 vl g0 g6 J LL :=
  ⟨h.1.below hb, below_step h.2.1 hb, h.2.2.1.below hb h.2.2.1.lt, h.2.2.2.1.below hb h.2.2.2.1.lt, h.2.2.2.2.1.trans (.of_below hb), h.2.2.2.2.2.1.below hb, h.2.2.2.2.2.2⟩
/-- The event is told. -/
theorem WholeAt.told {w0 w W w9 : World} {g : Nat} {c : Cn} {vw v7 vl : Value} {g0 g6 : Nat} {J : Int} {LL : List Int} {r : Cn × Option Evt} (h : WholeAt w0 w W g ⟨c.mask, c.over, c.wait, 0, []⟩ vw v7 vl g0 g6 J LL) (hr : r = ({ c with op := 0, load := [] }, some ⟨J, 0, LL, false⟩)) (hg : w.heap.size ≤ g0) (hf : ∀ k, k ≠ g0 → w9.heap[k]? = W.heap[k]?) (hs : W.heap.size ≤ w9.heap.size) (hB : Below w0.heap.size w0 w9) :
    StepPost w0 w g vw vl r (.returned (.tuple #[.agg #[.int .i64 J, .int .i64 0, v7, .bool false], .bool true])) w9 := by
  subst hr
  exact ⟨vw, .slice none 0 0, v7, ⟨J, 0, LL, false⟩, true, rfl, .inl ⟨rfl, rfl⟩, h.2.2.2.2.2.1.keep (fun k hk _ => hf k (fun e => h.2.2.2.2.2.2.2.1 (by rw [← e]; exact hk))), h.1.step (fun k hk _ => hf k (fun e => h.2.2.2.2.2.2.1 (by rw [← e]; exact hk))), h.2.2.2.2.1.own hg hf hs, h.2.2.2.2.2.2.2.2.1, hB, h.2.2.2.2.2.2.2.2.2⟩
set_option maxRecDepth 20000 in
set_option maxHeartbeats 6400000 in
theorem WsPart_whole {n : Nat} (w0 w : World) (g : Nat) (c : Cn) (vw vl : Value) (fin : Bool) (op : Int) (A : Option Addr) (cb : Nat) (l : List Int) (h : ConnAt w0 w g c vw vl) (hB : Below w0.heap.size w0 w) (hgood : (decide (op = 0) != decide (c.op ≠ 0)) = false) (hfl : Own w0 w (.slice A n cb) l) (hap : ∀ k, Foot g vw vl k → some k ≠ (Value.slice A n cb).ownBlock) (hby : Bytes l) (hn : n ≤ 16384) (hl : c.load.length + n ≤ 16384) (hfin : fin = true) :
    Calls Tryd.prog 52 #[.pointer (some ⟨g, 0, none⟩), .agg #[.bool fin, .int .i64 op, .slice A n cb]] w (StepPost w0 w g vw vl (partV c ⟨fin, op, l⟩)) := by
  obtain ⟨gf, hgf⟩ : ∃ g, g = w.heap.size := ⟨_, rfl⟩
  obtain ⟨g0, hg0⟩ : ∃ g, g = gf + 1 := ⟨_, rfl⟩
  obtain ⟨W0, hW0⟩ : ∃ W, W = w.alloc (.cells #[.bool fin, .int .i64 op, .slice A n cb] 26) := ⟨_, rfl⟩
  obtain ⟨W1, hW1⟩ : ∃ W, W = W0.alloc (.cells #[.int .i64 0, .int .i64 0, .slice none 0 0, .bool false] 51) := ⟨_, rfl⟩
  have z0 : W0.heap.size = g0 := by rw [hW0, size_alloc, hg0, hgf]
  have b0 : Below w.heap.size w W0 := by rw [hW0]; exact below_alloc (Below.refl _ _) _
  have b01 : Below W0.heap.size W0 W1 := by rw [hW1]; exact below_alloc (Below.refl _ _) _
  have b1 := below_step b0 b01
  have kf0 : Whole W0 gf 26 #[.bool fin, .int .i64 op, .slice A n cb] := by rw [hW0, hgf]; exact Whole.new w _ _
  have kf := kf0.below b01 kf0.lt
  have k0 : Whole W1 g0 51 ev0 := by rw [hW1, ← z0]; exact Whole.new W0 _ _
  have hlt := h.1.lt
  have hbl : l.length = n := (Kd.R_reads' hfl).1.symm
  have HS := Lib.hid (show gf = w.heap.size ∧ W0 = w.alloc _ ∧ g0 = gf + 1 ∧ W1 = W0.alloc _ from ⟨hgf, hW0, hg0, hW1⟩)
  have HP := Lib.hid (show PartAt w0 w W1 g c vw vl gf g0 fin op A n cb l from ⟨h.below b1, below_step hB b1, kf, k0, .of_below b1, hfl.below b1⟩)
  have HG := Lib.hid (show gf ≠ g ∧ g0 ≠ g ∧ gf ≠ g0 ∧ w.heap.size ≤ gf ∧ w.heap.size ≤ g0 ∧ w0.heap.size ≤ g0 ∧ ¬ Foot g vw vl g0 ∧ ¬ Foot g vw vl gf ∧ some g ≠ (Value.slice A n cb).ownBlock from ⟨by omega, by omega, by omega, by omega, by omega, by have := hB.size; omega, h.outside g0 (by omega), h.outside gf (by omega), hap g (.inl rfl)⟩)
  have HC := Lib.hid (show ConnAt w0 w g c vw vl ∧ Below w0.heap.size w0 w ∧ n ≤ 16384 ∧ l.length = n ∧ Bytes l from ⟨h, hB, hn, hbl, hby⟩)
  have q1 := kf.cell 1 _ rfl
  have x4 := HP.out.1.1.cell 4 _ rfl
  obtain ⟨J, hJ⟩ : ∃ J, J = joinOp c ⟨fin, op, l⟩ := ⟨_, rfl⟩
  obtain ⟨p, hp⟩ : ∃ p, (op == 0) = p := ⟨_, rfl⟩
  obtain ⟨q, hq⟩ : ∃ q, (c.op != 0) = q := ⟨_, rfl⟩
  have hop : (op != 0) = !p := by rw [← hp]; rfl
  have hpq : (p != q) = false := by
    rw [← hp, ← hq, show (op == 0) = decide (op = 0) from by by_cases h1 : op = 0 <;> simp [h1], show (c.op != 0) = decide (c.op ≠ 0) from by by_cases h1 : c.op = 0 <;> simp [h1]]
    exact hgood
  have hjop : J = if p = true then c.op else op := by
    rw [hJ, ← hp]; unfold joinOp
    by_cases h1 : op = 0
    · rw [if_pos h1, if_pos (by rw [beq_iff_eq]; exact h1)]
    · rw [if_neg h1, if_neg (by rw [beq_iff_eq]; exact h1)]
  have hpq2 : (p = true ∧ q = true) ∨ (p = false ∧ q = false) := by cases p <;> cases q <;> simp at hpq ⊢
  have HJO := Lib.hid hJ
  have HGD := Lib.hid hgood
  have HFT := Lib.hid hl
  clear hl
  obtain ⟨Lc, hLc⟩ : ∃ n, n = c.load.length := ⟨_, rfl⟩
  have hLs : Lc ≤ 16384 := by rw [hLc]; exact h.2.2.2.2.2.2.2.2.1
  obtain ⟨Al, cl, hvl, _, _⟩ := h.2.2.1.reads
  rw [← hLc] at hvl
  subst hvl
  have HL := Lib.hid hLc
  have wl : IntKind.i64.wrap (16384 - (Lc : Int)) = 16384 - Lc := wrap_id (by omega) (by omega)
  have hl : c.load.length + n ≤ 16384 := HFT.out
  have d1 : decide (16384 - (Lc : Int) < n) = false := decide_eq_false (by rw [← hLc] at hl; omega)
  clear hl hLc hLs
  obtain ⟨LL, hLL⟩ : ∃ LL, LL = c.load ++ l := ⟨_, rfl⟩
  have HV := Lib.hid (show partV c ⟨fin, op, l⟩ = (if J = 1 ∧ 0 ≤ charsOf LL then (failC { c with op := 0, load := [] }, some (failE 1007)) else ({ c with op := 0, load := [] }, some ⟨J, 0, LL, false⟩)) by unfold partV; rw [if_neg (by rw [HGD.out]; decide), if_neg (by show ¬ 16384 < c.load.length + l.length; rw [hbl]; have := HFT.out; omega), if_neg (by show ¬ fin = false; rw [hfin]; decide), ← HJO.out, hLL])
  have HLL := Lib.hid hLL
  clear hLL
  subst hfin
  clear h hB z0 b0 b01 b1 kf0 kf k0 hlt hgf hg0 hW0 hW1 hgood hfl hap hby hn hbl hpq hJ
  have HPQ := Lib.hid hpq2
  clear hpq2
  have HWK : ∃ W5 : World, True := ⟨w, trivial⟩
  clear HWK
  go_enter Tryd.func52, Tryd.ntmps52
  go_upto_region 1 with (fail)
  rw [← HS.out.1, ← HS.out.2.1, ← HS.out.2.2.1, ← HS.out.2.2.2]
  go_quiet (fail)
  have HJ := Lib.hid (HP.out.below (pw_below_drewN (Below.refl _ _) nq))
  generalize W1.drewN nq = W3 at HJ ⊢
  clear q1 x4
  have HK : Hid (PartAt w0 w (if p = true then W3 else W3.setCell ⟨g, 4, none⟩ (.int .i64 op)) g { c with op := J } vw (.slice Al Lc cl) gf g0 true op A n cb l) := by
    rw [hjop]
    rcases HPQ.out with ⟨rfl, _⟩ | ⟨rfl, _⟩
    · exact Lib.hid HJ.out
    · exact Lib.hid (HJ.out.set4 HG.out.1 HG.out.2.1 HG.out.2.2.2.2.2.2.2.2 op)
  have q1 := HJ.out.2.2.1.cell 1 _ rfl
  have x4 := HJ.out.1.1.cell 4 _ rfl
  have f4 := HJ.out.1.1.free 4
  clear hp hq hjop
  rcases HPQ.out with ⟨rfl, rfl⟩ | ⟨rfl, rfl⟩
  · go_upto_region 5 with (fail)
    simp only [if_true] at HK
    generalize W3 = W5 at HK ⊢
    clear q1 x4 f4 HJ
    have q2 := HK.out.2.2.1.cell 2 _ rfl
    have x5 := HK.out.1.1.cell 5 _ rfl
    go_quiet (fail)
    have HQ := Lib.hid (HK.out.below (pw_below_drewN (Below.refl _ _) nq))
    generalize W5.drewN nq = W6 at HQ ⊢
    clear q2 x5 HK
    have HD := Lib.hid (HQ.out.below (below_drew (Below.refl _ _)))
    have x5 := HD.out.1.1.cell 5 _ rfl
    have q2 := HD.out.2.2.1.cell 2 _ rfl
    have hlim : ({ c with op := J } : Cn).load.length + n ≤ 140737488355328 := by have := HFT.out; show c.load.length + n ≤ _; omega
    go_upto_region 7 with (fail)
    go_cut [49] (fun v wc => ∃ (A7 : Option Addr) (M c7 : Nat), v = .slice A7 M c7 ∧ Hid (PartBt w0 w wc g { c with op := J, load := c.load ++ l } vw (.slice A7 M c7) (.slice Al Lc cl) gf g0 true op A n cb))
    case first =>
      go_region_law (first | (refine app_row_step (s := .tmp 46) (x := .tmp 48) HD.out.1.2.2.1 HD.out.2.2.2.2.2.row HD.out.2.1 hlim (by rfl) rfl rfl rfl ?_; intro v7 w7 ho7 hb7 hg7 hat7; obtain ⟨A7, c7, rfl, _, _⟩ := ho7.reads; obtain ⟨M, hM⟩ : ∃ M, M = (({ c with op := J } : Cn).load ++ l).length := ⟨_, rfl⟩; rw [← hM] at ho7 hat7 ⊢; clear hM; have H7 := Lib.hid (show Own w0 w7 (.slice A7 M c7) (({ c with op := J } : Cn).load ++ l) ∧ Below w0.heap.size w0 w7 ∧ W6.drew.grownBy w7 (Value.ownBlock (.slice Al Lc cl)) ∧ ((Value.slice A7 M c7).ownBlock = Value.ownBlock (.slice Al Lc cl) ∨ ∃ b, (Value.slice A7 M c7).ownBlock = some b ∧ W6.drew.heap.size ≤ b) from ⟨ho7, hb7, hg7, hat7⟩); have f5 := (HD.out.1.1.grown hg7 HD.out.1.2.2.2.2.2.1).free 5; have y5 := (HD.out.1.1.grown hg7 HD.out.1.2.2.2.2.2.1).cell 5 _ rfl; clear ho7 hb7 hg7 hat7) | fail)
      all_goals
        go_wp2
        go_meet
        case rel => exact ⟨A7, M, c7, rfl, Lib.hid (HD.out.app H7.out.1 H7.out.2.1 H7.out.2.2.1 H7.out.2.2.2 HG.out.2.2.2.2.2.2.1 HG.out.2.2.2.2.2.2.2.1 (by rw [HC.out.2.2.2.1]; exact HFT.out) HC.out.2.2.2.2 HC.out.1.2.2.2.1)⟩
    case rest =>
    obtain ⟨A7, M, c7, rfl, HB7⟩ := hcut
    generalize wc = W8 at HB7 ⊢
    clear x5 q2 hlim HD HQ
    have q0 := HB7.out.2.2.1.cell 0 _ rfl
    have HB8 := Lib.hid (show PartBt w0 w W8 g ⟨c.mask, c.over, c.wait, J, LL⟩ vw (.slice A7 M c7) (.slice Al Lc cl) gf g0 true op A n cb by rw [HLL.out]; exact HB7.out)
    clear HB7
    have HX := Lib.hid (show ∀ W, Below W8.heap.size W8 W → W.cell? ⟨g, 4, none⟩ = some (.int .i64 J) ∧ W.cell? ⟨g, 5, none⟩ = some (.slice A7 M c7) from fun W hW => ⟨(HB8.out.1.below hW).1.cell 4 _ rfl, (HB8.out.1.below hW).1.cell 5 _ rfl⟩)
    go_upto_region 10 with (fail)
    clear q0
    have x4 := (HX.out _ (below_drew (Below.refl _ _))).1
    have x5 := (HX.out _ (below_drew (Below.refl _ _))).2
    go_region_held3 (fun w' => w'.cell? ⟨g, 4, none⟩ = some (.int .i64 J) ∧ w'.cell? ⟨g, 5, none⟩ = some (.slice A7 M c7)) (first | with_reducible exact HX.out _ (below_drew (Below.refl _ _)) | with_reducible exact HX.out _ (below_alloc (below_drew (Below.refl _ _)) _)) (fail)
    obtain ⟨g6, hg6⟩ : ∃ g6, g6 = W8.heap.size := ⟨_, rfl⟩
    obtain ⟨W9, hW9⟩ : ∃ W9, W9 = (W8.alloc (.cells #[.int .i64 J, .int .i64 0, .slice A7 M c7, .bool false] 51)).drew := ⟨_, rfl⟩
    have H9 := Lib.hid (show Below W8.heap.size W8 W9 ∧ Whole W9 g6 51 #[.int .i64 J, .int .i64 0, .slice A7 M c7, .bool false] ∧ W8.heap.size ≤ g6 from ⟨by rw [hW9]; exact below_drew (below_alloc (Below.refl _ _) _), by rw [hW9, hg6]; exact whole_new_drew W8 _ _, by omega⟩)
    rw [← hW9, ← hg6]
    clear hW9 hg6 x4 x5
    have x4 := (HX.out _ H9.out.1).1
    have x5 := (HX.out _ H9.out.1).2
    have f4 := (HB8.out.1.below H9.out.1).1.free 4
    have f5 := (HB8.out.1.below H9.out.1).1.free 5
    go_upto_region 12 with (fail)
    have HW := Lib.hid (HB8.out.whole H9.out.1 H9.out.2.1 H9.out.2.2)
    have HLB := Lib.hid (show Bytes LL from HB8.out.1.2.2.2.2.2.2.2.2.2.2.1)
    generalize (W9.setCell ⟨g, 4, none⟩ (.int .i64 0)).setCell ⟨g, 5, none⟩ (.slice none 0 0) = WA at HW ⊢
    clear x4 x5 f4 f5 HX H9
    have y0 := HW.out.2.2.2.1.cell 0 _ rfl
    have y1 := HW.out.2.2.2.1.cell 1 _ rfl
    have y2 := HW.out.2.2.2.1.cell 2 _ rfl
    have y3 := HW.out.2.2.2.1.cell 3 _ rfl
    obtain ⟨b1, hb1⟩ : ∃ b, (J == 1) = b := ⟨_, rfl⟩
    cases b1 with
    | false =>
      have HR := Lib.hid (show partV c ⟨true, op, l⟩ = ({ c with op := 0, load := [] }, some ⟨J, 0, LL, false⟩) by rw [HV.out, if_neg (fun h => by rw [h.1] at hb1; exact absurd hb1 (by decide))])
      go_upto_region 14 with (fail)
      go_wp2_with (refine gate_ (.store 51 (.tmp 4) (.tmp 84)) rfl ?_; refine store_whole rfl rfl rfl rfl rfl HW.out.2.2.1 rfl (by simp [Value.oneCell']) rfl (by kernel_rfl) ?_; intro w9 hk9 hb9 hf9 hg9)
      refine bodyPost_ret (results_ct rfl _ _ g0 _ _ _ _ rfl hk9 Tryd.underlying51 rfl (by kernel_rfl)) rfl ?_
      exact HW.out.told HR.out HG.out.2.2.2.2.1 hf9 hg9.size (hb9 _ _ HW.out.2.1 HG.out.2.2.2.2.2.1)
    | true =>
      have HJ1 := Lib.hid (show J = 1 from by simpa using hb1)
      obtain ⟨ch, hch⟩ : ∃ ch, ch = charsOf LL := ⟨_, rfl⟩
      by_cases hc : 0 ≤ ch
      · have HR := Lib.hid (show partV c ⟨true, op, l⟩ = (failC ⟨c.mask, c.over, c.wait, 0, []⟩, some (failE 1007)) by rw [HV.out, if_pos ⟨HJ1.out, by rw [← hch]; exact hc⟩])
        have d5 : decide (0 ≤ ch) = true := decide_eq_true hc
        clear hc
        go_wp2_with fail
        refine (Chars_calls _ _ LL _ HW.out.2.2.2.2.2.1.row HLB.out).mono ?_
        rintro e w4 ⟨rfl, hd4⟩
        have HW4 := Lib.hid (HW.out.below hd4.below)
        rw [← hch]
        clear hd4 y0 y1 y2 y3 hch
        go_wp2_with fail
        refine (WsFail_calls w0 _ g ⟨c.mask, c.over, c.wait, 0, []⟩ vw _ 1007 HW4.out.1 HW4.out.2.1).mono ?_
        rintro e w2 ⟨rfl, he2⟩
        have H2 := Lib.hid (show EndPost w0 w4 g ⟨c.mask, c.over, c.wait, 0, []⟩ vw (.slice none 0 0) w2 ∧ Whole w2 g0 51 ev0 from ⟨he2, HW4.out.2.2.1.far (he2.2.1.2.1 g0 HW4.out.2.2.1.lt HW4.out.2.2.2.2.2.2.1)⟩)
        clear he2
        go_wp2_with (refine gate_ (.store 51 (.tmp 4) (.tmp 82)) rfl ?_; refine store_whole rfl rfl rfl rfl rfl H2.out.2 rfl (by simp [Value.oneCell']) rfl (by kernel_rfl) ?_; intro w9 hk9 hb9 hf9 hg9)
        refine bodyPost_ret (results_ct rfl _ _ g0 _ _ _ _ rfl hk9 Tryd.underlying51 rfl (by kernel_rfl)) rfl ?_
        exact EndedPost.step ⟨.slice none 0 0, rfl, Own.nil _ _, H2.out.1.fin2 HW4.out.2.2.2.2.1 HG.out.2.2.2.2.1 HG.out.2.1 (fun k _ h => hf9 k h) hg9.size (hb9 _ _ H2.out.1.2.2 HG.out.2.2.2.2.2.1)⟩ HR.out HC.out.1 HC.out.2.1
      · have HR := Lib.hid (show partV c ⟨true, op, l⟩ = ({ c with op := 0, load := [] }, some ⟨J, 0, LL, false⟩) by rw [HV.out, if_neg (fun h => hc (by rw [hch]; exact h.2))])
        have d5 : decide (0 ≤ ch) = false := decide_eq_false hc
        clear hc
        go_wp2_with fail
        refine (Chars_calls _ _ LL _ HW.out.2.2.2.2.2.1.row HLB.out).mono ?_
        rintro e w4 ⟨rfl, hd4⟩
        have HW4 := Lib.hid (HW.out.below hd4.below)
        rw [← hch]
        clear hd4 y0 y1 y2 y3 hch
        have y0 := HW4.out.2.2.2.1.cell 0 _ rfl
        have y1 := HW4.out.2.2.2.1.cell 1 _ rfl
        have y2 := HW4.out.2.2.2.1.cell 2 _ rfl
        have y3 := HW4.out.2.2.2.1.cell 3 _ rfl
        go_upto_region 14 with (fail)
        go_wp2_with (refine gate_ (.store 51 (.tmp 4) (.tmp 84)) rfl ?_; refine store_whole rfl rfl rfl rfl rfl HW4.out.2.2.1 rfl (by simp [Value.oneCell']) rfl (by kernel_rfl) ?_; intro w9 hk9 hb9 hf9 hg9)
        refine bodyPost_ret (results_ct rfl _ _ g0 _ _ _ _ rfl hk9 Tryd.underlying51 rfl (by kernel_rfl)) rfl ?_
        exact HW4.out.told HR.out HG.out.2.2.2.2.1 hf9 hg9.size (hb9 _ _ HW4.out.2.1 HG.out.2.2.2.2.2.1)
  · go_upto_region 5 with (fail)
    simp only [Bool.false_eq_true, if_false] at HK
    generalize W3.setCell ⟨g, 4, none⟩ (.int .i64 op) = W5 at HK ⊢
    clear q1 x4 f4 HJ
    have q2 := HK.out.2.2.1.cell 2 _ rfl
    have x5 := HK.out.1.1.cell 5 _ rfl
    go_quiet (fail)
    have HQ := Lib.hid (HK.out.below (pw_below_drewN (Below.refl _ _) nq))
    generalize W5.drewN nq = W6 at HQ ⊢
    clear q2 x5 HK
    have HD := Lib.hid (HQ.out.below (below_drew (Below.refl _ _)))
    have x5 := HD.out.1.1.cell 5 _ rfl
    have q2 := HD.out.2.2.1.cell 2 _ rfl
    have hlim : ({ c with op := J } : Cn).load.length + n ≤ 140737488355328 := by have := HFT.out; show c.load.length + n ≤ _; omega
    go_upto_region 7 with (fail)
    go_cut [49] (fun v wc => ∃ (A7 : Option Addr) (M c7 : Nat), v = .slice A7 M c7 ∧ Hid (PartBt w0 w wc g { c with op := J, load := c.load ++ l } vw (.slice A7 M c7) (.slice Al Lc cl) gf g0 true op A n cb))
    case first =>
      go_region_law (first | (refine app_row_step (s := .tmp 46) (x := .tmp 48) HD.out.1.2.2.1 HD.out.2.2.2.2.2.row HD.out.2.1 hlim (by rfl) rfl rfl rfl ?_; intro v7 w7 ho7 hb7 hg7 hat7; obtain ⟨A7, c7, rfl, _, _⟩ := ho7.reads; obtain ⟨M, hM⟩ : ∃ M, M = (({ c with op := J } : Cn).load ++ l).length := ⟨_, rfl⟩; rw [← hM] at ho7 hat7 ⊢; clear hM; have H7 := Lib.hid (show Own w0 w7 (.slice A7 M c7) (({ c with op := J } : Cn).load ++ l) ∧ Below w0.heap.size w0 w7 ∧ W6.drew.grownBy w7 (Value.ownBlock (.slice Al Lc cl)) ∧ ((Value.slice A7 M c7).ownBlock = Value.ownBlock (.slice Al Lc cl) ∨ ∃ b, (Value.slice A7 M c7).ownBlock = some b ∧ W6.drew.heap.size ≤ b) from ⟨ho7, hb7, hg7, hat7⟩); have f5 := (HD.out.1.1.grown hg7 HD.out.1.2.2.2.2.2.1).free 5; have y5 := (HD.out.1.1.grown hg7 HD.out.1.2.2.2.2.2.1).cell 5 _ rfl; clear ho7 hb7 hg7 hat7) | fail)
      all_goals
        go_wp2
        go_meet
        case rel => exact ⟨A7, M, c7, rfl, Lib.hid (HD.out.app H7.out.1 H7.out.2.1 H7.out.2.2.1 H7.out.2.2.2 HG.out.2.2.2.2.2.2.1 HG.out.2.2.2.2.2.2.2.1 (by rw [HC.out.2.2.2.1]; exact HFT.out) HC.out.2.2.2.2 HC.out.1.2.2.2.1)⟩
    case rest =>
    obtain ⟨A7, M, c7, rfl, HB7⟩ := hcut
    generalize wc = W8 at HB7 ⊢
    clear x5 q2 hlim HD HQ
    have q0 := HB7.out.2.2.1.cell 0 _ rfl
    have HB8 := Lib.hid (show PartBt w0 w W8 g ⟨c.mask, c.over, c.wait, J, LL⟩ vw (.slice A7 M c7) (.slice Al Lc cl) gf g0 true op A n cb by rw [HLL.out]; exact HB7.out)
    clear HB7
    have HX := Lib.hid (show ∀ W, Below W8.heap.size W8 W → W.cell? ⟨g, 4, none⟩ = some (.int .i64 J) ∧ W.cell? ⟨g, 5, none⟩ = some (.slice A7 M c7) from fun W hW => ⟨(HB8.out.1.below hW).1.cell 4 _ rfl, (HB8.out.1.below hW).1.cell 5 _ rfl⟩)
    go_upto_region 10 with (fail)
    clear q0
    have x4 := (HX.out _ (below_drew (Below.refl _ _))).1
    have x5 := (HX.out _ (below_drew (Below.refl _ _))).2
    go_region_held3 (fun w' => w'.cell? ⟨g, 4, none⟩ = some (.int .i64 J) ∧ w'.cell? ⟨g, 5, none⟩ = some (.slice A7 M c7)) (first | with_reducible exact HX.out _ (below_drew (Below.refl _ _)) | with_reducible exact HX.out _ (below_alloc (below_drew (Below.refl _ _)) _)) (fail)
    obtain ⟨g6, hg6⟩ : ∃ g6, g6 = W8.heap.size := ⟨_, rfl⟩
    obtain ⟨W9, hW9⟩ : ∃ W9, W9 = (W8.alloc (.cells #[.int .i64 J, .int .i64 0, .slice A7 M c7, .bool false] 51)).drew := ⟨_, rfl⟩
    have H9 := Lib.hid (show Below W8.heap.size W8 W9 ∧ Whole W9 g6 51 #[.int .i64 J, .int .i64 0, .slice A7 M c7, .bool false] ∧ W8.heap.size ≤ g6 from ⟨by rw [hW9]; exact below_drew (below_alloc (Below.refl _ _) _), by rw [hW9, hg6]; exact whole_new_drew W8 _ _, by omega⟩)
    rw [← hW9, ← hg6]
    clear hW9 hg6 x4 x5
    have x4 := (HX.out _ H9.out.1).1
    have x5 := (HX.out _ H9.out.1).2
    have f4 := (HB8.out.1.below H9.out.1).1.free 4
    have f5 := (HB8.out.1.below H9.out.1).1.free 5
    go_upto_region 12 with (fail)
    have HW := Lib.hid (HB8.out.whole H9.out.1 H9.out.2.1 H9.out.2.2)
    have HLB := Lib.hid (show Bytes LL from HB8.out.1.2.2.2.2.2.2.2.2.2.2.1)
    generalize (W9.setCell ⟨g, 4, none⟩ (.int .i64 0)).setCell ⟨g, 5, none⟩ (.slice none 0 0) = WA at HW ⊢
    clear x4 x5 f4 f5 HX H9
    have y0 := HW.out.2.2.2.1.cell 0 _ rfl
    have y1 := HW.out.2.2.2.1.cell 1 _ rfl
    have y2 := HW.out.2.2.2.1.cell 2 _ rfl
    have y3 := HW.out.2.2.2.1.cell 3 _ rfl
    obtain ⟨b1, hb1⟩ : ∃ b, (J == 1) = b := ⟨_, rfl⟩
    cases b1 with
    | false =>
      have HR := Lib.hid (show partV c ⟨true, op, l⟩ = ({ c with op := 0, load := [] }, some ⟨J, 0, LL, false⟩) by rw [HV.out, if_neg (fun h => by rw [h.1] at hb1; exact absurd hb1 (by decide))])
      go_upto_region 14 with (fail)
      go_wp2_with (refine gate_ (.store 51 (.tmp 4) (.tmp 84)) rfl ?_; refine store_whole rfl rfl rfl rfl rfl HW.out.2.2.1 rfl (by simp [Value.oneCell']) rfl (by kernel_rfl) ?_; intro w9 hk9 hb9 hf9 hg9)
      refine bodyPost_ret (results_ct rfl _ _ g0 _ _ _ _ rfl hk9 Tryd.underlying51 rfl (by kernel_rfl)) rfl ?_
      exact HW.out.told HR.out HG.out.2.2.2.2.1 hf9 hg9.size (hb9 _ _ HW.out.2.1 HG.out.2.2.2.2.2.1)
    | true =>
      have HJ1 := Lib.hid (show J = 1 from by simpa using hb1)
      obtain ⟨ch, hch⟩ : ∃ ch, ch = charsOf LL := ⟨_, rfl⟩
      by_cases hc : 0 ≤ ch
      · have HR := Lib.hid (show partV c ⟨true, op, l⟩ = (failC ⟨c.mask, c.over, c.wait, 0, []⟩, some (failE 1007)) by rw [HV.out, if_pos ⟨HJ1.out, by rw [← hch]; exact hc⟩])
        have d5 : decide (0 ≤ ch) = true := decide_eq_true hc
        clear hc
        go_wp2_with fail
        refine (Chars_calls _ _ LL _ HW.out.2.2.2.2.2.1.row HLB.out).mono ?_
        rintro e w4 ⟨rfl, hd4⟩
        have HW4 := Lib.hid (HW.out.below hd4.below)
        rw [← hch]
        clear hd4 y0 y1 y2 y3 hch
        go_wp2_with fail
        refine (WsFail_calls w0 _ g ⟨c.mask, c.over, c.wait, 0, []⟩ vw _ 1007 HW4.out.1 HW4.out.2.1).mono ?_
        rintro e w2 ⟨rfl, he2⟩
        have H2 := Lib.hid (show EndPost w0 w4 g ⟨c.mask, c.over, c.wait, 0, []⟩ vw (.slice none 0 0) w2 ∧ Whole w2 g0 51 ev0 from ⟨he2, HW4.out.2.2.1.far (he2.2.1.2.1 g0 HW4.out.2.2.1.lt HW4.out.2.2.2.2.2.2.1)⟩)
        clear he2
        go_wp2_with (refine gate_ (.store 51 (.tmp 4) (.tmp 82)) rfl ?_; refine store_whole rfl rfl rfl rfl rfl H2.out.2 rfl (by simp [Value.oneCell']) rfl (by kernel_rfl) ?_; intro w9 hk9 hb9 hf9 hg9)
        refine bodyPost_ret (results_ct rfl _ _ g0 _ _ _ _ rfl hk9 Tryd.underlying51 rfl (by kernel_rfl)) rfl ?_
        exact EndedPost.step ⟨.slice none 0 0, rfl, Own.nil _ _, H2.out.1.fin2 HW4.out.2.2.2.2.1 HG.out.2.2.2.2.1 HG.out.2.1 (fun k _ h => hf9 k h) hg9.size (hb9 _ _ H2.out.1.2.2 HG.out.2.2.2.2.2.1)⟩ HR.out HC.out.1 HC.out.2.1
      · have HR := Lib.hid (show partV c ⟨true, op, l⟩ = ({ c with op := 0, load := [] }, some ⟨J, 0, LL, false⟩) by rw [HV.out, if_neg (fun h => hc (by rw [hch]; exact h.2))])
        have d5 : decide (0 ≤ ch) = false := decide_eq_false hc
        clear hc
        go_wp2_with fail
        refine (Chars_calls _ _ LL _ HW.out.2.2.2.2.2.1.row HLB.out).mono ?_
        rintro e w4 ⟨rfl, hd4⟩
        have HW4 := Lib.hid (HW.out.below hd4.below)
        rw [← hch]
        clear hd4 y0 y1 y2 y3 hch
        have y0 := HW4.out.2.2.2.1.cell 0 _ rfl
        have y1 := HW4.out.2.2.2.1.cell 1 _ rfl
        have y2 := HW4.out.2.2.2.1.cell 2 _ rfl
        have y3 := HW4.out.2.2.2.1.cell 3 _ rfl
        go_upto_region 14 with (fail)
        go_wp2_with (refine gate_ (.store 51 (.tmp 4) (.tmp 84)) rfl ?_; refine store_whole rfl rfl rfl rfl rfl HW4.out.2.2.1 rfl (by simp [Value.oneCell']) rfl (by kernel_rfl) ?_; intro w9 hk9 hb9 hf9 hg9)
        refine bodyPost_ret (results_ct rfl _ _ g0 _ _ _ _ rfl hk9 Tryd.underlying51 rfl (by kernel_rfl)) rfl ?_
        exact HW4.out.told HR.out HG.out.2.2.2.2.1 hf9 hg9.size (hb9 _ _ HW4.out.2.1 HG.out.2.2.2.2.2.1)
/-- What a frame that is part of a message does. -/
theorem WsPart_calls {n : Nat} (w0 w : World) (g : Nat) (c : Cn) (vw vl : Value) (fin : Bool) (op : Int) (A : Option Addr) (cb : Nat) (l : List Int) (h : ConnAt w0 w g c vw vl) (hB : Below w0.heap.size w0 w) (hfl : Own w0 w (.slice A n cb) l) (hap : ∀ k, Foot g vw vl k → some k ≠ (Value.slice A n cb).ownBlock) (hby : Bytes l) (hn : n ≤ 16384) :
    Calls Tryd.prog 52 #[.pointer (some ⟨g, 0, none⟩), .agg #[.bool fin, .int .i64 op, .slice A n cb]] w (StepPost w0 w g vw vl (partV c ⟨fin, op, l⟩)) := by
  cases hbad : (decide (op = 0) != decide (c.op ≠ 0)) with
  | true => exact (WsPart_bad w0 w g c vw vl fin op A cb h hB hbad).mono fun e w' hp => EndedPost.step hp (by unfold partV; rw [if_pos hbad]) h hB
  | false =>
    by_cases hl : 16384 < c.load.length + n
    · exact WsPart_long w0 w g c vw vl fin op A cb l h hB hbad hfl hap hby hn hl
    · cases hf : fin with
      | false => exact WsPart_goes w0 w g c vw vl false op A cb l h hB hbad hfl hap hby hn (by omega) rfl
      | true => exact WsPart_whole w0 w g c vw vl true op A cb l h hB hbad hfl hap hby hn (by omega) rfl
end Go.Proofs.YtcfbfmgckaehdaaDoor
