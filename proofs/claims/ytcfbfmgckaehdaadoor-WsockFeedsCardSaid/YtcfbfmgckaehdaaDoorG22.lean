/- The texts WsNext in one. -/
import Derived.Test.YtcfbfmgckaehdaaDoorG21
namespace Go.Proofs.YtcfbfmgckaehdaaDoor
open Go.RowKit Go.Proofs.YtcfbfmgckaehdaaDoorW.PrintWords
def waits (g : Nat) (w : World) : Nat := match w.cell? ⟨g, 3, none⟩ with | some (.slice _ n _) => n | _ => 0
theorem ConnAt.waits {w0 w : World} {g : Nat} {c : Cn} {vw vl : Value} (h : ConnAt w0 w g c vw vl) : waits g w = c.wait.length := by
  obtain ⟨A, k, hv, _, _⟩ := h.2.1.reads
  have x3 := h.1.cell 3 _ rfl
  unfold Go.Proofs.YtcfbfmgckaehdaaDoor.waits
  rw [x3, hv]
  rfl
/-- Within a call of Next. -/
def NextAt (w0 w W : World) (g g2 : Nat) (cc : Cn) (vw vl vw1 vl1 : Value) : Prop :=
  ConnAt w0 W g cc vw1 vl1 ∧ Below w0.heap.size w0 W ∧ Whole W g2 51 ev0 ∧ Rest w W (Foot g vw vl) (Foot g vw1 vl1) ∧ ¬ Foot g vw1 vl1 g2 ∧ w.heap.size ≤ g2 ∧ w0.heap.size ≤ g2
theorem NextAt.below {w0 w W W1 : World} {g g2 : Nat} {cc : Cn} {vw vl vw1 vl1 : Value} (h : NextAt w0 w W g g2 cc vw vl vw1 vl1) (hb : Below W.heap.size W W1) : NextAt w0 w W1 g g2 cc vw vl vw1 vl1 :=
  ⟨h.1.below hb, below_step h.2.1 hb, h.2.2.1.below hb h.2.2.1.lt, h.2.2.2.1.trans (.of_below hb), h.2.2.2.2⟩
theorem told_fin {w0 w W w9 : World} {g g2 : Nat} {vw vl vw' vl' v : Value} {x : Evt} {ok : Bool} {r : Cn × Option Evt} {c' : Cn} {y : Option Evt} (hcy : r = (c', y)) (hc : ConnAt w0 W g c' vw' vl') (ho : Own w0 W v x.load) (hr : Rest w W (Foot g vw vl) (Foot g vw' vl')) (hap : ∀ k, Foot g vw' vl' k → some k ≠ v.ownBlock) (hfr : ∀ k, some k = v.ownBlock → Foot g vw vl k ∨ w.heap.size ≤ k) (hF : ¬ Foot g vw' vl' g2) (hv : some g2 ≠ v.ownBlock) (hg : w.heap.size ≤ g2) (hs : StepR y x ok) (hf : ∀ k, k ≠ g2 → w9.heap[k]? = W.heap[k]?) (hz : W.heap.size ≤ w9.heap.size) (hB : Below w0.heap.size w0 w9) :
    StepPost w0 w g vw vl r (.returned (.tuple #[.agg #[.int .i64 x.op, .int .i64 x.code, v, .bool x.bad], .bool ok])) w9 := by
  subst hcy
  exact ⟨vw', vl', v, x, ok, rfl, hs, ho.keep (fun k hk _ => hf k (fun e => hv (by rw [← e]; exact hk))), hc.step (fun k hk _ => hf k (fun e => hF (by rw [← e]; exact hk))), hr.own hg hf hz, hap, hB, hfr⟩
/-- Nothing is told, or a load that is none. -/
theorem told_nil {w0 w W w9 : World} {g g2 : Nat} {vw vl vw' vl' : Value} {x : Evt} {ok : Bool} {r : Cn × Option Evt} {c' : Cn} {y : Option Evt} (hcy : r = (c', y)) (hc : ConnAt w0 W g c' vw' vl') (hx : x.load = []) (hr : Rest w W (Foot g vw vl) (Foot g vw' vl')) (hF : ¬ Foot g vw' vl' g2) (hg : w.heap.size ≤ g2) (hs : StepR y x ok) (hf : ∀ k, k ≠ g2 → w9.heap[k]? = W.heap[k]?) (hz : W.heap.size ≤ w9.heap.size) (hB : Below w0.heap.size w0 w9) :
    StepPost w0 w g vw vl r (.returned (.tuple #[.agg #[.int .i64 x.op, .int .i64 x.code, .slice none 0 0, .bool x.bad], .bool ok])) w9 :=
  told_fin hcy hc (by rw [hx]; exact Own.nil _ _) hr (fun k _ => by simp [Value.ownBlock]) (fun k hk => by simp [Value.ownBlock] at hk) hF (by simp [Value.ownBlock]) hg hs hf hz hB
theorem foot_apart {w W : World} {g : Nat} {v : Value} {l : List Int} (hlt : g < w.heap.size) (ho : Own w W v l) : ∀ k, Foot g (.slice none 0 0) (.slice none 0 0) k → some k ≠ v.ownBlock := by
  rintro k (h1 | h1 | h1) e
  · have := ho.ge k e.symm; omega
  · simp [Value.ownBlock] at h1
  · simp [Value.ownBlock] at h1
theorem foot_only {g : Nat} {vw vl : Value} {k : Nat} (h : Foot g (.slice none 0 0) (.slice none 0 0) k) : Foot g vw vl k := by
  rcases h with h1 | h1 | h1
  · exact .inl h1
  · simp [Value.ownBlock] at h1
  · simp [Value.ownBlock] at h1
/-- Behind wsock.Read: the frame, its load. -/
def ReadAt (w0 w W : World) (g g2 : Nat) (cc : Cn) (vw vl vw1 vl1 : Value) (gf : Nat) (fin : Bool) (op : Int) (fl : List Int) (A : Option Addr) (n cb : Nat) : Prop :=
  NextAt w0 w W g g2 cc vw vl vw1 vl1 ∧ Whole W gf 26 #[.bool fin, .int .i64 op, .slice A n cb] ∧ Own w0 W (.slice A n cb) fl ∧ (∀ k, Foot g vw1 vl1 k → some k ≠ (Value.slice A n cb).ownBlock) ∧ ¬ Foot g vw1 vl1 gf ∧ some g2 ≠ (Value.slice A n cb).ownBlock ∧ some gf ≠ (Value.slice A n cb).ownBlock ∧ w.heap.size ≤ gf ∧ gf ≠ g2 ∧ (∀ k, some k = (Value.slice A n cb).ownBlock → w.heap.size ≤ k)
theorem ReadAt.mk' {w0 w wr W : World} {g g2 : Nat} {cc : Cn} {vw vl vw1 vl1 : Value} {gf : Nat} {fin : Bool} {op : Int} {fl : List Int} {A : Option Addr} {n cb : Nat} (hN : NextAt w0 w wr g g2 cc vw vl vw1 vl1) (hb : Below wr.heap.size wr W) (hk : Whole W gf 26 #[.bool fin, .int .i64 op, .slice A n cb]) (ho : Own wr W (.slice A n cb) fl) (hg : wr.heap.size ≤ gf) (hne : some gf ≠ (Value.slice A n cb).ownBlock) :
    ReadAt w0 w W g g2 cc vw vl vw1 vl1 gf fin op fl A n cb := by
  have hout := hN.1.outside
  have h2 := hN.2.2.1.lt
  have hw := hN.2.2.2.1.1
  exact ⟨hN.below hb, hk, ho.lower hN.2.1.size, fun k hF e => hout k (ho.ge k e.symm) hF, hout gf hg, fun e => by have := ho.ge g2 e.symm; omega, hne, by omega, by omega, fun k e => by have := ho.ge k e.symm; omega⟩
theorem rel_RA {w0 w wr w3 : World} {g g2 : Nat} {cc : Cn} {vw vl vw1 vl1 : Value} {fin : Bool} {op : Int} {fl : List Int} {A : Option Addr} {n cb : Nat} (hN : NextAt w0 w wr g g2 cc vw vl vw1 vl1) (hb : Below wr.drew.heap.size wr.drew w3) (ho : Own wr.drew w3 (.slice A n cb) fl) :
    ReadAt w0 w (w3.alloc (.cells #[.bool fin, .int .i64 op, .slice A n cb] 26)) g g2 cc vw vl vw1 vl1 w3.heap.size fin op fl A n cb := by
  have hb3 : Below wr.heap.size wr w3 := below_step (below_drew (Below.refl _ _)) hb
  have hba : Below w3.heap.size w3 (w3.alloc (.cells #[.bool fin, .int .i64 op, .slice A n cb] 26)) := below_alloc (Below.refl _ _) _
  exact ReadAt.mk' hN (below_step hb3 hba) (Whole.new w3 _ _) (ho.below hba) hb3.size (fun e => by have := ho.lt _ e.symm; omega)
theorem rel_RB {w0 w wr w3 : World} {g g2 : Nat} {cc : Cn} {vw vl vw1 vl1 : Value} {fin : Bool} {op : Int} {fl : List Int} {A : Option Addr} {n cb : Nat} {o : Obj} (hN : NextAt w0 w wr g g2 cc vw vl vw1 vl1) (hb : Below (wr.alloc o).drew.heap.size (wr.alloc o).drew w3) (ho : Own (wr.alloc o).drew w3 (.slice A n cb) fl) (hz : Whole w3 wr.heap.size 26 #[.bool false, .int .i64 0, .slice none 0 0]) :
    ReadAt w0 w (((w3.setCell ⟨wr.heap.size, 0, none⟩ (.bool fin)).setCell ⟨wr.heap.size, 1, none⟩ (.int .i64 op)).setCell ⟨wr.heap.size, 2, none⟩ (.slice A n cb)) g g2 cc vw vl vw1 vl1 wr.heap.size fin op fl A n cb := by
  have hb3 : Below wr.heap.size wr w3 := below_step (below_drew (below_alloc (Below.refl _ _) _)) hb
  have hs : (wr.alloc o).drew.heap.size = wr.heap.size + 1 := size_alloc wr o
  have hno : some wr.heap.size ≠ (Value.slice A n cb).ownBlock := fun e => by have h := ho.ge _ e.symm; omega
  exact ReadAt.mk' hN (((hb3.setCell (Nat.le_refl _) _).setCell (Nat.le_refl _) _).setCell (Nat.le_refl _) _) (((hz.set 0 _).set 1 _).set 2 _) ((((ho.lower (by omega)).far hno _).far hno _).far hno _) (Nat.le_refl _) hno
/-- What waits is cut. -/
theorem ReadAt.cut {w0 w W w8 : World} {g g2 : Nat} {cc : Cn} {vw vl vw1 vl1 v8 : Value} {gf : Nat} {fin : Bool} {op : Int} {fl : List Int} {A : Option Addr} {n cb K : Nat} (h : ReadAt w0 w W g g2 cc vw vl vw1 vl1 gf fin op fl A n cb) (hb : Below W.heap.size W w8) (ho : Own W w8 v8 (cc.wait.drop K)) (hov : cc.over = false) :
    ReadAt w0 w (w8.setCell ⟨g, 3, none⟩ v8) g g2 { cc with wait := cc.wait.drop K } vw vl v8 vl1 gf fin op fl A n cb := by
  have hC := h.1.1.below hb
  have hc := hC.2.2.2.2.2.2.2
  have hlt := h.1.1.1.lt
  have hlf := h.2.1.lt
  have hl2 := h.1.2.2.1.lt
  have hg8 : some g ≠ v8.ownBlock := fun e => by have := ho.ge g e.symm; omega
  have hgf : gf ≠ g := fun e => h.2.2.2.2.1 (.inl e)
  have hg2 : g2 ≠ g := fun e => h.1.2.2.2.2.1 (.inl e)
  have hng : some g ≠ (Value.slice A n cb).ownBlock := h.2.2.2.1 g (.inl rfl)
  have hnew : ∀ k, Foot g v8 vl1 k → Foot g vw1 vl1 k ∨ W.heap.size ≤ k := fun k hk => by
    rcases hk with h1 | h1 | h1
    · exact .inl (.inl h1)
    · exact .inr (ho.ge k h1.symm)
    · exact .inl (.inr (.inr h1))
  have hws := h.1.2.2.2.1.1
  refine ⟨⟨⟨hC.1.six3 _, (ho.lower h.1.2.1.size).far (p := ⟨g, 3, none⟩) hg8 _, hC.2.2.1.far (p := ⟨g, 3, none⟩) hC.2.2.2.2.2.1 _, hC.2.2.2.1, hg8, hC.2.2.2.2.2.1, fun e => ?_, by show (cc.wait.drop K).length ≤ 65536; rw [List.length_drop]; have := hc.1; omega, hc.2.1, hc.2.2.1.dp K, hc.2.2.2.1, fun h => by have h : cc.over = true := h; rw [hov] at h; cases h⟩, (below_step h.1.2.1 hb).setCell (p := ⟨g, 3, none⟩) hC.2.2.2.1 _, (h.1.2.2.1.below hb hl2).other (p := ⟨g, 3, none⟩) (Ne.symm hg2) _, (h.1.2.2.2.1.trans ⟨hb.size, fun k hk _ => hb.block k hk, hnew⟩).setg, fun hF => ?_, h.1.2.2.2.2.2⟩, (h.2.1.below hb hlf).other (p := ⟨g, 3, none⟩) (Ne.symm hgf) _, (h.2.2.1.below hb).far (p := ⟨g, 3, none⟩) hng _, fun k hF e => ?_, fun hF => ?_, h.2.2.2.2.2⟩
  · have e : v8.ownBlock = vl1.ownBlock := e
    cases h8 : v8.ownBlock with
    | none => rfl
    | some k =>
      have h1 := ho.ge k h8
      have h2 := h.1.1.2.2.1.lt k (by rw [← e]; exact h8)
      omega
  · rcases hnew _ hF with h1 | h1
    · exact h.1.2.2.2.2.1 h1
    · omega
  · rcases hnew _ hF with h1 | h1
    · exact h.2.2.2.1 k h1 e
    · have := h.2.2.1.lt k e.symm; omega
  · rcases hnew _ hF with h1 | h1
    · exact h.2.2.2.2.1 h1
    · omega
set_option maxRecDepth 20000 in
set_option maxHeartbeats 12800000 in
theorem WsNext_calls (w0 w : World) (g : Nat) (c : Cn) (vw vl : Value) (h : ConnAt w0 w g c vw vl) (hB : Below w0.heap.size w0 w) :
    Calls Tryd.prog 28 #[.pointer (some ⟨g, 0, none⟩)] w (StepPost w0 w g vw vl (nextW c)) := by
  obtain ⟨g2, hg2⟩ : ∃ g, g = w.heap.size := ⟨_, rfl⟩
  obtain ⟨W1, hW1⟩ : ∃ W, W = w.alloc (.cells #[.int .i64 0, .int .i64 0, .slice none 0 0, .bool false] 51) := ⟨_, rfl⟩
  have b1 : Below w.heap.size w W1 := by rw [hW1]; exact below_alloc (Below.refl _ _) _
  have k2 : Whole W1 g2 51 ev0 := by rw [hW1, hg2]; exact Whole.new w _ _
  have HS := Lib.hid (show g2 = w.heap.size ∧ W1 = w.alloc _ from ⟨hg2, hW1⟩)
  have H1 := Lib.hid (show NextAt w0 w W1 g g2 c vw vl vw vl from ⟨h.below b1, below_step hB b1, k2, .of_below b1, h.outside g2 (by omega), by omega, by have := hB.size; omega⟩)
  clear b1 k2 hg2 hW1 h hB
  go_enter Tryd.func28, Tryd.ntmps28
  go_wp2
  rw [← HS.out.1, ← HS.out.2]
  go_loopw [8] (fun _ wr => ∃ (cc : Cn) (vw1 vl1 : Value), Hid (NextAt w0 w wr g g2 cc vw vl vw1 vl1 ∧ nextW c = nextW cc)) (fun _ wr => waits g wr)
  case atStart => exact ⟨c, vw, vl, Lib.hid ⟨H1.out, rfl⟩⟩
  case round =>
    obtain ⟨cc, vw1, vl1, HN⟩ := hrel
    clear H1
    have x0 := HN.out.1.1.1.cell 0 _ rfl
    have x2 := HN.out.1.1.1.cell 2 _ rfl
    cases hov : cc.over with
    | true =>
      rw [hov] at x2
      have HR := Lib.hid (show nextW c = (cc, none) from HN.out.2.trans (nextW_over hov))
      clear hov
      go_wp2_with (refine gate_ (.store 51 (.tmp 2) (.tmp 84)) rfl ?_; refine store_whole rfl rfl rfl rfl rfl HN.out.1.2.2.1 rfl (by simp [Value.oneCell']) rfl (by kernel_rfl) ?_; intro w9 hk9 hb9 hf9 hg9)
      refine bodyPost_ret (results_ct rfl _ _ g2 _ _ _ _ rfl hk9 Tryd.underlying51 rfl (by kernel_rfl)) rfl ?_
      exact told_nil HR.out HN.out.1.1 (x := ⟨0, 0, [], false⟩) (ok := false) rfl HN.out.1.2.2.2.1 HN.out.1.2.2.2.2.1 HN.out.1.2.2.2.2.2.1 (.inr ⟨rfl, rfl, rfl⟩) hf9 hg9.size (hb9 _ _ HN.out.1.2.1 HN.out.1.2.2.2.2.2.2)
    | false =>
      rw [hov] at x2
      have HO := Lib.hid hov
      clear hov
      obtain ⟨⟨fin, op, fl⟩, k, why, hR⟩ : ∃ f k why, rdF cc.wait cc.mask = (f, k, why) := ⟨_, _, _, rfl⟩
      have HRD := Lib.hid hR
      obtain ⟨Wn, hWn⟩ : ∃ n, n = cc.wait.length := ⟨_, rfl⟩
      obtain ⟨Aw, cw, hvw, hcw, hrw⟩ := HN.out.1.1.2.1.reads
      rw [← hWn] at hvw hcw hrw
      subst hvw
      obtain ⟨nf, hnf⟩ : ∃ n, n = fl.length := ⟨_, rfl⟩
      have HW := Lib.hid (show Wn = cc.wait.length ∧ nf = fl.length ∧ Wn ≤ cw ∧ Wn ≤ 65536 ∧ Bytes cc.wait from ⟨hWn, hnf, hcw, by rw [hWn]; exact HN.out.1.1.2.2.2.2.2.2.2.1, HN.out.1.1.2.2.2.2.2.2.2.2.2.1⟩)
      have HX := Lib.hid (show ∀ W, Below wr.heap.size wr W → W.cell? ⟨g, 3, none⟩ = some (.slice Aw Wn cw) ∧ W.cell? ⟨g, 1, none⟩ = some (.bool cc.mask) from fun W hW => ⟨(HN.out.1.1.below hW).1.cell 3 _ rfl, (HN.out.1.1.below hW).1.cell 1 _ rfl⟩)
      have HRC := Lib.hid (show ∀ W, Below wr.heap.size wr W → Calls Tryd.prog 15 #[.slice Aw Wn cw, .bool cc.mask] W (fun e w3 => ∃ A3 c3, e = .returned (.tuple #[.agg #[.bool fin, .int .i64 op, .slice A3 nf c3], .int .i64 k, .int .i64 why]) ∧ Own W w3 (.slice A3 nf c3) fl ∧ Below W.heap.size W w3) from fun W hW => by
        refine (WsRead_calls Aw cw cc.wait cc.mask W (Kd.C_below hrw hW) hcw HW.out.2.2.2.2 (by have := HW.out; omega)).mono ?_
        rintro e w3 ⟨f, k', why', v, rfl, hf, ho, hb⟩
        rw [HRD.out] at hf
        injection hf with h1 h2
        injection h2 with h2 h3
        subst h1 h2 h3
        obtain ⟨A3, c3, rfl, _, _⟩ := Own.reads ho
        rw [show (⟨fin, op, fl⟩ : Frm).load.length = nf from HW.out.2.1.symm] at ho ⊢
        exact ⟨A3, c3, rfl, ho, hb⟩)
      clear hR hWn hnf hcw hrw
      have y3 := (HX.out _ (below_drew (Below.refl _ _))).1
      have y1 := (HX.out _ (below_drew (Below.refl _ _))).2
      go_upto_region 2 with (fail)
      go_cut [4, 5, 6] (fun v4 v5 v6 wc => ∃ (gf : Nat) (A3 : Option Addr) (c3 : Nat), v4 = .pointer (some ⟨gf, 0, none⟩) ∧ v5 = .int .i64 k ∧ v6 = .int .i64 why ∧ Hid (ReadAt w0 w wc g g2 cc vw vl (.slice Aw Wn cw) vl1 gf fin op fl A3 nf c3))
      case first =>
        go_region_held3 (fun w' => w'.cell? ⟨g, 3, none⟩ = some (.slice Aw Wn cw) ∧ w'.cell? ⟨g, 1, none⟩ = some (.bool cc.mask)) (first | with_reducible exact HX.out _ (below_drew (Below.refl _ _)) | with_reducible exact HX.out _ (below_drew (below_alloc (Below.refl _ _) _)) | with_reducible exact HX.out _ HA.out.1 | with_reducible exact HX.out _ HB.out.1 | with_reducible exact HX.out _ (below_alloc HA.out.1 _) | with_reducible exact HX.out _ (((HB.out.1.setCell (Nat.le_refl _) _).setCell (Nat.le_refl _) _).setCell (Nat.le_refl _) _))
          (first
          | (go_at_call 15; (with_reducible refine (HRC.out ((wr.alloc (.cells #[.bool false, .int .i64 0, .slice none 0 0] 26)).drew) (below_drew (below_alloc (Below.refl _ _) _))).mono ?_); rintro e w3 ⟨A3, c3, rfl, ho3, hb3⟩; have HB := Lib.hid (show Below wr.heap.size wr w3 ∧ Below ((wr.alloc (.cells #[.bool false, .int .i64 0, .slice none 0 0] 26)).drew).heap.size ((wr.alloc (.cells #[.bool false, .int .i64 0, .slice none 0 0] 26)).drew) w3 ∧ Own ((wr.alloc (.cells #[.bool false, .int .i64 0, .slice none 0 0] 26)).drew) w3 (.slice A3 nf c3) fl ∧ Whole w3 wr.heap.size 26 #[.bool false, .int .i64 0, .slice none 0 0] from ⟨below_step (below_drew (below_alloc (Below.refl _ _) _)) hb3, hb3, ho3, (whole_new_drew wr _ _).below hb3 (whole_new_drew wr _ _).lt⟩); have f0 := HB.out.2.2.2.free 0; have f1 := HB.out.2.2.2.free 1; have f2 := HB.out.2.2.2.free 2; have z0 := HB.out.2.2.2.cell 0 _ rfl; have z1 := HB.out.2.2.2.cell 1 _ rfl; have z2 := HB.out.2.2.2.cell 2 _ rfl; clear ho3 hb3)
          | (go_at_call 15; (with_reducible refine (HRC.out wr.drew (below_drew (Below.refl _ _))).mono ?_); rintro e w3 ⟨A3, c3, rfl, ho3, hb3⟩; have HA := Lib.hid (show Below wr.heap.size wr w3 ∧ Below wr.drew.heap.size wr.drew w3 ∧ Own wr.drew w3 (.slice A3 nf c3) fl from ⟨below_step (below_drew (Below.refl _ _)) hb3, hb3, ho3⟩); clear ho3 hb3)
          | (fail))
        all_goals
          go_wp2
          go_meet
          case rel =>
            first
              | exact ⟨w3.heap.size, A3, c3, rfl, rfl, rfl, Lib.hid (rel_RA HN.out.1 HA.out.2.1 HA.out.2.2)⟩
              | exact ⟨wr.heap.size, A3, c3, rfl, rfl, rfl, Lib.hid (rel_RB HN.out.1 HB.out.2.1 HB.out.2.2.1 HB.out.2.2.2)⟩
      case rest =>
        obtain ⟨gf, A3, c3, rfl, rfl, rfl, HQ⟩ := hcut
        generalize wc = wq at HQ ⊢
        clear x0 x2 y3 y1 HX HRC
        by_cases h1 : why = 1
        · subst h1
          have HR := Lib.hid (show nextW c = (cc, none) from HN.out.2.trans (nextW_more HO.out HRD.out))
          go_wp2_with (refine gate_ (.store 51 (.tmp 2) (.tmp 45)) rfl ?_; refine store_whole rfl rfl rfl rfl rfl HQ.out.1.2.2.1 rfl (by simp [Value.oneCell']) rfl (by kernel_rfl) ?_; intro w9 hk9 hb9 hf9 hg9)
          refine bodyPost_ret (results_ct rfl _ _ g2 _ _ _ _ rfl hk9 Tryd.underlying51 rfl (by kernel_rfl)) rfl ?_
          exact told_nil HR.out HQ.out.1.1 (x := ⟨0, 0, [], false⟩) (ok := false) rfl HQ.out.1.2.2.2.1 HQ.out.1.2.2.2.2.1 HQ.out.1.2.2.2.2.2.1 (.inr ⟨rfl, rfl, rfl⟩) hf9 hg9.size (hb9 _ _ HQ.out.1.2.1 HQ.out.1.2.2.2.2.2.2)
        · by_cases h0 : why = 0
          · subst h0
            clear h1
            obtain ⟨_, ⟨K, hK, hK2, hKl⟩, hfb, hfl⟩ := rdF_good HRD.out HW.out.2.2.2.2
            subst hK
            have HK := Lib.hid (show Bytes fl ∧ nf ≤ 16384 ∧ 2 ≤ K ∧ K ≤ Wn from ⟨hfb, by rw [HW.out.2.1]; exact hfl, hK2, by rw [HW.out.1]; exact hKl⟩)
            clear hfb hfl hK2 hKl
            have hQo : Own w0 wq (.slice Aw Wn cw) cc.wait := HQ.out.1.1.2.1
            obtain ⟨ad, rfl, _⟩ := Rd.cells hQo.row (by have := HK.out; omega)
            have HCL := Lib.hid (show ∀ B x, B = (if cw = K then some ad else some (ad.add K)) → Wn - K ≤ x → Calls Tryd.prog 14 #[.slice B (Wn - K) x] wq (fun e w8 => ∃ A8 n8 c8, e = .returned (.slice A8 n8 c8) ∧ Own wq w8 (.slice A8 n8 c8) (cc.wait.drop K) ∧ Below wq.heap.size wq w8) from fun B x hB hx => by
              have hl2 : (cc.wait.drop K).length = Wn - K := by rw [List.length_drop, ← HW.out.1]
              have h1 := hQo.row
              rw [show Wn = cc.wait.length from HW.out.1] at h1
              have hrow := Kd.C_drop (k := Kd.int .u8) (m := K) (c := cw) h1 (by have := HK.out; rw [← HW.out.1]; omega) (by have := HW.out; rw [← HW.out.1]; omega)
              rw [show K * (Kd.int .u8).sz = K from Nat.mul_one K, show Option.map (fun x : Addr => x.add K) (some ad) = some (ad.add K) from rfl, ← hB] at hrow
              have h := bytes_Clone.calls _ x (cc.wait.drop K) (cc.wait.drop K) wq hrow (by rw [hl2]; exact hx) (if_pos (by rw [hl2]; have := HW.out; omega))
              rw [hl2] at h
              refine h.mono ?_
              rintro e w8 ⟨v8, rfl, ho8, hb8⟩
              obtain ⟨A8, c8, rfl, _, _⟩ := Own.reads ho8
              exact ⟨A8, _, c8, rfl, ho8, hb8⟩)
            clear hQo
            have x3 := HQ.out.1.1.1.cell 3 _ rfl
            have m1 : (0 : Int) ≤ K := by omega
            have m2 : (K : Int) ≤ Wn := by have := HK.out; omega
            have m3 : (Wn : Int) ≤ cw := by have := HW.out; omega
            have m4 : (K : Int) ≤ cw := by omega
            have m5 : K ≤ Wn := by omega
            have m6 : Wn ≤ cw := by omega
            have m7 : K ≤ cw := by omega
            go_upto_region 8 with (fail)
            go_cut [55] (fun v wd => ∃ (A8 : Option Addr) (n8 c8 : Nat), v = .slice A8 n8 c8 ∧ Hid (ReadAt w0 w wd g g2 { cc with wait := cc.wait.drop K } vw vl (.slice A8 n8 c8) vl1 gf fin op fl A3 nf c3))
            case first =>
              by_cases hck : cw = K
              · go_wp2_with fail
                refine (HCL.out (some ad) _ (by rw [if_pos hck]) (by omega)).mono ?_
                rintro e w8 ⟨A8, n8, c8, rfl, ho8, hb8⟩
                have H8 := Lib.hid (show Own wq w8 (.slice A8 n8 c8) (cc.wait.drop K) ∧ Below wq.heap.size wq w8 from ⟨ho8, hb8⟩)
                have f3 := (HQ.out.1.1.below hb8).1.free 3
                have y3 := (HQ.out.1.1.below hb8).1.cell 3 _ rfl
                clear ho8 hb8 m1 m2 m3 m4 m5 m6 m7 x3 hck
                go_wp2
                go_meet
                case rel => exact ⟨A8, n8, c8, rfl, Lib.hid (HQ.out.cut H8.out.2 H8.out.1 HO.out)⟩
              · go_wp2_with fail
                refine (HCL.out (some (ad.add K)) _ (by rw [if_neg hck]) (by omega)).mono ?_
                rintro e w8 ⟨A8, n8, c8, rfl, ho8, hb8⟩
                have H8 := Lib.hid (show Own wq w8 (.slice A8 n8 c8) (cc.wait.drop K) ∧ Below wq.heap.size wq w8 from ⟨ho8, hb8⟩)
                have f3 := (HQ.out.1.1.below hb8).1.free 3
                have y3 := (HQ.out.1.1.below hb8).1.cell 3 _ rfl
                clear ho8 hb8 m1 m2 m3 m4 m5 m6 m7 x3 hck
                go_wp2
                go_meet
                case rel => exact ⟨A8, n8, c8, rfl, Lib.hid (HQ.out.cut H8.out.2 H8.out.1 HO.out)⟩
            case rest =>
              obtain ⟨A8, n8, c8, rfl, HP⟩ := hcut
              generalize wc = wd at HP ⊢
              clear m1 m2 m3 m4 m5 m6 m7 x3 HQ HCL
              have x0 := HP.out.2.1.cell 0 _ rfl
              have x1 := HP.out.2.1.cell 1 _ rfl
              have x2 := HP.out.2.1.cell 2 _ rfl
              obtain ⟨c8', hc8⟩ : ∃ x, x = { cc with wait := cc.wait.drop K } := ⟨_, rfl⟩
              have HPC : Hid (ReadAt w0 w wd g g2 c8' vw vl (.slice A8 n8 c8) vl1 gf fin op fl A3 nf c3) := by rw [hc8]; exact HP
              have HC8 := Lib.hid hc8
              clear hc8 HP
              by_cases h8 : op = 8
              · subst h8
                have HR := Lib.hid (show nextW c = (failC c8', some (closeE fl)) from HN.out.2.trans (by rw [HC8.out]; exact nextW_close HO.out HRD.out rfl))
                go_wp2_with fail
                refine (WsClose_calls w0 _ g c8' _ _ A3 c3 fl HPC.out.1.1 HPC.out.1.2.1 HPC.out.2.2.1 HPC.out.2.2.2.1 HK.out.1 HK.out.2.1).mono ?_
                rintro e w5 ⟨op5, code5, l5, bad5, v5, rfl, hcv, ho5, he5⟩
                obtain ⟨A5, c5, rfl, _, _⟩ := ho5.reads
                obtain ⟨L5, hL5⟩ : ∃ n, n = l5.length := ⟨_, rfl⟩
                rw [← hL5] at ho5 ⊢
                have H5 := Lib.hid (show closeE fl = ⟨op5, code5, l5, bad5⟩ ∧ Own wd w5 (.slice A5 L5 c5) l5 ∧ EndPost w0 wd g c8' (.slice A8 n8 c8) vl1 w5 ∧ Whole w5 g2 51 ev0 from ⟨by unfold closeE; rw [hcv], ho5, he5, HPC.out.1.2.2.1.far (he5.2.1.2.1 g2 HPC.out.1.2.2.1.lt HPC.out.1.2.2.2.2.1)⟩)
                clear hL5 ho5 he5 hcv x0 x1 x2
                go_wp2_with (refine gate_ (.store 51 (.tmp 2) (.tmp 66)) rfl ?_; refine store_whole rfl rfl rfl rfl rfl H5.out.2.2.2 rfl (by simp [Value.oneCell']) rfl (by kernel_rfl) ?_; intro w9 hk9 hb9 hf9 hg9)
                refine bodyPost_ret (results_ct rfl _ _ g2 _ _ _ _ rfl hk9 Tryd.underlying51 rfl (by kernel_rfl)) rfl ?_
                exact told_fin (x := ⟨op5, code5, l5, bad5⟩) (ok := true) HR.out H5.out.2.2.1.1 (H5.out.2.1.lower HPC.out.1.2.1.size) (HPC.out.1.2.2.2.1.trans H5.out.2.2.1.2.1) (foot_apart HPC.out.1.1.1.lt H5.out.2.1) (fun k hk => .inr (by have := H5.out.2.1.ge k hk.symm; have := HPC.out.1.2.2.2.1.1; omega)) (fun h => HPC.out.1.2.2.2.2.1 (foot_only h)) (fun e => by have := H5.out.2.1.ge g2 e.symm; have := HPC.out.1.2.2.1.lt; omega) HPC.out.1.2.2.2.2.2.1 (.inl ⟨rfl, by rw [H5.out.1]⟩) hf9 hg9.size (hb9 _ _ H5.out.2.2.1.2.2 HPC.out.1.2.2.2.2.2.2)
              · by_cases h9 : op = 9 ∨ op = 10
                · have HR := Lib.hid (show nextW c = (c8', some ⟨op, 0, fl, false⟩) from HN.out.2.trans (by rw [HC8.out]; exact nextW_ping HO.out HRD.out h9))
                  clear h8
                  rcases h9 with rfl | rfl
                  all_goals
                    go_wp2_with (refine gate_ (.store 51 (.tmp 2) (.tmp 75)) rfl ?_; refine store_whole rfl rfl rfl rfl rfl HPC.out.1.2.2.1 rfl (by simp [Value.oneCell']) rfl (by kernel_rfl) ?_; intro w9 hk9 hb9 hf9 hg9)
                    refine bodyPost_ret (results_ct rfl _ _ g2 _ _ _ _ rfl hk9 Tryd.underlying51 rfl (by kernel_rfl)) rfl ?_
                    exact told_fin (x := ⟨_, 0, fl, false⟩) (ok := true) HR.out HPC.out.1.1 HPC.out.2.2.1 HPC.out.1.2.2.2.1 HPC.out.2.2.2.1 (fun k hk => .inr (HPC.out.2.2.2.2.2.2.2.2.2 k hk)) HPC.out.1.2.2.2.2.1 HPC.out.2.2.2.2.2.1 HPC.out.1.2.2.2.2.2.1 (.inl ⟨rfl, rfl⟩) hf9 hg9.size (hb9 _ _ HPC.out.1.2.1 HPC.out.1.2.2.2.2.2.2)
                · have o8 : (op == 8) = false := by rw [beq_eq_false_iff_ne]; exact h8
                  have o9 : (op == 9) = false := by rw [beq_eq_false_iff_ne]; exact fun e => h9 (.inl e)
                  have o10 : (op == 10) = false := by rw [beq_eq_false_iff_ne]; exact fun e => h9 (.inr e)
                  have H89 := Lib.hid (And.intro h8 h9)
                  clear h8 h9
                  go_wp2_with fail
                  refine (WsPart_calls w0 _ g c8' _ _ fin op A3 c3 fl HPC.out.1.1 HPC.out.1.2.1 HPC.out.2.2.1 HPC.out.2.2.2.1 HK.out.1 HK.out.2.1).mono ?_
                  rintro e w5 ⟨vw5, vl5, v5, x5, ok, rfl, hs, ho, hc, hr, hap, hb, hfr⟩
                  obtain ⟨A5, k5, rfl, _, _⟩ := ho.reads
                  obtain ⟨xo, xc, xl, xb⟩ := x5
                  obtain ⟨⟨c5, y5⟩, hpv⟩ : ∃ r, r = partV c8' ⟨fin, op, fl⟩ := ⟨_, rfl⟩
                  rw [← hpv] at hs hc
                  obtain ⟨L5, hL5⟩ : ∃ n, n = xl.length := ⟨_, rfl⟩
                  dsimp only at hs hc ho hap hfr ⊢
                  rw [← hL5] at ho hap hfr ⊢
                  have hg2l := HPC.out.1.2.2.1.lt
                  have H5 := Lib.hid (show ConnAt w0 w5 g c5 vw5 vl5 ∧ Own w0 w5 (.slice A5 L5 k5) xl ∧ Rest w w5 (Foot g vw vl) (Foot g vw5 vl5) ∧ (∀ k, Foot g vw5 vl5 k → some k ≠ (Value.slice A5 L5 k5).ownBlock) ∧ Below w0.heap.size w0 w5 ∧ (∀ k, some k = (Value.slice A5 L5 k5).ownBlock → Foot g vw vl k ∨ w.heap.size ≤ k) ∧ ¬ Foot g vw5 vl5 g2 ∧ some g2 ≠ (Value.slice A5 L5 k5).ownBlock ∧ Whole w5 g2 51 ev0 ∧ partV c8' ⟨fin, op, fl⟩ = (c5, y5) ∧ StepR y5 ⟨xo, xc, xl, xb⟩ ok from
                    ⟨hc, ho, HPC.out.1.2.2.2.1.trans hr, hap, hb, fun k hk => by
                      rcases hfr k hk with h1 | h1
                      · exact HPC.out.1.2.2.2.1.2.2 k h1
                      · have := HPC.out.1.2.2.2.1.1; exact .inr (by omega), fun hF => by
                      rcases hr.2.2 g2 hF with h1 | h1
                      · exact HPC.out.1.2.2.2.2.1 h1
                      · omega, fun e => by
                      rcases hfr g2 e with h1 | h1
                      · exact HPC.out.1.2.2.2.2.1 h1
                      · omega, HPC.out.1.2.2.1.far (hr.2.1 g2 hg2l HPC.out.1.2.2.2.2.1), hpv.symm, hs⟩)
                  clear hs ho hc hr hap hb hfr hpv hL5 hg2l x0 x1 x2
                  obtain ⟨g7, hg7⟩ : ∃ x, x = w5.heap.size := ⟨_, rfl⟩
                  obtain ⟨W6, hW6⟩ : ∃ W, W = w5.alloc (.cells #[.int .i64 xo, .int .i64 xc, .slice A5 L5 k5, .bool xb] 51) := ⟨_, rfl⟩
                  have hb6 : Below w5.heap.size w5 W6 := by rw [hW6]; exact below_alloc (Below.refl _ _) _
                  have HS6 := Lib.hid (show g7 = w5.heap.size ∧ W6 = w5.alloc _ from ⟨hg7, hW6⟩)
                  have H6 := Lib.hid (show Below w5.heap.size w5 W6 ∧ Whole W6 g7 51 #[.int .i64 xo, .int .i64 xc, .slice A5 L5 k5, .bool xb] ∧ Whole W6 g2 51 ev0 from ⟨hb6, by rw [hW6, hg7]; exact Whole.new w5 _ _, H5.out.2.2.2.2.2.2.2.2.1.below hb6 H5.out.2.2.2.2.2.2.2.2.1.lt⟩)
                  clear hg7 hW6 hb6
                  go_upto_region 16 with (fail)
                  rw [← HS6.out.1, ← HS6.out.2]
                  cases ok with
                  | true =>
                    have HR := Lib.hid (show nextW c = (c5, some ⟨xo, xc, xl, xb⟩) from by
                      rcases H5.out.2.2.2.2.2.2.2.2.2.2 with ⟨_, h1⟩ | ⟨h1, _⟩
                      · exact HN.out.2.trans (nextW_part HO.out HRD.out H89.out.1 H89.out.2 (by rw [← HC8.out, H5.out.2.2.2.2.2.2.2.2.2.1, h1]))
                      · cases h1)
                    have y0 := H6.out.2.1.cell 0 _ rfl
                    have y1 := H6.out.2.1.cell 1 _ rfl
                    have y2 := H6.out.2.1.cell 2 _ rfl
                    have y3 := H6.out.2.1.cell 3 _ rfl
                    go_upto_region 17 with (fail)
                    go_wp2_with (refine gate_ (.store 51 (.tmp 2) (.tmp 83)) rfl ?_; refine store_whole rfl rfl rfl rfl rfl H6.out.2.2 rfl (by simp [Value.oneCell']) rfl (by kernel_rfl) ?_; intro w9 hk9 hb9 hf9 hg9)
                    refine bodyPost_ret (results_ct rfl _ _ g2 _ _ _ _ rfl hk9 Tryd.underlying51 rfl (by kernel_rfl)) rfl ?_
                    exact told_fin (x := ⟨xo, xc, xl, xb⟩) (ok := true) HR.out (H5.out.1.below H6.out.1) (H5.out.2.1.below H6.out.1) (H5.out.2.2.1.trans (.of_below H6.out.1)) H5.out.2.2.2.1 H5.out.2.2.2.2.2.1 H5.out.2.2.2.2.2.2.1 H5.out.2.2.2.2.2.2.2.1 HPC.out.1.2.2.2.2.2.1 (.inl ⟨rfl, rfl⟩) hf9 hg9.size (hb9 _ _ (below_step H5.out.2.2.2.2.1 H6.out.1) HPC.out.1.2.2.2.2.2.2)
                  | false =>
                    have HR := Lib.hid (show nextW cc = nextW c5 from by
                      rcases H5.out.2.2.2.2.2.2.2.2.2.2 with ⟨h1, _⟩ | ⟨_, h1, _⟩
                      · cases h1
                      · exact nextW_step HO.out HRD.out HW.out.2.2.2.2 H89.out.1 H89.out.2 (by rw [← HC8.out, H5.out.2.2.2.2.2.2.2.2.2.1, h1]))
                    have HWT := Lib.hid (show c5.wait.length < waits g wr from by
                      rcases H5.out.2.2.2.2.2.2.2.2.2.2 with ⟨h1, _⟩ | ⟨_, h1, _⟩
                      · cases h1
                      · have h2 := (partV_wait (H5.out.2.2.2.2.2.2.2.2.2.1.trans (by rw [h1]))).1
                        rw [h2, HC8.out, HN.out.1.1.waits, ← HW.out.1]
                        show (cc.wait.drop K).length < Wn
                        rw [List.length_drop, ← HW.out.1]
                        have := HK.out
                        omega)
                    go_wp2
                    go_roundw
                    case rel => exact ⟨c5, vw5, vl5, Lib.hid ⟨⟨H5.out.1.below H6.out.1, below_step H5.out.2.2.2.2.1 H6.out.1, H6.out.2.2, H5.out.2.2.1.trans (.of_below H6.out.1), H5.out.2.2.2.2.2.2.1, HPC.out.1.2.2.2.2.2⟩, HN.out.2.trans HR.out⟩⟩
                    case measure => rw [(H5.out.1.below H6.out.1).waits]; exact HWT.out
          · have e1 : (why == 1) = false := by rw [beq_eq_false_iff_ne]; exact h1
            have e0 : (why == 0) = false := by rw [beq_eq_false_iff_ne]; exact h0
            have HR := Lib.hid (show nextW c = (failC cc, some (failE why)) from HN.out.2.trans (nextW_why HO.out HRD.out h1 h0))
            clear h1 h0
            go_wp2_with fail
            refine (WsFail_calls w0 _ g cc _ _ why HQ.out.1.1 HQ.out.1.2.1).mono ?_
            rintro e w5 ⟨rfl, he5⟩
            have H5 := Lib.hid (show EndPost w0 wq g cc (.slice Aw Wn cw) vl1 w5 ∧ Whole w5 g2 51 ev0 from ⟨he5, HQ.out.1.2.2.1.far (he5.2.1.2.1 g2 HQ.out.1.2.2.1.lt HQ.out.1.2.2.2.2.1)⟩)
            clear he5
            go_wp2_with (refine gate_ (.store 51 (.tmp 2) (.tmp 41)) rfl ?_; refine store_whole rfl rfl rfl rfl rfl H5.out.2 rfl (by simp [Value.oneCell']) rfl (by kernel_rfl) ?_; intro w9 hk9 hb9 hf9 hg9)
            refine bodyPost_ret (results_ct rfl _ _ g2 _ _ _ _ rfl hk9 Tryd.underlying51 rfl (by kernel_rfl)) rfl ?_
            exact told_nil HR.out H5.out.1.1 (x := failE why) (ok := true) rfl (HQ.out.1.2.2.2.1.trans H5.out.1.2.1) (fun h => HQ.out.1.2.2.2.2.1 (foot_only h)) HQ.out.1.2.2.2.2.2.1 (.inl ⟨rfl, rfl⟩) hf9 hg9.size (hb9 _ _ H5.out.1.2.2 HQ.out.1.2.2.2.2.2.2)
end Go.Proofs.YtcfbfmgckaehdaaDoor
