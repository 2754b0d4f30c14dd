/- The texts WsNextR in one. -/
import Derived.Test.YtcfbfmgckaehdaaDoorG24
import Derived.Test.YtcfbfmgckaehdaaDoorG25
namespace Go.Proofs.YtcfbfmgckaehdaaDoor
open Go.RowKit Go.Proofs.YtcfbfmgckaehdaaDoorW.PrintWords
/-- Within a call of Next. -/
def RNext (w0 w W : World) (H : Nat → Prop) (gr g2 : Nat) (c : Cn) (F : List Frm) : Prop :=
  RefAt w0 W (fun k => H k ∨ k = g2) gr c F ∧ Below w0.heap.size w0 W ∧ Whole W g2 51 ev0 ∧ Keep1 w W gr
theorem RNext.below {w0 w W W1 : World} {H : Nat → Prop} {gr g2 : Nat} {c : Cn} {F : List Frm} (h : RNext w0 w W H gr g2 c F) (hb : Below W.heap.size W W1) : RNext w0 w W1 H gr g2 c F :=
  ⟨h.1.below hb, below_step h.2.1 hb, h.2.2.1.below hb h.2.2.1.lt, h.2.2.2.trans (.of_below hb)⟩
theorem rtold {M : Nat} {w0 w W w9 : World} {H : Nat → Prop} {gr g2 : Nat} {c' : Cn} {F : List Frm} {A : Option Addr} {n cb : Nat} {x : Evt} {ok : Bool} {r : Cn × Option Evt} {y : Option Evt} (hcy : r = (c', y)) (hA : RefAt w0 W (fun k => H k ∨ k = g2) gr c' F) (hF : RelF M c' F) (hr : Rd W A n x.load) (hb : ∀ ad, A = some ad → 0 < n → w.heap.size ≤ ad.block ∧ ad.block ≠ g2) (hk : Keep1 w W gr) (hg : w.heap.size ≤ g2) (hgg : g2 ≠ gr) (hH : H gr) (hs : StepR y x ok) (hf : ∀ k, k ≠ g2 → w9.heap[k]? = W.heap[k]?) (hz : W.heap.size ≤ w9.heap.size) (hB : Below w0.heap.size w0 w9) :
    RefStep M w0 w H gr r (.returned (.tuple #[.agg #[.int .i64 x.op, .int .i64 x.code, .slice A n cb, .bool x.bad], .bool ok])) w9 := by
  subst hcy
  exact ⟨A, n, cb, x, ok, F, rfl, hs, hr.same (fun ad he h0 => hf _ (hb ad he h0).2), fun ad he h0 => (hb ad he h0).1, hA.unset hf hz hgg hH, hF, ⟨Nat.le_trans hk.1 hz, fun k hk1 hn => (hf k (by omega)).trans (hk.2 k hk1 hn)⟩, hB⟩
/-- Behind blotterref09.Read. -/
def RdAt (W1 W : World) (gf : Nat) (fin : Bool) (op : Int) (fl : List Int) (A : Option Addr) (n cb : Nat) : Prop :=
  Below W1.heap.size W1 W ∧ Whole W gf 26 #[.bool fin, .int .i64 op, .slice A n cb] ∧ Own W1 W (.slice A n cb) fl ∧ W1.heap.size ≤ gf
theorem rdat_A {wr w3 : World} {fin : Bool} {op : Int} {fl : List Int} {A : Option Addr} {n cb : Nat} (hb : Below wr.drew.heap.size wr.drew w3) (ho : Own wr.drew w3 (.slice A n cb) fl) :
    RdAt wr (w3.alloc (.cells #[.bool fin, .int .i64 op, .slice A n cb] 26)) w3.heap.size fin op fl A n cb := by
  have hb3 : Below wr.heap.size wr w3 := below_step (below_drew (Below.refl _ _)) hb
  have hba : Below w3.heap.size w3 (w3.alloc (.cells #[.bool fin, .int .i64 op, .slice A n cb] 26)) := below_alloc (Below.refl _ _) _
  exact ⟨below_step hb3 hba, Whole.new w3 _ _, ho.below hba, hb3.size⟩
theorem rdat_B {wr w3 : World} {fin : Bool} {op : Int} {fl : List Int} {A : Option Addr} {n cb : Nat} {o : Obj} (hb : Below (wr.alloc o).drew.heap.size (wr.alloc o).drew w3) (ho : Own (wr.alloc o).drew w3 (.slice A n cb) fl) (hz : Whole w3 wr.heap.size 26 #[.bool false, .int .i64 0, .slice none 0 0]) :
    RdAt wr (((w3.setCell ⟨wr.heap.size, 0, none⟩ (.bool fin)).setCell ⟨wr.heap.size, 1, none⟩ (.int .i64 op)).setCell ⟨wr.heap.size, 2, none⟩ (.slice A n cb)) wr.heap.size fin op fl A n cb := by
  have hb3 : Below wr.heap.size wr w3 := below_step (below_drew (below_alloc (Below.refl _ _) _)) hb
  have hs : (wr.alloc o).drew.heap.size = wr.heap.size + 1 := size_alloc wr o
  have hno : some wr.heap.size ≠ (Value.slice A n cb).ownBlock := fun e => by have h := ho.ge _ e.symm; omega
  exact ⟨((hb3.setCell (Nat.le_refl _) _).setCell (Nat.le_refl _) _).setCell (Nat.le_refl _) _, ((hz.set 0 _).set 1 _).set 2 _, (((ho.lower (by omega)).far hno _).far hno _).far hno _, Nat.le_refl _⟩
/-- What waits is cut. -/
theorem RefAt.cutw {w0 W : World} {H : Nat → Prop} {gr : Nat} {c : Cn} {F : List Frm} {ad : Addr} {n cb K : Nat} {vp : Value} (hk : Whole W gr 68 #[.bool c.mask, .bool c.over, .slice (some ad) n cb, vp]) (hr : Rd W (some ad) n c.wait) (hc : n ≤ cb) (ha : 0 < n → ¬ H ad.block ∧ ad.block < W.heap.size) (hp : PartsAt w0 W H vp F) (hg : H gr) (hb : w0.heap.size ≤ gr) (hK : K ≤ n) (h0 : 0 < n) :
    RefAt w0 (W.setCell ⟨gr, 2, none⟩ (.slice (if cb = K then some ad else some (ad.add K)) (n - K) (cb - K))) H gr { c with wait := c.wait.drop K } F := by
  have hl := Kd.C_len hr
  have h1 := hr
  rw [← hl] at h1
  have hrow := Kd.C_drop (k := Kd.int .u8) (m := K) (c := cb) h1 (by omega) (by omega)
  rw [show K * (Kd.int .u8).sz = K from Nat.mul_one K, show Option.map (fun x : Addr => x.add K) (some ad) = some (ad.add K) from rfl, List.length_drop, hl] at hrow
  have hne : ad.block ≠ gr := fun e => (ha h0).1 (e ▸ hg)
  have hblk : ∀ az, (if cb = K then some ad else some (ad.add K)) = some az → az.block = ad.block := fun az he => by
    by_cases hck : cb = K
    · rw [if_pos hck] at he
      rw [Option.some.inj he]
    · rw [if_neg hck] at he
      rw [← Option.some.inj he]
      unfold Addr.add
      split <;> rfl
  refine ⟨_, _, _, vp, hk.set 2 _, Rd.same hrow (fun az he _ => heap_far (fun e => hne ((hblk az he).symm.trans e))), by omega, fun az he _ => ?_, ?_, hg, hb⟩
  · rw [hblk az he, World.size_setCell]
    exact ha h0
  · exact hp.keep ⟨by rw [World.size_setCell]; exact Nat.le_refl _, fun k _ hn => heap_far hn⟩ hg
theorem RelF.wait {M : Nat} {c : Cn} {F : List Frm} (h : RelF M c F) (q : List Int) (hq : q.length ≤ c.wait.length) : RelF M { c with wait := q } F := fun ho => ⟨Nat.le_trans (Nat.add_le_add_left hq _) (h ho).1, (h ho).2⟩
/-- Behind the cut. -/
def RMid (w0 w wd : World) (H : Nat → Prop) (gr g2 : Nat) (c : Cn) (F : List Frm) (W1 : World) (gf : Nat) (fin : Bool) (op : Int) (fl : List Int) (A : Option Addr) (n cb : Nat) : Prop :=
  RNext w0 w wd H gr g2 c F ∧ Whole wd gf 26 #[.bool fin, .int .i64 op, .slice A n cb] ∧ Own W1 wd (.slice A n cb) fl ∧ W1.heap.size ≤ gf ∧ W1.heap.size ≤ wd.heap.size
theorem RMid.below {w0 w wd W2 : World} {H : Nat → Prop} {gr g2 : Nat} {c : Cn} {F : List Frm} {W1 : World} {gf : Nat} {fin : Bool} {op : Int} {fl : List Int} {A : Option Addr} {n cb : Nat} (h : RMid w0 w wd H gr g2 c F W1 gf fin op fl A n cb) (hb : Below wd.heap.size wd W2) : RMid w0 w W2 H gr g2 c F W1 gf fin op fl A n cb :=
  ⟨h.1.below hb, h.2.1.below hb h.2.1.lt, h.2.2.1.below hb, h.2.2.2.1, Nat.le_trans h.2.2.2.2 hb.size⟩
theorem RMid.cut {w0 w wq W1 : World} {H : Nat → Prop} {gr g2 : Nat} {c : Cn} {F : List Frm} {gf : Nat} {fin : Bool} {op : Int} {fl : List Int} {A : Option Addr} {n cb K nw cw : Nat} {ad : Addr} {vp : Value} (hN : RNext w0 w wq H gr g2 c F) (hQ : RdAt W1 wq gf fin op fl A n cb)
    (hk : Whole W1 gr 68 #[.bool c.mask, .bool c.over, .slice (some ad) nw cw, vp]) (hr : Rd W1 (some ad) nw c.wait) (hc : nw ≤ cw) (ha : 0 < nw → ¬ (H ad.block ∨ ad.block = g2) ∧ ad.block < W1.heap.size) (hp : PartsAt w0 W1 (fun k => H k ∨ k = g2) vp F) (hg : H gr) (hb : w0.heap.size ≤ gr) (hK : K ≤ nw) (h0 : 0 < nw) (hgr : gr < W1.heap.size) (hgg : g2 ≠ gr) :
    RMid w0 w (wq.setCell ⟨gr, 2, none⟩ (.slice (if cw = K then some ad else some (ad.add K)) (nw - K) (cw - K))) H gr g2 { c with wait := c.wait.drop K } F W1 gf fin op fl A n cb := by
  have h1 := RefAt.cutw (K := K) (hk.below hQ.1 hk.lt) (Kd.C_below hr hQ.1) hc (fun h => ⟨(ha h).1, Nat.lt_of_lt_of_le (ha h).2 hQ.1.size⟩) (hp.keep (gr := gr) ⟨hQ.1.size, fun k hk _ => hQ.1.block k hk⟩ (.inl hg)) (.inl hg) hb hK h0
  have hfg : gf ≠ gr := by have := hQ.2.2.2; omega
  refine ⟨⟨h1, hN.2.1.setCell (p := ⟨gr, 2, none⟩) hb _, hN.2.2.1.other (p := ⟨gr, 2, none⟩) (Ne.symm hgg) _, ⟨by rw [World.size_setCell]; exact hN.2.2.2.1, fun k hk hn => by rw [heap_far hn]; exact hN.2.2.2.2 k hk hn⟩⟩, hQ.2.1.other (p := ⟨gr, 2, none⟩) (Ne.symm hfg) _, hQ.2.2.1.far (p := ⟨gr, 2, none⟩) (fun e => by have := hQ.2.2.1.ge gr e.symm; omega) _, hQ.2.2.2, by rw [World.size_setCell]; exact hQ.1.size⟩
abbrev OwnH (w0 w : World) (v : Value) (hs : List Hd) : Prop := Kd.R hdK 26 w w0.heap.size (fun _ => True) v hs
theorem lit_nilH {w0 W : World} (hB : Below w0.heap.size w0 W) : OwnH w0 (W.alloc (.cells #[] 26)) (.slice (some ⟨W.heap.size, 0, none⟩) 0 0) [] := by
  refine ⟨fun _ _ => trivial, [], ?_, ⟨rfl, fun i p h => by simp at h⟩⟩
  show (W.alloc (.cells #[] 26)).ownsRow w0.heap.size 26 3 (.slice (some ⟨W.heap.size, 0, none⟩) 0 0) 0 []
  have h2 := World.ownsRow_lit (base := w0.heap.size) (e := 26) (size := 3) W #[] 0 hB.size (by simp [maxLen]) (by simp)
  simpa using h2
theorem info_fr : (Tryd.prog.info? 26).map (fun i => (i.zero, i.size, i.bytes)) = some (some (.agg #[.bool false, .int .i64 0, .slice none 0 0]), 3, 40) := by kernel_rfl
theorem C_box {W : World} {g : Nat} {fin : Bool} {op : Int} {A : Option Addr} {n cb : Nat} (h : Whole W g 26 #[.bool fin, .int .i64 op, .slice A n cb]) : Kd.C hdK W (some ⟨g, 0, none⟩) 1 [(fin, op, (A, n, cb))] := by
  refine ⟨rfl, by decide, fun _ => ⟨⟨g, 0, none⟩, rfl, fun j p hj => ?_⟩⟩
  cases j with
  | succ j => simp at hj
  | zero =>
    simp at hj
    subst hj
    refine ⟨[.bool fin, .int .i64 op, .slice A n cb], rfl, ⟨[.bool fin], [.int .i64 op, .slice A n cb], rfl, rfl, [.int .i64 op], [.slice A n cb], rfl, rfl, rfl⟩, fun i u hu => ?_⟩
    rcases i with _ | _ | _ | i
    · simp at hu; subst hu; exact h.cell 0 _ rfl
    · simp at hu; subst hu; exact h.cell 1 _ rfl
    · simp at hu; subst hu; exact h.cell 2 _ rfl
    · simp at hu
section
variable {ops : Array Oper} {o : Oper} {a : Act} {Kc : Act → World → Prop} {Q : Exit → Act → World → Prop} {w0 W : World} {v : Value} {hs ys : List Hd} {A : Option Addr} {m c : Nat} {s x : Operand}
theorem apph_step (hO : OwnH w0 W v hs) (hR : Kd.C hdK W A m ys) (hB : Below w0.heap.size w0 W) (hL : hs.length + m ≤ 2000000000)
    (hw : Region.wanted o (yielded ops a.tmps) = true) (hop : o.op = .call { callee := .builtin .append, args := #[s, x], argTypes := #[66, 66] }) (hv : a.eval s = v) (hx : a.eval x = .slice A m c)
    (K : ∀ v1 w1, OwnH w0 w1 v1 (hs ++ ys) → Below w0.heap.size w0 w1 → W.grownBy w1 v.ownBlock → (v1.ownBlock = v.ownBlock ∨ ∃ b, v1.ownBlock = some b ∧ W.heap.size ≤ b) → Kc (a.put o.dst v1) w1) :
    if Region.wanted o (yielded ops a.tmps) = true then Oper.wp Tryd.prog o a W Kc Q else Kc (a.put o.dst undef) W :=
  Kd.R_append_rows_step hdK (w0 := w0) w0.heap.size hw s x 66 26 (.agg #[.bool false, .int .i64 0, .slice none 0 0]) 40 hop Tryd.underlying66 info_fr rfl (by decide) (by omega) v hs ys A m c (fun _ => True) (fun _ => False) hv hx hO hR (fun _ _ h => h) (fun _ h => h.elim) (fun _ _ => trivial) hB hB.size (by omega) K
end
theorem RMid.more {w0 w we w6 W1 : World} {H : Nat → Prop} {gr g2 : Nat} {d : Cn} {F : List Frm} {gf : Nat} {fin : Bool} {op : Int} {fl : List Int} {A3 A9 Ap A6 : Option Addr} {nf c3 n9 c9 np cp N6 c6 : Nat} {L : List (Hd × Frm)} (hM : RMid w0 w we H gr g2 d F W1 gf fin op fl A3 nf c3)
    (hk : Whole we gr 68 #[.bool d.mask, .bool d.over, .slice A9 n9 c9, .slice Ap np cp]) (hr : Rd we A9 n9 d.wait) (hc : n9 ≤ c9) (ha : ∀ ad, A9 = some ad → 0 < n9 → ¬ (H ad.block ∨ ad.block = g2) ∧ ad.block < we.heap.size) (hF : F = L.map Prod.snd) (hL : ∀ p ∈ L, HdOk we (fun k => H k ∨ k = g2) p.1 p.2)
    (hfr : ∀ k, we.heap.size ≤ k → ¬ (H k ∨ k = g2)) (hH : H gr) (hgf : gf ≠ gr) (hgg : g2 ≠ gr) (hnf : nf ≤ c3) (hfl : ∀ ad, A3 = some ad → 0 < nf → ¬ (H ad.block ∨ ad.block = g2) ∧ ad.block < we.heap.size) (hb0 : w0.heap.size ≤ gr) (hown : some gr ≠ (Value.slice A3 nf c3).ownBlock)
    (h6 : OwnH we w6 (.slice A6 N6 c6) (L.map Prod.fst ++ [(fin, op, (A3, nf, c3))])) (hb6 : Below we.heap.size we w6) :
    RMid w0 w (w6.setCell ⟨gr, 3, none⟩ (.slice A6 N6 c6)) H gr g2 d (F ++ [⟨fin, op, fl⟩]) W1 gf fin op fl A3 nf c3 := by
  have hlt := hk.lt
  have hkeep : Keep1 we (w6.setCell ⟨gr, 3, none⟩ (.slice A6 N6 c6)) gr := ⟨by rw [World.size_setCell]; exact hb6.size, fun k hk hn => by rw [heap_far hn]; exact hb6.block k hk⟩
  have hsame : ∀ {A : Option Addr} {n : Nat} {l : List Int}, Rd we A n l → (∀ ad, A = some ad → 0 < n → ¬ (H ad.block ∨ ad.block = g2) ∧ ad.block < we.heap.size) → Rd (w6.setCell ⟨gr, 3, none⟩ (.slice A6 N6 c6)) A n l := fun h ho => h.same (fun ad he h0 => hkeep.2 _ (ho ad he h0).2 (fun e => (ho ad he h0).1 (.inl (e ▸ hH))))
  have hs9 : ∀ k, k < we.heap.size → k < (w6.setCell ⟨gr, 3, none⟩ (.slice A6 N6 c6)).heap.size := fun k hk => Nat.lt_of_lt_of_le hk hkeep.1
  refine ⟨⟨⟨A9, n9, c9, .slice A6 N6 c6, (hk.below hb6 hlt).set 3 _, hsame hr ha, hc, fun ad he h0 => ⟨(ha ad he h0).1, hs9 _ (ha ad he h0).2⟩, ⟨L ++ [((fin, op, (A3, nf, c3)), ⟨fin, op, fl⟩)], ?_, by rw [hF, List.map_append]; rfl, fun p hp => ?_⟩, .inl hH, hb0⟩, (below_step hM.1.2.1 hb6).setCell (p := ⟨gr, 3, none⟩) hb0 _, (hM.1.2.2.1.below hb6 hM.1.2.2.1.lt).other (p := ⟨gr, 3, none⟩) (Ne.symm hgg) _, hM.1.2.2.2.trans hkeep⟩, (hM.2.1.below hb6 hM.2.1.lt).other (p := ⟨gr, 3, none⟩) (Ne.symm hgf) _, (hM.2.2.1.below hb6).far (p := ⟨gr, 3, none⟩) hown _, hM.2.2.2.1, by rw [World.size_setCell]; exact Nat.le_trans hM.2.2.2.2 hb6.size⟩
  · rw [List.map_append]
    have h7 := Kd.R_far (Kd.R_mono (ok' := fun k => ¬ (H k ∨ k = g2) ∧ we.heap.size ≤ k) (Kd.R_bound h6) (fun k hk => ⟨hfr k hk.2.1, hk.2.1⟩)) (p := ⟨gr, 3, none⟩) (fun k hk e => by have h1 := hk.2; have h2 : k = gr := e; omega) (.slice A6 N6 c6)
    exact Kd.R_lower (Kd.R_mono h7 (fun k hk => hk.1)) hM.1.2.1.size
  · rcases List.mem_append.1 hp with h1 | h1
    · obtain ⟨a1, a2, a3, a4, a5⟩ := hL p h1
      exact ⟨a1, a2, hsame a3 a5, a4, fun ad he h0 => ⟨(a5 ad he h0).1, hs9 _ (a5 ad he h0).2⟩⟩
    · rw [List.mem_singleton.1 h1]
      exact ⟨rfl, rfl, hsame hM.2.2.1.row hfl, hnf, fun ad he h0 => ⟨(hfl ad he h0).1, hs9 _ (hfl ad he h0).2⟩⟩
def Hd.none : Hd := (false, 0, (.none, 0, 0))
theorem HdC.at {w : World} {A : Option Addr} {n : Nat} {L : List Hd} (h : Kd.C hdK w A n L) (i : Nat) (hi : i < n) : ∃ ad, A = some ad ∧ w.cell? (ad.add (i * 3)) = some (.bool (L.getD i Hd.none).1) ∧
    w.cell? ⟨(ad.add (i * 3)).block, (ad.add (i * 3)).off + 1, none⟩ = some (.int .i64 (L.getD i Hd.none).2.1) ∧ w.cell? ⟨(ad.add (i * 3)).block, (ad.add (i * 3)).off + 2, none⟩ = some (.slice (L.getD i Hd.none).2.2.1 (L.getD i Hd.none).2.2.2.1 (L.getD i Hd.none).2.2.2.2) := by
  obtain ⟨ad, c, e, _, hK, hc0⟩ := Kd.C_get h Hd.none (i : Int) (by omega) (by omega)
  simp only [Int.toNat_natCast] at hK hc0
  have hc : ∀ j u, c[j]? = some u → w.cell? (ad.add (i * 3 + j)) = some u := hc0
  obtain ⟨_, _, rfl, rfl, ⟨_, _, rfl, rfl, rfl⟩⟩ := hK
  exact ⟨ad, e, hc 0 _ rfl, by rw [← add_field _ _ 1 (by omega)]; exact hc 1 _ rfl, by rw [← add_field _ _ 2 (by omega)]; exact hc 2 _ rfl⟩
theorem flat_take (G : List Frm) (k : Nat) (hk : k < G.length) : ((G.take (k + 1)).map Frm.load).flatten = ((G.take k).map Frm.load).flatten ++ (G.getD k zeroF).load := by
  rw [List.take_add_one, List.getElem?_eq_getElem hk, List.map_append, List.flatten_append, List.getD_eq_getElem?_getD, List.getElem?_eq_getElem hk]
  simp
theorem flat_pre (G : List Frm) (k : Nat) : ((G.take k).map Frm.load).flatten.length ≤ (G.map Frm.load).flatten.length := by
  have h : (G.map Frm.load).flatten = ((G.take k).map Frm.load).flatten ++ ((G.drop k).map Frm.load).flatten := by
    rw [← List.flatten_append, ← List.map_append, List.take_append_drop]
  rw [h, List.length_append]
  omega
theorem parts_G {M : Nat} {c : Cn} {F : List Frm} {fin : Bool} {op : Int} {fl : List Int} (h : RelF M c F) (ho : c.over = false) (hg : (decide (op = 0) != decide (c.op ≠ 0)) = false) :
    ∃ f0 r, F ++ [⟨fin, op, fl⟩] = f0 :: r ∧ f0.op = joinOp c ⟨fin, op, fl⟩ ∧ joinOp c ⟨fin, op, fl⟩ ≠ 0 ∧ ((F ++ [(⟨fin, op, fl⟩ : Frm)]).map Frm.load).flatten = c.load ++ fl := by
  rcases (h ho).2 with ⟨h1, h2, h3⟩ | ⟨f, r, h1, h2, h3, h4⟩
  · have hop : op ≠ 0 := fun e => by rw [e, h2] at hg; cases hg
    subst h1
    refine ⟨⟨fin, op, fl⟩, [], rfl, ?_, ?_, ?_⟩
    · unfold joinOp; rw [if_neg hop]
    · unfold joinOp; rw [if_neg hop]; exact hop
    · rw [h3]; show fl ++ [] = [] ++ fl; rw [List.append_nil, List.nil_append]
  · have hop : op = 0 := by
      by_cases e : op = 0
      · exact e
      · rw [decide_eq_false e, decide_eq_true h3] at hg; cases hg
    refine ⟨f, r ++ [⟨fin, op, fl⟩], by rw [h1]; rfl, ?_, ?_, ?_⟩
    · unfold joinOp; rw [if_pos hop]; exact h2.symm
    · unfold joinOp; rw [if_pos hop]; exact h3
    · rw [List.map_append, List.flatten_append, ← h4]; show c.load ++ (fl ++ []) = _; rw [List.append_nil]
theorem RefAt.drop {w0 W : World} {H : Nat → Prop} {gr : Nat} {c : Cn} {F : List Frm} (h : RefAt w0 W H gr c F) : RefAt w0 (W.setCell ⟨gr, 3, none⟩ (.slice none 0 0)) H gr c [] := by
  obtain ⟨A, n, cb, vp, hk, hr, hc, ha, _, hg, hb⟩ := h
  exact ⟨A, n, cb, .slice none 0 0, hk.set 3 _, hr.same (fun ad he h0 => heap_far (fun e => (ha ad he h0).1 (e ▸ hg))), hc, fun ad he h0 => ⟨(ha ad he h0).1, by rw [World.size_setCell]; exact (ha ad he h0).2⟩, ⟨[], Kd.R_nil _ _ _ _ _, rfl, fun p hp => (nomatch hp)⟩, hg, hb⟩
set_option maxRecDepth 20000 in
set_option maxHeartbeats 12800000 in
theorem WsNextR_step (M : Nat) (hM : M ≤ 1000000000) (w0 w : World) (H : Nat → Prop) (gr : Nat) (c : Cn) (F : List Frm) (h : RefAt w0 w H gr c F) (hF : RelF M c F) (hok : CnOk c) (hB : Below w0.heap.size w0 w) (hH : ∀ k, w.heap.size ≤ k → ¬ H k)
    (IH : ∀ (w' : World) (H' : Nat → Prop) (c' : Cn) (F' : List Frm), c'.wait.length < c.wait.length → RefAt w0 w' H' gr c' F' → RelF M c' F' → CnOk c' → Below w0.heap.size w0 w' → (∀ k, w'.heap.size ≤ k → ¬ H' k) → Calls Tryd.prog 34 #[.pointer (some ⟨gr, 0, none⟩)] w' (RefStep M w0 w' H' gr (nextW c'))) :
    Calls Tryd.prog 34 #[.pointer (some ⟨gr, 0, none⟩)] w (RefStep M w0 w H gr (nextW c)) := by
  have HIH := Lib.hid IH
  obtain ⟨g2, hg2⟩ : ∃ g, g = w.heap.size := ⟨_, rfl⟩
  obtain ⟨W1, hW1⟩ : ∃ W, W = w.alloc (.cells #[.int .i64 0, .int .i64 0, .slice none 0 0, .bool false] 51) := ⟨_, rfl⟩
  have b1 : Below w.heap.size w W1 := by rw [hW1]; exact below_alloc (Below.refl _ _) _
  have k2 : Whole W1 g2 51 ev0 := by rw [hW1, hg2]; exact Whole.new w _ _
  have hgr := h.gr
  have HS := Lib.hid (show g2 = w.heap.size ∧ W1 = w.alloc _ from ⟨hg2, hW1⟩)
  have H1 := Lib.hid (show RNext w0 w W1 H gr g2 c F from ⟨h.set b1 (by omega), below_step hB b1, k2, .of_below b1⟩)
  have hz : W1.heap.size = w.heap.size + 1 := by rw [hW1]; exact size_alloc w _
  have HC := Lib.hid (show w.heap.size ≤ g2 ∧ g2 ≠ gr ∧ H gr ∧ w0.heap.size ≤ g2 ∧ (∀ k, W1.heap.size ≤ k → ¬ (H k ∨ k = g2)) ∧ g2 < W1.heap.size ∧ gr < W1.heap.size ∧ w.heap.size ≤ W1.heap.size ∧ w0.heap.size ≤ gr from ⟨by omega, by omega, hgr.1, by have := hB.size; omega, fun k hk hor => hor.elim (hH k (by omega)) (fun e => by omega), by omega, by omega, by omega, hgr.2.2⟩)
  have HOK := Lib.hid (show CnOk c ∧ RelF M c F ∧ M ≤ 1000000000 from ⟨hok, hF, hM⟩)
  clear b1 k2 hgr hg2 hW1 hz h hF hok hB hH IH hM
  obtain ⟨Aw, nw, cw, vp, hk, hrw, hcw, ha, hp, _, _⟩ := id H1.out.1
  have x1 := hk.cell 1 _ rfl
  have HW := Lib.hid (show Whole W1 gr 68 #[.bool c.mask, .bool c.over, .slice Aw nw cw, vp] ∧ Rd W1 Aw nw c.wait ∧ nw ≤ cw ∧ (∀ ad, Aw = some ad → 0 < nw → ¬ (H ad.block ∨ ad.block = g2) ∧ ad.block < W1.heap.size) ∧ PartsAt w0 W1 (fun k => H k ∨ k = g2) vp F ∧ c.wait.length = nw from ⟨hk, hrw, hcw, ha, hp, Kd.C_len hrw⟩)
  clear hk hrw hcw ha hp
  cases hov : c.over with
  | true =>
    rw [hov] at x1
    have HR := Lib.hid (show nextW c = (c, none) from nextW_over hov)
    clear hov
    go_enter Tryd.func34, Tryd.ntmps34
    go_upto_region 1 with (fail)
    rw [← HS.out.1, ← HS.out.2]
    go_wp2_with (refine gate_ (.store 51 (.tmp 2) (.tmp 15)) rfl ?_; refine store_whole rfl rfl rfl rfl rfl H1.out.2.2.1 rfl (by simp [Value.oneCell']) rfl (by kernel_rfl) ?_; intro w9 hk9 hb9 hf9 hg9)
    refine bodyPost_ret (results_ct rfl _ _ g2 _ _ _ _ rfl hk9 Tryd.underlying51 rfl (by kernel_rfl)) rfl ?_
    exact rtold (x := ⟨0, 0, [], false⟩) (ok := false) HR.out H1.out.1 HOK.out.2.1 (Rd.empty _ _) (fun _ h => (nomatch h)) H1.out.2.2.2 HC.out.1 HC.out.2.1 HC.out.2.2.1 (.inr ⟨rfl, rfl, rfl⟩) hf9 hg9.size (hb9 _ _ H1.out.2.1 HC.out.2.2.2.1)
  | false =>
    rw [hov] at x1
    have HO := Lib.hid hov
    clear hov
    obtain ⟨⟨fin, op, fl⟩, k, why, hR⟩ : ∃ f k why, rdF c.wait c.mask = (f, k, why) := ⟨_, _, _, rfl⟩
    have HRD := Lib.hid hR
    obtain ⟨nf, hnf⟩ : ∃ n, n = fl.length := ⟨_, rfl⟩
    have HNF := Lib.hid hnf
    have HX := Lib.hid (show ∀ W, Below W1.heap.size W1 W → W.cell? ⟨gr, 2, none⟩ = some (.slice Aw nw cw) ∧ W.cell? ⟨gr, 0, none⟩ = some (.bool c.mask) from fun W hW => ⟨(HW.out.1.below hW HW.out.1.lt).cell 2 _ rfl, (HW.out.1.below hW HW.out.1.lt).cell 0 _ rfl⟩)
    have HRC := Lib.hid (show ∀ W, Below W1.heap.size W1 W → Calls Tryd.prog 16 #[.slice Aw nw cw, .bool c.mask] W (fun e w3 => ∃ A3 c3, e = .returned (.tuple #[.agg #[.bool fin, .int .i64 op, .slice A3 nf c3], .int .i64 k, .int .i64 why]) ∧ Own W w3 (.slice A3 nf c3) fl ∧ Below W.heap.size W w3) from fun W hW => by
      refine (WsReadRef_calls Aw cw c.wait c.mask W (Kd.C_below HW.out.2.1 hW) HW.out.2.2.1 HOK.out.1.2.2.1 (by have := HOK.out.1.1; have := HW.out; omega)).mono ?_
      rintro e w3 ⟨f, k', why', v, rfl, hf, ho, hb⟩
      rw [HRD.out] at hf
      injection hf with h1 h2
      injection h2 with h2 h3
      subst h1 h2 h3
      obtain ⟨A3, c3, rfl, _, _⟩ := Own.reads ho
      rw [show (⟨fin, op, fl⟩ : Frm).load.length = nf from HNF.out.symm] at ho ⊢
      exact ⟨A3, c3, rfl, ho, hb⟩)
    clear hR hnf
    have y2 := (HX.out _ (below_drew (Below.refl _ _))).1
    have y0 := (HX.out _ (below_drew (Below.refl _ _))).2
    go_enter Tryd.func34, Tryd.ntmps34
    go_upto_region 1 with (fail)
    rw [← HS.out.1, ← HS.out.2]
    go_upto_region 3 with (fail)
    go_cut [4, 5, 6] (fun v4 v5 v6 wc => ∃ (gf : Nat) (A3 : Option Addr) (c3 : Nat), v4 = .pointer (some ⟨gf, 0, none⟩) ∧ v5 = .int .i64 k ∧ v6 = .int .i64 why ∧ Hid (RdAt W1 wc gf fin op fl A3 nf c3))
    case first =>
      go_region_held3 (fun w' => w'.cell? ⟨gr, 2, none⟩ = some (.slice Aw nw cw) ∧ w'.cell? ⟨gr, 0, none⟩ = some (.bool c.mask)) (first | with_reducible exact HX.out _ (below_drew (Below.refl _ _)) | with_reducible exact HX.out _ (below_drew (below_alloc (Below.refl _ _) _)) | with_reducible exact HX.out _ HA.out.1 | with_reducible exact HX.out _ HB.out.1 | with_reducible exact HX.out _ (below_alloc HA.out.1 _) | with_reducible exact HX.out _ (((HB.out.1.setCell (Nat.le_refl _) _).setCell (Nat.le_refl _) _).setCell (Nat.le_refl _) _))
        (first
        | (go_at_call 16; (with_reducible refine (HRC.out ((W1.alloc (.cells #[.bool false, .int .i64 0, .slice none 0 0] 26)).drew) (below_drew (below_alloc (Below.refl _ _) _))).mono ?_); rintro e w3 ⟨A3, c3, rfl, ho3, hb3⟩; have HB := Lib.hid (show Below W1.heap.size W1 w3 ∧ Below ((W1.alloc (.cells #[.bool false, .int .i64 0, .slice none 0 0] 26)).drew).heap.size ((W1.alloc (.cells #[.bool false, .int .i64 0, .slice none 0 0] 26)).drew) w3 ∧ Own ((W1.alloc (.cells #[.bool false, .int .i64 0, .slice none 0 0] 26)).drew) w3 (.slice A3 nf c3) fl ∧ Whole w3 W1.heap.size 26 #[.bool false, .int .i64 0, .slice none 0 0] from ⟨below_step (below_drew (below_alloc (Below.refl _ _) _)) hb3, hb3, ho3, (whole_new_drew W1 _ _).below hb3 (whole_new_drew W1 _ _).lt⟩); have f0 := HB.out.2.2.2.free 0; have f1 := HB.out.2.2.2.free 1; have f2 := HB.out.2.2.2.free 2; have z0 := HB.out.2.2.2.cell 0 _ rfl; have z1 := HB.out.2.2.2.cell 1 _ rfl; have z2 := HB.out.2.2.2.cell 2 _ rfl; clear ho3 hb3)
        | (go_at_call 16; (with_reducible refine (HRC.out W1.drew (below_drew (Below.refl _ _))).mono ?_); rintro e w3 ⟨A3, c3, rfl, ho3, hb3⟩; have HA := Lib.hid (show Below W1.heap.size W1 w3 ∧ Below W1.drew.heap.size W1.drew w3 ∧ Own W1.drew w3 (.slice A3 nf c3) fl from ⟨below_step (below_drew (Below.refl _ _)) hb3, hb3, ho3⟩); clear ho3 hb3)
        | (fail))
      all_goals
        go_wp2
        go_meet
        case rel =>
          first
            | exact ⟨w3.heap.size, A3, c3, rfl, rfl, rfl, Lib.hid (rdat_A HA.out.2.1 HA.out.2.2)⟩
            | exact ⟨W1.heap.size, A3, c3, rfl, rfl, rfl, Lib.hid (rdat_B HB.out.2.1 HB.out.2.2.1 HB.out.2.2.2)⟩
    case rest =>
      obtain ⟨gf, A3, c3, rfl, rfl, rfl, HQ⟩ := hcut
      generalize wc = wq at HQ ⊢
      have HN := Lib.hid (H1.out.below HQ.out.1)
      clear x1 y2 y0 HX HRC
      by_cases h1 : why = 1
      · subst h1
        have HR := Lib.hid (show nextW c = (c, none) from nextW_more HO.out HRD.out)
        clear H1
        go_wp2_with (refine gate_ (.store 51 (.tmp 2) (.tmp 31)) rfl ?_; refine store_whole rfl rfl rfl rfl rfl HN.out.2.2.1 rfl (by simp [Value.oneCell']) rfl (by kernel_rfl) ?_; intro w9 hk9 hb9 hf9 hg9)
        refine bodyPost_ret (results_ct rfl _ _ g2 _ _ _ _ rfl hk9 Tryd.underlying51 rfl (by kernel_rfl)) rfl ?_
        exact rtold (x := ⟨0, 0, [], false⟩) (ok := false) HR.out HN.out.1 HOK.out.2.1 (Rd.empty _ _) (fun _ h => (nomatch h)) HN.out.2.2.2 HC.out.1 HC.out.2.1 HC.out.2.2.1 (.inr ⟨rfl, rfl, rfl⟩) hf9 hg9.size (hb9 _ _ HN.out.2.1 HC.out.2.2.2.1)
      · by_cases h0 : why = 0
        · subst h0
          clear h1
          obtain ⟨hkn, ⟨K, hK, hK2, hKl⟩, hfb, hfl⟩ := rdF_good HRD.out HOK.out.1.2.2.1
          subst hK
          have HK := Lib.hid (show Bytes fl ∧ nf ≤ 16384 ∧ 2 ≤ K ∧ K ≤ nw ∧ knownB op = true from ⟨hfb, by rw [HNF.out]; exact hfl, hK2, by rw [← HW.out.2.2.2.2.2]; exact hKl, hkn⟩)
          clear hfb hfl hK2 hKl hkn
          obtain ⟨ad, rfl, _⟩ := Rd.cells HW.out.2.1 (by have := HK.out; omega)
          have x2 := (HW.out.1.below HQ.out.1 HW.out.1.lt).cell 2 _ rfl
          have f2 := (HW.out.1.below HQ.out.1 HW.out.1.lt).free 2
          have m1 : (0 : Int) ≤ K := by omega
          have m2 : (K : Int) ≤ nw := by have := HK.out; omega
          have m3 : (nw : Int) ≤ cw := by have := HW.out.2.2.1; omega
          have m4 : (K : Int) ≤ cw := by omega
          have m5 : K ≤ nw := by omega
          have m6 : nw ≤ cw := by omega
          have m7 : K ≤ cw := by omega
          have HCUT := Lib.hid (RMid.cut (K := K) HN.out HQ.out HW.out.1 HW.out.2.1 HW.out.2.2.1 (HW.out.2.2.2.1 ad rfl) HW.out.2.2.2.2.1 HC.out.2.2.1 HC.out.2.2.2.2.2.2.2.2 m5 (by have := HK.out; omega) HC.out.2.2.2.2.2.2.1 HC.out.2.1)
          go_upto_region 8 with (fail)
          go_cut [45] (fun v wd => ∃ (B8 : Option Addr) (n8 c8 : Nat), v = .slice B8 n8 c8 ∧ Hid (RMid w0 w wd H gr g2 { c with wait := c.wait.drop K } F W1 gf fin op fl A3 nf c3))
          case first =>
            by_cases hck : cw = K
            · go_wp2
              go_meet
              case rel => exact ⟨_, _, _, rfl, Lib.hid (by have h := HCUT.out; rw [if_pos hck, hck, Nat.sub_self] at h; exact h)⟩
            · go_wp2
              go_meet
              case rel => exact ⟨_, _, _, rfl, Lib.hid (by have h := HCUT.out; rw [if_neg hck] at h; exact h)⟩
          case rest =>
            obtain ⟨B8, n8, c8, rfl, HP0⟩ := hcut
            generalize wc = wd at HP0 ⊢
            obtain ⟨d, hd⟩ : ∃ x, x = ({ c with wait := c.wait.drop K } : Cn) := ⟨_, rfl⟩
            have HP : Hid (RMid w0 w wd H gr g2 d F W1 gf fin op fl A3 nf c3) := by rw [hd]; exact HP0
            have HD := Lib.hid hd
            clear m1 m2 m3 m4 m5 m6 m7 x2 f2 HCUT HQ HP0 hd HN
            have x0 := HP.out.2.1.cell 0 _ rfl
            have x1 := HP.out.2.1.cell 1 _ rfl
            have x2 := HP.out.2.1.cell 2 _ rfl
            have HFL := Lib.hid (show ∀ ad, A3 = some ad → 0 < nf → w.heap.size ≤ ad.block ∧ ad.block ≠ g2 ∧ ad.block ≠ gr ∧ W1.heap.size ≤ ad.block from fun ad he _ => by
              have h1 := HP.out.2.2.1.ge ad.block (by rw [he]; rfl)
              have := HC.out
              exact ⟨by omega, by omega, by omega, h1⟩)
            have hfb2 : ∀ ad, A3 = some ad → 0 < nf → ad.block < wd.heap.size := fun ad he _ => HP.out.2.2.1.lt ad.block (by rw [he]; rfl)
            obtain ⟨_, c3', hv3, hc3, _⟩ := HP.out.2.2.1.reads
            have hc33 : nf ≤ c3 := by injection hv3 with _ h2 h3; rw [h3]; rw [h2]; exact hc3
            have HF2 := Lib.hid (And.intro hfb2 hc33)
            clear hfb2 hv3 hc3 hc33
            by_cases h8 : op = 8
            · subst h8
              have HR := Lib.hid (show nextW c = (failC d, some (closeE fl)) from by rw [HD.out]; exact nextW_close HO.out HRD.out rfl)
              go_wp2_with fail
              refine (WsShut_calls w0 _ (fun k => H k ∨ k = g2) gr d F A3 c3 fl HP.out.1.1 HP.out.1.2.1 HP.out.2.2.1.row HF2.out.2 (fun ad he h0 => ⟨(HFL.out ad he h0).2.2.1, HF2.out.1 ad he h0⟩) HK.out.1 HK.out.2.1).mono ?_
              rintro e w5 ⟨A5, n5, c5, he5, hr5, hb5⟩
              obtain ⟨F5, hF5⟩ := he5.2.1
              have H5 := Lib.hid (show RefAt w0 w5 (fun k => H k ∨ k = g2) gr (failC d) F5 ∧ Keep1 w w5 gr ∧ Below w0.heap.size w0 w5 ∧ Whole w5 g2 51 ev0 ∧ Rd w5 A5 n5 (closeE fl).load ∧ (∀ ad, A5 = some ad → 0 < n5 → w.heap.size ≤ ad.block ∧ ad.block ≠ g2) from ⟨hF5, HP.out.1.2.2.2.trans he5.2.2.1, he5.2.2.2, HP.out.1.2.2.1.far (he5.2.2.1.2 g2 HP.out.1.2.2.1.lt HC.out.2.1), hr5, fun az he h0 => by
                obtain ⟨ab, h1, h2, h3⟩ := hb5 az he h0
                have h4 := HFL.out ab h1 h2
                rw [h3]
                exact ⟨h4.1, h4.2.1⟩⟩)
              obtain rfl := he5.1
              clear he5 hF5 hr5 hb5 x0 x1 x2
              go_wp2_with (refine gate_ (.store 51 (.tmp 2) (.tmp 55)) rfl ?_; refine store_whole rfl rfl rfl rfl rfl H5.out.2.2.2.1 rfl (by simp [Value.oneCell']) rfl (by kernel_rfl) ?_; intro w9 hk9 hb9 hf9 hg9)
              refine bodyPost_ret (results_ct rfl _ _ g2 _ _ _ _ rfl hk9 Tryd.underlying51 rfl (by kernel_rfl)) rfl ?_
              exact rtold (x := closeE fl) (ok := true) HR.out H5.out.1 (RelF.fail _ _ _) H5.out.2.2.2.2.1 H5.out.2.2.2.2.2 H5.out.2.1 HC.out.1 HC.out.2.1 HC.out.2.2.1 (.inl ⟨rfl, rfl⟩) hf9 hg9.size (hb9 _ _ H5.out.2.2.1 HC.out.2.2.2.1)
            · have o8 : (op == 8) = false := by rw [beq_eq_false_iff_ne]; exact h8
              by_cases h9 : op = 9 ∨ op = 10
              · have d8 : decide (8 < op) = true := decide_eq_true (by omega)
                have HR := Lib.hid (show nextW c = (d, some ⟨op, 0, fl, false⟩) from by rw [HD.out]; exact nextW_ping HO.out HRD.out h9)
                clear h8 h9
                go_wp2_with (refine gate_ (.store 51 (.tmp 2) (.tmp 64)) rfl ?_; refine store_whole rfl rfl rfl rfl rfl HP.out.1.2.2.1 rfl (by simp [Value.oneCell']) rfl (by kernel_rfl) ?_; intro w9 hk9 hb9 hf9 hg9)
                refine bodyPost_ret (results_ct rfl _ _ g2 _ _ _ _ rfl hk9 Tryd.underlying51 rfl (by kernel_rfl)) rfl ?_
                exact rtold (x := ⟨op, 0, fl, false⟩) (ok := true) HR.out HP.out.1.1 (by rw [HD.out]; exact RelF.wait HOK.out.2.1 _ (by rw [List.length_drop]; omega)) HP.out.2.2.1.row (fun ad he h0 => ⟨(HFL.out ad he h0).1, (HFL.out ad he h0).2.1⟩) HP.out.1.2.2.2 HC.out.1 HC.out.2.1 HC.out.2.2.1 (.inl ⟨rfl, rfl⟩) hf9 hg9.size (hb9 _ _ HP.out.1.2.1 HC.out.2.2.2.1)
              · have h012 := known_cases HK.out.2.2.2.2
                have d8 : decide (8 < op) = false := decide_eq_false (by omega)
                have H89 := Lib.hid (And.intro h8 h9)
                obtain ⟨A8', n8', c8'', vp8, hk8, _, _, _, hp8, _, _⟩ := id HP.out.1.1
                obtain ⟨L, hpr, hFL, hL⟩ := id hp8
                obtain ⟨Ap, cp, rfl, hcp, hcc⟩ := Kd.R_reads hpr
                obtain ⟨np, hnp⟩ : ∃ n, n = (L.map Prod.fst).length := ⟨_, rfl⟩
                rw [← hnp] at hk8 hpr hcp hcc
                have x3 := hk8.cell 3 _ rfl
                have hnF : np = F.length := by rw [hnp, hFL, List.length_map, List.length_map]
                have HL := Lib.hid (show Kd.R hdK 26 wd w0.heap.size (fun k => ¬ (H k ∨ k = g2)) (.slice Ap np cp) (L.map Prod.fst) ∧ F = L.map Prod.snd ∧ (∀ p ∈ L, HdOk wd (fun k => H k ∨ k = g2) p.1 p.2) ∧ np = (L.map Prod.fst).length ∧ np ≤ cp ∧ Kd.C hdK wd Ap np (L.map Prod.fst) ∧ np = F.length ∧ Whole wd gr 68 #[.bool d.mask, .bool d.over, .slice A8' n8' c8'', .slice Ap np cp] from ⟨hpr, hFL, hL, hnp, hcp, hcc, hnF, hk8⟩)
                obtain ⟨p, hp⟩ : ∃ p, (op == 0) = p := ⟨_, rfl⟩
                obtain ⟨q, hq⟩ : ∃ q, ((np : Int) == 0) = q := ⟨_, rfl⟩
                obtain ⟨q', hq'⟩ : ∃ q, (np == 0) = q := ⟨_, rfl⟩
                have hqq : q' = q := by rw [← hq, ← hq', Bool.eq_iff_iff, beq_iff_eq, beq_iff_eq]; omega
                have hco : q = decide (c.op = 0) := by
                  have hrel := (HOK.out.2.1 HO.out).2
                  rw [← hq]
                  rcases hrel with ⟨h1, h2, _⟩ | ⟨f, r, h1, h2, h3, _⟩
                  · rw [hnF, h1, h2]; rfl
                  · rw [decide_eq_false h3, beq_eq_false_iff_ne, hnF, h1, List.length_cons]; omega
                have hpq : (p == q) = (decide (op = 0) != decide (c.op ≠ 0)) := by
                  rw [hco, ← hp, show (op == 0) = decide (op = 0) from by by_cases h1 : op = 0 <;> simp [h1]]
                  by_cases h1 : c.op = 0 <;> by_cases h2 : op = 0 <;> simp [h1, h2]
                have HPQ := Lib.hid hpq
                rw [hqq] at hq'
                clear hk8 hp8 hpr hFL hL hnp hcp hcc hnF h8 h9 h012 hqq hco
                cases hbad : (decide (op = 0) != decide (c.op ≠ 0)) with
                | true =>
                  rw [hbad] at hpq
                  have HR := Lib.hid (show nextW c = (failC d, some (failE 1002)) from by rw [HD.out]; exact nextW_part HO.out HRD.out H89.out.1 H89.out.2 (by unfold partV; rw [if_pos hbad]))
                  clear hbad
                  go_upto_region 13 with (fail)
                  go_quiet (fail)
                  have HE := Lib.hid (HP.out.1.below (pw_below_drewN (Below.refl _ _) nq))
                  generalize wd.drewN nq = we at HE ⊢
                  clear x0 x1 x2 x3
                  go_wp2_with fail
                  refine (WsFailR_calls w0 _ (fun k => H k ∨ k = g2) gr d _ 1002 HE.out.1 HE.out.2.1).mono ?_
                  rintro e w5 he5
                  obtain ⟨F5, hF5⟩ := he5.2.1
                  have H5 := Lib.hid (show RefAt w0 w5 (fun k => H k ∨ k = g2) gr (failC d) F5 ∧ Keep1 w w5 gr ∧ Below w0.heap.size w0 w5 ∧ Whole w5 g2 51 ev0 from ⟨hF5, HE.out.2.2.2.trans he5.2.2.1, he5.2.2.2, HE.out.2.2.1.far (he5.2.2.1.2 g2 HE.out.2.2.1.lt HC.out.2.1)⟩)
                  obtain rfl := he5.1
                  clear he5 hF5
                  go_wp2_with (refine gate_ (.store 51 (.tmp 2) (.tmp 77)) rfl ?_; refine store_whole rfl rfl rfl rfl rfl H5.out.2.2.2 rfl (by simp [Value.oneCell']) rfl (by kernel_rfl) ?_; intro w9 hk9 hb9 hf9 hg9)
                  refine bodyPost_ret (results_ct rfl _ _ g2 _ _ _ _ rfl hk9 Tryd.underlying51 rfl (by kernel_rfl)) rfl ?_
                  exact rtold (x := failE 1002) (ok := true) HR.out H5.out.1 (RelF.fail _ _ _) (Rd.empty _ _) (fun _ h => (nomatch h)) H5.out.2.1 HC.out.1 HC.out.2.1 HC.out.2.2.1 (.inl ⟨rfl, rfl⟩) hf9 hg9.size (hb9 _ _ H5.out.2.2.1 HC.out.2.2.2.1)
                | false =>
                  rw [hbad] at hpq
                  have HGD := Lib.hid hbad
                  clear hbad
                  go_upto_region 13 with (fail)
                  go_quiet (fail)
                  have HE := Lib.hid (show RMid w0 w (wd.drewN nq) H gr g2 d F W1 gf fin op fl A3 nf c3 ∧ Below wd.heap.size wd (wd.drewN nq) from ⟨HP.out.below (pw_below_drewN (Below.refl _ _) nq), pw_below_drewN (Below.refl _ _) nq⟩)
                  generalize wd.drewN nq = we at HE ⊢
                  clear x0 x1 x2 x3 hp hq hq' hpq d8 o8
                  obtain ⟨A9, n9, c9, vp9, hk9, hr9, hc9, ha9, hp9, _, _⟩ := id HE.out.1.1.1
                  obtain ⟨L, hpr, hFL, hL⟩ := id hp9
                  obtain ⟨Ap, cp, rfl, hcp, hcc⟩ := Kd.R_reads hpr
                  obtain ⟨np, hnp⟩ : ∃ n, n = (L.map Prod.fst).length := ⟨_, rfl⟩
                  rw [← hnp] at hk9 hpr hcp hcc
                  have HX := Lib.hid (show ∀ W, Below we.heap.size we W → W.cell? ⟨gr, 3, none⟩ = some (.slice Ap np cp) ∧ W.cell? ⟨gf, 0, none⟩ = some (.bool fin) ∧ W.cell? ⟨gf, 1, none⟩ = some (.int .i64 op) ∧ W.cell? ⟨gf, 2, none⟩ = some (.slice A3 nf c3) from fun W hW => ⟨(hk9.below hW hk9.lt).cell 3 _ rfl, (HE.out.1.2.1.below hW HE.out.1.2.1.lt).cell 0 _ rfl, (HE.out.1.2.1.below hW HE.out.1.2.1.lt).cell 1 _ rfl, (HE.out.1.2.1.below hW HE.out.1.2.1.lt).cell 2 _ rfl⟩)
                  have hnp2 : np ≤ 1000000000 := by
                    have h1 := (HOK.out.2.1 HO.out).1
                    have h2 := HOK.out.2.2
                    rw [hFL, List.length_map] at h1
                    rw [hnp, List.length_map]
                    omega
                  have H15 := Lib.hid (show Whole we gr 68 #[.bool d.mask, .bool d.over, .slice A9 n9 c9, .slice Ap np cp] ∧ Rd we A9 n9 d.wait ∧ n9 ≤ c9 ∧ (∀ ad, A9 = some ad → 0 < n9 → ¬ (H ad.block ∨ ad.block = g2) ∧ ad.block < we.heap.size) ∧ Kd.R hdK 26 we w0.heap.size (fun k => ¬ (H k ∨ k = g2)) (.slice Ap np cp) (L.map Prod.fst) ∧ F = L.map Prod.snd ∧ (∀ p ∈ L, HdOk we (fun k => H k ∨ k = g2) p.1 p.2) ∧ np ≤ 1000000000 ∧ Kd.C hdK we Ap np (L.map Prod.fst) ∧ gf ≠ gr ∧ H gr ∧ gr < we.heap.size ∧ (∀ k, we.heap.size ≤ k → ¬ (H k ∨ k = g2)) from ⟨hk9, hr9, hc9, ha9, hpr, hFL, hL, hnp2, hcc, by have := HE.out.1.2.2.2.1; have := HC.out; omega, HC.out.2.2.1, by have := HE.out.1.2.2.2.2; have := HC.out; omega, fun k hk => HC.out.2.2.2.2.1 k (by have := HE.out.1.2.2.2.2; omega)⟩)
                  clear hk9 hr9 hc9 ha9 hp9 hpr hFL hL hcp hcc hnp hnp2
                  have hszA : (we.alloc (.cells #[] 26)).heap.size = we.heap.size + 1 := size_alloc we _
                  have hszG : (we.alloc (.cells #[.bool fin, .int .i64 op, .slice A3 nf c3] 26)).heap.size = we.heap.size + 1 := size_alloc we _
                  have hb1 : Below we.heap.size we we.drew := below_drew (Below.refl _ _)
                  have HBA := Lib.hid (show Below we.heap.size we ((we.alloc (.cells #[] 26)).drew) from below_drew (below_alloc (Below.refl _ _) _))
                  have HOA := Lib.hid (show OwnH we ((we.alloc (.cells #[] 26)).drew) (.slice (some ⟨we.heap.size, 0, none⟩) 0 0) [] from Kd.R_below (lit_nilH (Below.refl _ _)) (below_drew (Below.refl _ _)))
                  have xA0 := (HX.out _ HBA.out).1
                  have xA1 := (HX.out _ HBA.out).2.1
                  have xA2 := (HX.out _ HBA.out).2.2.1
                  have xA3 := (HX.out _ HBA.out).2.2.2
                  have HBB := Lib.hid (show Below we.heap.size we (((we.alloc (.cells #[] 26)).alloc (.cells #[.bool fin, .int .i64 op, .slice A3 nf c3] 26)).drew) from below_drew (below_alloc (below_alloc (Below.refl _ _) _) _))
                  have HOB := Lib.hid (show OwnH we (((we.alloc (.cells #[] 26)).alloc (.cells #[.bool fin, .int .i64 op, .slice A3 nf c3] 26)).drew) (.slice (some ⟨we.heap.size, 0, none⟩) 0 0) [] from Kd.R_below (lit_nilH (Below.refl _ _)) (below_drew (below_alloc (Below.refl _ _) _)))
                  have HWB := Lib.hid (show Whole (((we.alloc (.cells #[] 26)).alloc (.cells #[.bool fin, .int .i64 op, .slice A3 nf c3] 26)).drew) (we.heap.size + 1) 26 #[.bool fin, .int .i64 op, .slice A3 nf c3] from by have h := whole_new_drew (we.alloc (.cells #[] 26)) 26 #[.bool fin, .int .i64 op, .slice A3 nf c3]; rw [hszA] at h; exact h)
                  have xB0 := (HX.out _ HBB.out).1
                  have xB1 := (HX.out _ HBB.out).2.1
                  have xB2 := (HX.out _ HBB.out).2.2.1
                  have xB3 := (HX.out _ HBB.out).2.2.2
                  have HBG := Lib.hid (show Below we.heap.size we (((we.alloc (.cells #[.bool fin, .int .i64 op, .slice A3 nf c3] 26)).alloc (.cells #[] 26)).drew) from below_drew (below_alloc (below_alloc (Below.refl _ _) _) _))
                  have HOG := Lib.hid (show OwnH we (((we.alloc (.cells #[.bool fin, .int .i64 op, .slice A3 nf c3] 26)).alloc (.cells #[] 26)).drew) (.slice (some ⟨(we.heap.size + 1), 0, none⟩) 0 0) [] from by have h := lit_nilH (w0 := we) (W := we.alloc (.cells #[.bool fin, .int .i64 op, .slice A3 nf c3] 26)) (below_alloc (Below.refl _ _) (.cells #[.bool fin, .int .i64 op, .slice A3 nf c3] 26)); rw [hszG] at h; exact Kd.R_below h (below_drew (Below.refl _ _)))
                  have HWG := Lib.hid (show Whole (((we.alloc (.cells #[.bool fin, .int .i64 op, .slice A3 nf c3] 26)).alloc (.cells #[] 26)).drew) we.heap.size 26 #[.bool fin, .int .i64 op, .slice A3 nf c3] from ((Whole.new we 26 #[.bool fin, .int .i64 op, .slice A3 nf c3]).below (below_alloc (Below.refl _ _) _) (Whole.new we 26 #[.bool fin, .int .i64 op, .slice A3 nf c3]).lt).below (below_drew (Below.refl _ _)) (Nat.lt_of_lt_of_le (Whole.new we 26 #[.bool fin, .int .i64 op, .slice A3 nf c3]).lt (below_alloc (Below.refl _ _) (.cells #[] 26)).size))
                  have xG0 := (HX.out _ HBG.out).1
                  have xG1 := (HX.out _ HBG.out).2.1
                  have xG2 := (HX.out _ HBG.out).2.2.1
                  have xG3 := (HX.out _ HBG.out).2.2.2
                  have xd0 := (HX.out _ hb1).1
                  have xe0 := (HX.out _ (below_drew (below_alloc (Below.refl we.heap.size we) (.cells #[.bool fin, .int .i64 op, .slice A3 nf c3] 26)))).1
                  have xd1 := (HX.out _ hb1).2.1
                  have xe1 := (HX.out _ (below_drew (below_alloc (Below.refl we.heap.size we) (.cells #[.bool fin, .int .i64 op, .slice A3 nf c3] 26)))).2.1
                  have xd2 := (HX.out _ hb1).2.2.1
                  have xe2 := (HX.out _ (below_drew (below_alloc (Below.refl we.heap.size we) (.cells #[.bool fin, .int .i64 op, .slice A3 nf c3] 26)))).2.2.1
                  have xd3 := (HX.out _ hb1).2.2.2
                  have xe3 := (HX.out _ (below_drew (below_alloc (Below.refl we.heap.size we) (.cells #[.bool fin, .int .i64 op, .slice A3 nf c3] 26)))).2.2.2
                  clear hszA hszG hb1
                  have HFW := Lib.hid (show ∀ ad, A3 = some ad → 0 < nf → ¬ (H ad.block ∨ ad.block = g2) ∧ ad.block < we.heap.size from fun ad he h0 => ⟨HC.out.2.2.2.2.1 _ (HFL.out ad he h0).2.2.2, HE.out.1.2.2.1.lt ad.block (by rw [he]; rfl)⟩)
                  have HLN := Lib.hid (show (L.map Prod.fst).length = np from Kd.C_len H15.out.2.2.2.2.2.2.2.2.1)
                  have hlim : ([] : List Hd).length + np ≤ 2000000000 := by have := H15.out; simp only [List.length_nil]; omega
                  go_upto_region 15 with (fail)
                  go_cut [88] (fun v wf => ∃ (Av : Option Addr) (nv cv : Nat), v = .slice Av nv cv ∧ Hid (RMid w0 w wf H gr g2 d (F ++ [⟨fin, op, fl⟩]) W1 gf fin op fl A3 nf c3))
                  case first =>
                    go_region_law (first
                      | (refine apph_step (s := .tmp 80) (x := .tmp 84) HOA.out (Kd.C_below H15.out.2.2.2.2.2.2.2.2.1 HBA.out) HBA.out hlim (by rfl) rfl rfl rfl ?_; intro v5 w5 ho5 hb5 hg5 hat5; have HAA5 := Lib.hid (show OwnH we w5 v5 ([] ++ L.map Prod.fst) ∧ Below we.heap.size we w5 from ⟨ho5, hb5⟩); have x3 := (HX.out _ hb5).1; have x0 := (HX.out _ hb5).2.1; have x1 := (HX.out _ hb5).2.2.1; have x2 := (HX.out _ hb5).2.2.2; clear ho5 hb5 hg5 hat5)
                      | (refine apph_step (s := .tmp 85) (x := .tmp 87) (Kd.R_below HAA5.out.1 (below_alloc (Below.refl _ _) (.cells #[.bool fin, .int .i64 op, .slice A3 nf c3] 26))) (C_box (Whole.new w5 _ _)) (below_step HAA5.out.2 (below_alloc (Below.refl _ _) (.cells #[.bool fin, .int .i64 op, .slice A3 nf c3] 26))) (by have := H15.out.2.2.2.2.2.2.2.1; have := HLN.out; simp only [List.nil_append]; omega) (by rfl) rfl rfl rfl ?_; intro v6 w6 ho6 hb6 hg6 hat6; obtain ⟨A6, c6, rfl, _, _⟩ := Kd.R_reads ho6; have H6 := Lib.hid (show OwnH we w6 _ _ ∧ Below we.heap.size we w6 from ⟨ho6, hb6⟩); have f3 := (H15.out.1.below hb6 H15.out.1.lt).free 3; have y3 := (H15.out.1.below hb6 H15.out.1.lt).cell 3 _ rfl; clear ho6 hb6 hg6 hat6)
                      | (refine apph_step (s := .tmp 80) (x := .tmp 84) HOB.out (Kd.C_below H15.out.2.2.2.2.2.2.2.2.1 HBB.out) HBB.out hlim (by rfl) rfl rfl rfl ?_; intro v5 w5 ho5 hb5 hg5 hat5; have HAB5 := Lib.hid (show OwnH we w5 v5 ([] ++ L.map Prod.fst) ∧ Below we.heap.size we w5 ∧ Whole w5 (we.heap.size + 1) 26 #[.bool fin, .int .i64 op, .slice A3 nf c3] from ⟨ho5, hb5, HWB.out.grown hg5 (by simp [Value.ownBlock])⟩); clear ho5 hb5 hg5 hat5)
                      | (refine apph_step (s := .tmp 85) (x := .tmp 87) HAB5.out.1 (C_box HAB5.out.2.2) HAB5.out.2.1 (by have := H15.out.2.2.2.2.2.2.2.1; have := HLN.out; simp only [List.nil_append]; omega) (by rfl) rfl rfl rfl ?_; intro v6 w6 ho6 hb6 hg6 hat6; obtain ⟨A6, c6, rfl, _, _⟩ := Kd.R_reads ho6; have H6 := Lib.hid (show OwnH we w6 _ _ ∧ Below we.heap.size we w6 from ⟨ho6, hb6⟩); have f3 := (H15.out.1.below hb6 H15.out.1.lt).free 3; have y3 := (H15.out.1.below hb6 H15.out.1.lt).cell 3 _ rfl; clear ho6 hb6 hg6 hat6)
                      | (refine apph_step (s := .tmp 80) (x := .tmp 84) HOG.out (Kd.C_below H15.out.2.2.2.2.2.2.2.2.1 HBG.out) HBG.out hlim (by rfl) rfl rfl rfl ?_; intro v5 w5 ho5 hb5 hg5 hat5; have HAG5 := Lib.hid (show OwnH we w5 v5 ([] ++ L.map Prod.fst) ∧ Below we.heap.size we w5 ∧ Whole w5 we.heap.size 26 #[.bool fin, .int .i64 op, .slice A3 nf c3] from ⟨ho5, hb5, HWG.out.grown hg5 (by simp [Value.ownBlock])⟩); clear ho5 hb5 hg5 hat5)
                      | (refine apph_step (s := .tmp 85) (x := .tmp 87) HAG5.out.1 (C_box HAG5.out.2.2) HAG5.out.2.1 (by have := H15.out.2.2.2.2.2.2.2.1; have := HLN.out; simp only [List.nil_append]; omega) (by rfl) rfl rfl rfl ?_; intro v6 w6 ho6 hb6 hg6 hat6; obtain ⟨A6, c6, rfl, _, _⟩ := Kd.R_reads ho6; have H6 := Lib.hid (show OwnH we w6 _ _ ∧ Below we.heap.size we w6 from ⟨ho6, hb6⟩); have f3 := (H15.out.1.below hb6 H15.out.1.lt).free 3; have y3 := (H15.out.1.below hb6 H15.out.1.lt).cell 3 _ rfl; clear ho6 hb6 hg6 hat6)
                      | (trace_state; fail))
                    all_goals
                      go_wp2
                      go_meet
                      case rel => exact ⟨A6, _, c6, rfl, Lib.hid (RMid.more HE.out.1 H15.out.1 H15.out.2.1 H15.out.2.2.1 H15.out.2.2.2.1 H15.out.2.2.2.2.2.1 H15.out.2.2.2.2.2.2.1 H15.out.2.2.2.2.2.2.2.2.2.2.2.2 HC.out.2.2.1 H15.out.2.2.2.2.2.2.2.2.2.1 HC.out.2.1 HF2.out.2 HFW.out HC.out.2.2.2.2.2.2.2.2 (fun e => by have h1 := HE.out.1.2.2.1.ge gr e.symm; have := HC.out; omega) (by simpa using H6.out.1) H6.out.2)⟩
                  case rest => 
                    obtain ⟨Av, nv, cv, rfl, HM0⟩ := hcut
                    generalize wc = wf at HM0 ⊢
                    clear xA0 xA1 xA2 xA3 xB0 xB1 xB2 xB3 xG0 xG1 xG2 xG3 xd0 xd1 xd2 xd3 xe0 xe1 xe2 xe3 HBA HOA HBB HOB HWB HBG HOG HWG hlim HLN HFW HX H15
                    obtain ⟨J, hJ⟩ : ∃ J, J = joinOp c ⟨fin, op, fl⟩ := ⟨_, rfl⟩
                    have hPG := parts_G (fin := fin) (fl := fl) HOK.out.2.1 HO.out HGD.out
                    obtain ⟨G, hG⟩ : ∃ G, G = F ++ [⟨fin, op, fl⟩] := ⟨_, rfl⟩
                    rw [← hG, ← hJ] at hPG
                    have HM : Hid (RMid w0 w wf H gr g2 d G W1 gf fin op fl A3 nf c3) := by rw [hG]; exact HM0
                    obtain ⟨A9, n9, c9, vp9, hk9, _, _, _, hp9, _, _⟩ := id HM.out.1.1
                    obtain ⟨L2, hpr, hGL, hL2⟩ := id hp9
                    obtain ⟨Aq, cq, rfl, hcq, hcc⟩ := Kd.R_reads hpr
                    obtain ⟨nq, hnq⟩ : ∃ n, n = (L2.map Prod.fst).length := ⟨_, rfl⟩
                    rw [← hnq] at hk9 hpr hcq hcc
                    have hnG : nq = G.length := by rw [hnq, hGL, List.length_map, List.length_map]
                    have hbound : nq ≤ 1000000001 := by
                      have h1 := (HOK.out.2.1 HO.out).1
                      have h2 := HOK.out.2.2
                      rw [hnG, hG, List.length_append]
                      simp only [List.length_cons, List.length_nil]
                      omega
                    have HG := Lib.hid (show J = joinOp c ⟨fin, op, fl⟩ ∧ (∃ f0 r, G = f0 :: r ∧ f0.op = J ∧ J ≠ 0 ∧ (G.map Frm.load).flatten = c.load ++ fl) ∧ nq = G.length ∧ nq ≤ 1000000001 ∧ G.length = F.length + 1 from ⟨hJ, hPG, hnG, hbound, by rw [hG, List.length_append]; rfl⟩)
                    have HLL := Lib.hid (show Whole wf gr 68 #[.bool d.mask, .bool d.over, .slice A9 n9 c9, .slice Aq nq cq] ∧ Kd.C hdK wf Aq nq (L2.map Prod.fst) ∧ G = L2.map Prod.snd ∧ (∀ p ∈ L2, HdOk wf (fun k => H k ∨ k = g2) p.1 p.2) ∧ nq = (L2.map Prod.fst).length from ⟨hk9, hcc, hGL, hL2, hnq⟩)
                    have x3 := hk9.cell 3 _ rfl
                    clear hk9 hp9 hpr hGL hL2 hcq hcc hnq hnG hPG hJ hG HM0 hbound
                    go_wp2
                    go_loopw [7, 96] (fun lv iv wr => ∃ (k : Nat) (v : Value), v = lv ∧ iv = .int .i64 k ∧ k ≤ nq ∧ Hid (Own wf wr v ((G.take k).map Frm.load).flatten ∧ Below wf.heap.size wf wr)) (fun _ iv _ => nq - (intOf iv).toNat)
                    case atStart => exact ⟨0, _, rfl, rfl, by omega, Lib.hid ⟨Own.nil _ _, Below.refl _ _⟩⟩
                    case round =>
                      obtain ⟨k, v, rfl, rfl, hk, HV⟩ := hrel
                      clear x3
                      by_cases hkn : k < nq
                      · have dkn : decide ((k : Int) < nq) = true := decide_eq_true (by omega)
                        have dkn' : decide (k < nq) = true := decide_eq_true hkn
                        have wk : IntKind.i64.wrap ((k : Int) + 1) = k + 1 := wrap_id (by omega) (by have := HG.out.2.2.2.1; omega)
                        have ikn : (k : Int) < nq := by omega
                        have i0 : (0 : Int) ≤ k := by omega
                        have HK3 := Lib.hid hkn
                        obtain ⟨ad3, rfl, x0, x1, x2⟩ := HdC.at (Kd.C_below HLL.out.2.1 HV.out.2) k hkn
                        have hkl : k < L2.length := by have h := HLL.out.2.2.2.2; rw [List.length_map] at h; omega
                        have hmem := List.getElem_mem hkl
                        have hpk := HLL.out.2.2.2.1 _ hmem
                        have e1 : (L2.map Prod.fst).getD k Hd.none = L2[k].1 := by rw [List.getD_eq_getElem?_getD, List.getElem?_map, List.getElem?_eq_getElem hkl]; rfl
                        have e2 : G.getD k zeroF = L2[k].2 := by rw [HLL.out.2.2.1, List.getD_eq_getElem?_getD, List.getElem?_map, List.getElem?_eq_getElem hkl]; rfl
                        rw [e1] at x0 x1 x2
                        rw [← e2] at hpk
                        obtain ⟨hd, hhd⟩ : ∃ x, x = L2[k].1 := ⟨_, rfl⟩
                        rw [← hhd] at x0 x1 x2 hpk
                        obtain ⟨fk, ok, Ak, nk, ck⟩ := hd
                        dsimp only at x0 x1 x2
                        obtain ⟨lk, hlk⟩ : ∃ x, x = (G.getD k zeroF).load := ⟨_, rfl⟩
                        obtain ⟨_, _, hrk, _, _⟩ := hpk
                        dsimp only at hrk
                        rw [← hlk] at hrk
                        have hft := flat_take G k (by have := HG.out.2.2.1; omega)
                        rw [← hlk] at hft
                        have hpre := flat_pre G (k + 1)
                        obtain ⟨_, _, _, _, _, hT⟩ := HG.out.2.1
                        rw [hT, hft, List.length_append, List.length_append] at hpre
                        obtain ⟨pre, hprE⟩ : ∃ x, x = ((G.take k).map Frm.load).flatten := ⟨_, rfl⟩
                        rw [← hprE] at hft hpre
                        have hlen : pre.length + nk ≤ 100000 := by have h1 := HOK.out.1.2.1; have h2 := Kd.C_len hrk; have h3 := HK.out.2.1; have h4 := HNF.out; omega
                        obtain ⟨g9, hg9⟩ : ∃ g, g = wr.heap.size := ⟨_, rfl⟩
                        obtain ⟨W9, hW9⟩ : ∃ W, W = wr.alloc (.cells #[.bool fk, .int .i64 ok, .slice Ak nk ck] 26) := ⟨_, rfl⟩
                        have hb9 : Below wr.heap.size wr W9 := by rw [hW9]; exact below_alloc (Below.refl _ _) _
                        have hw9 : Whole W9 g9 26 #[.bool fk, .int .i64 ok, .slice Ak nk ck] := by rw [hW9, hg9]; exact Whole.new wr _ _
                        have HS9 := Lib.hid (show g9 = wr.heap.size ∧ W9 = wr.alloc _ from ⟨hg9, hW9⟩)
                        have H9 := Lib.hid (show Own wf W9 v pre ∧ Below wf.heap.size wf W9 ∧ Rd W9 Ak nk lk ∧ Whole W9 g9 26 #[.bool fk, .int .i64 ok, .slice Ak nk ck] ∧ ((G.take (k + 1)).map Frm.load).flatten = pre ++ lk ∧ pre.length + nk ≤ 100000 from ⟨by rw [hprE]; exact HV.out.1.below hb9, below_step HV.out.2 hb9, Kd.C_below hrk (below_step HV.out.2 hb9), hw9, hft, hlen⟩)
                        clear hkl hmem e1 e2 hhd hlk hrk hft hpre hT hprE hlen hg9 hW9 hb9 hw9 hkn hk
                        go_upto_region 20 with (fail)
                        rw [← HS9.out.1, ← HS9.out.2]
                        clear x0 x1 x2
                        have y2 := H9.out.2.2.2.1.cell 2 _ rfl
                        go_wp2_with (at_builtin; refine app_row H9.out.1 H9.out.2.2.1 H9.out.2.1 (by have := H9.out; omega) rfl rfl rfl rfl ?_)
                        intro v1 w1 ho1 hb1 hg1 hat1
                        have HN1 := Lib.hid (show Own wf w1 v1 ((G.take (k + 1)).map Frm.load).flatten ∧ Below wf.heap.size wf w1 from ⟨by rw [H9.out.2.2.2.2.1]; exact ho1, hb1⟩)
                        clear ho1 hb1 hg1 hat1 y2
                        go_wp2
                        go_roundw
                        case rel => exact ⟨k + 1, v1, rfl, by go_num, by have := HK3.out; omega, HN1⟩
                        case measure => have := HK3.out; simp [intOf]; omega
                      · obtain rfl : k = nq := by omega
                        have dkn : decide ((k : Int) < k) = false := decide_eq_false (by omega)
                        have dkn' : decide (k < k) = false := decide_eq_false (by omega)
                        clear hk
                        obtain ⟨T, hT⟩ : ∃ T, T = c.load ++ fl := ⟨_, rfl⟩
                        obtain ⟨nt, hnt⟩ : ∃ n, n = T.length := ⟨_, rfl⟩
                        have hTG : ((G.take k).map Frm.load).flatten = T := by
                          obtain ⟨_, _, _, _, _, h⟩ := HG.out.2.1
                          rw [List.take_of_length_le (by have := HG.out.2.2.1; omega), h, hT]
                        have ho := HV.out.1
                        rw [hTG] at ho
                        obtain ⟨At, ct, rfl, hct, hrt⟩ := ho.reads
                        rw [← hnt] at ho hct hrt ⊢
                        have HM2 := Lib.hid (HM.out.below HV.out.2)
                        have HT := Lib.hid (show Own wf wr (.slice At nt ct) T ∧ Rd wr At nt T ∧ T = c.load ++ fl ∧ nt = c.load.length + nf ∧ Bytes T ∧ (∀ ad, At = some ad → w.heap.size ≤ ad.block ∧ ad.block ≠ g2 ∧ ad.block ≠ gr ∧ ad.block < wr.heap.size) from ⟨ho, hrt, hT, by rw [hnt, hT, List.length_append, HNF.out], by rw [hT]; exact Bytes.app HOK.out.1.2.2.2.1 HK.out.1, fun ad he => by
                          have h1 := ho.ge ad.block (by rw [he]; rfl)
                          have h2 := ho.lt ad.block (by rw [he]; rfl)
                          have := HC.out
                          have := HM.out.2.2.2.2
                          exact ⟨by omega, by omega, by omega, h2⟩⟩)
                        have hld : d.load = c.load ∧ d.op = c.op ∧ d.over = c.over := by rw [HD.out]; exact ⟨rfl, rfl, rfl⟩
                        have HLD := Lib.hid hld
                        clear ho hct hrt hnt hTG hT hld
                        by_cases hlong : 16384 < nt
                        · have dl : decide (16384 < (nt : Int)) = true := decide_eq_true (by omega)
                          have dl' : decide (16384 < nt) = true := decide_eq_true hlong
                          have HR := Lib.hid (show nextW c = (failC { d with op := J }, some (failE 1009)) from by
                            rw [HD.out, HG.out.1]
                            exact nextW_part HO.out HRD.out H89.out.1 H89.out.2 (by unfold partV; rw [if_neg (by rw [HGD.out]; decide), if_pos (by show 16384 < c.load.length + fl.length; have := HT.out.2.2.2.1; have := HNF.out; omega)]; rfl))
                          clear hlong
                          go_wp2_with fail
                          refine (WsFailR_calls w0 _ (fun k => H k ∨ k = g2) gr d _ 1009 HM2.out.1.1 HM2.out.1.2.1).mono ?_
                          rintro e w5 he5
                          obtain ⟨F5, hF5⟩ := he5.2.1
                          have H5 := Lib.hid (show RefAt w0 w5 (fun k => H k ∨ k = g2) gr (failC d) F5 ∧ Keep1 w w5 gr ∧ Below w0.heap.size w0 w5 ∧ Whole w5 g2 51 ev0 from ⟨hF5, HM2.out.1.2.2.2.trans he5.2.2.1, he5.2.2.2, HM2.out.1.2.2.1.far (he5.2.2.1.2 g2 HM2.out.1.2.2.1.lt HC.out.2.1)⟩)
                          obtain rfl := he5.1
                          clear he5 hF5
                          go_wp2_with (refine gate_ (.store 51 (.tmp 2) (.tmp 110)) rfl ?_; refine store_whole rfl rfl rfl rfl rfl H5.out.2.2.2 rfl (by simp [Value.oneCell']) rfl (by kernel_rfl) ?_; intro w9 hk9 hb9 hf9 hg9)
                          refine bodyPost_ret (results_ct rfl _ _ g2 _ _ _ _ rfl hk9 Tryd.underlying51 rfl (by kernel_rfl)) rfl ?_
                          exact rtold (x := failE 1009) (ok := true) HR.out (show RefAt w0 w5 (fun k => H k ∨ k = g2) gr (failC { d with op := J }) F5 from H5.out.1) (RelF.fail _ _ _) (Rd.empty _ _) (fun _ h => (nomatch h)) H5.out.2.1 HC.out.1 HC.out.2.1 HC.out.2.2.1 (.inl ⟨rfl, rfl⟩) hf9 hg9.size (hb9 _ _ H5.out.2.2.1 HC.out.2.2.2.1)
                        · have dl : decide (16384 < (nt : Int)) = false := decide_eq_false (by omega)
                          have dl' : decide (16384 < nt) = false := decide_eq_false hlong
                          have HNL := Lib.hid (show nt ≤ 16384 by omega)
                          clear hlong
                          have x0 := HM2.out.2.1.cell 0 _ rfl
                          cases fin with
                          | false =>
                            have HP9 := Lib.hid (show partV d ⟨false, op, fl⟩ = ({ d with op := J, load := T }, none) from by
                              rw [HD.out, HG.out.1, HT.out.2.2.1]
                              unfold partV
                              rw [if_neg (by rw [HGD.out]; decide), if_neg (by show ¬ 16384 < c.load.length + fl.length; have := HT.out.2.2.2.1; have := HNF.out; have := HNL.out; omega), if_pos rfl]
                              rfl)
                            have HR := Lib.hid (show nextW c = nextW { d with op := J, load := T } from nextW_step HO.out HRD.out HOK.out.1.2.2.1 H89.out.1 H89.out.2 (by rw [← HD.out]; exact HP9.out))
                            have hdw : d.wait = c.wait.drop K := by rw [HD.out]
                            have hwl : d.wait.length < c.wait.length ∧ d.wait.length + 2 ≤ c.wait.length := by rw [hdw, List.length_drop]; have := HK.out; have := HW.out.2.2.2.2.2; omega
                            have hrelG : RelF M { d with op := J, load := T } G := fun _ => ⟨by
                              have h1 := (HOK.out.2.1 HO.out).1
                              have h2 := HG.out.2.2.2.2
                              show 2 * G.length + d.wait.length ≤ M
                              omega, by
                              obtain ⟨f0, r, h1, h2, h3, h4⟩ := HG.out.2.1
                              exact .inr ⟨f0, r, h1, h2.symm, h3, by rw [HT.out.2.2.1]; exact h4.symm⟩⟩
                            have hokd : CnOk { d with op := J, load := T } := ⟨by show d.wait.length ≤ 65536; have := HOK.out.1.1; omega, by show T.length ≤ 16384; rw [HT.out.2.2.1, List.length_append]; have := HT.out.2.2.2.1; have := HNF.out; have := HNL.out; omega, by show Bytes d.wait; rw [hdw]; exact HOK.out.1.2.2.1.dp K, HT.out.2.2.2.2.1, fun h => by have h : d.over = true := h; rw [HLD.out.2.2, HO.out] at h; cases h⟩
                            have HIN := Lib.hid (HIH.out wr (fun k => H k ∨ k = g2) { d with op := J, load := T } G hwl.1 HM2.out.1.1 hrelG hokd HM2.out.1.2.1 (fun k hk => HC.out.2.2.2.2.1 k (by have := HM2.out.2.2.2.2; omega)))
                            clear hdw hwl hrelG hokd
                            go_wp2_with fail
                            refine HIN.out.mono ?_
                            rintro e w5 ⟨A5, n5, c5, x5, ok5, F5, rfl, hs5, hr5, hb5, ha5, hf5, hk5, hB5⟩
                            obtain ⟨⟨cc5, y5⟩, hn5⟩ : ∃ r, r = nextW { d with op := J, load := T } := ⟨_, rfl⟩
                            rw [← hn5] at hs5 ha5 hf5
                            dsimp only at hs5 ha5 hf5
                            have HR5 := Lib.hid (show nextW c = (cc5, y5) from HR.out.trans hn5.symm)
                            have H5 := Lib.hid (show StepR y5 x5 ok5 ∧ Rd w5 A5 n5 x5.load ∧ (∀ ad, A5 = some ad → 0 < n5 → w.heap.size ≤ ad.block ∧ ad.block ≠ g2) ∧ RefAt w0 w5 (fun k => H k ∨ k = g2) gr cc5 F5 ∧ RelF M cc5 F5 ∧ Keep1 w w5 gr ∧ Below w0.heap.size w0 w5 ∧ Whole w5 g2 51 ev0 from ⟨hs5, hr5, fun ad he h0 => by have h1 := hb5 ad he h0; have := HC.out; have := HM2.out.2.2.2.2; exact ⟨by omega, by omega⟩, ha5, hf5, HM2.out.1.2.2.2.trans hk5, hB5, HM2.out.1.2.2.1.far (hk5.2 g2 HM2.out.1.2.2.1.lt HC.out.2.1)⟩)
                            clear hs5 hr5 hb5 ha5 hf5 hk5 hB5 hn5
                            go_wp2_with (refine gate_ (.store 51 (.tmp 2) (.tmp 117)) rfl ?_; refine store_whole rfl rfl rfl rfl rfl H5.out.2.2.2.2.2.2.2 rfl (by simp [Value.oneCell']) rfl (by kernel_rfl) ?_; intro w9 hk9 hb9 hf9 hg9)
                            refine bodyPost_ret (results_ct rfl _ _ g2 _ _ _ _ rfl hk9 Tryd.underlying51 rfl (by kernel_rfl)) rfl ?_
                            exact rtold (x := x5) (ok := ok5) HR5.out H5.out.2.2.2.1 H5.out.2.2.2.2.1 H5.out.2.1 H5.out.2.2.1 H5.out.2.2.2.2.2.1 HC.out.1 HC.out.2.1 HC.out.2.2.1 H5.out.1 hf9 hg9.size (hb9 _ _ H5.out.2.2.2.2.2.2.1 HC.out.2.2.2.1)
                          | true =>
                            have hg0 : 0 < k := by have h1 := HG.out.2.2.2.2; have h2 := HG.out.2.2.1; omega
                            obtain ⟨ad3, rfl, _, y1, _⟩ := HdC.at (Kd.C_below HLL.out.2.1 HV.out.2) 0 hg0
                            have hkl : 0 < L2.length := by have h := HLL.out.2.2.2.2; rw [List.length_map] at h; omega
                            have hpk := HLL.out.2.2.2.1 _ (List.getElem_mem hkl)
                            have e1 : (L2.map Prod.fst).getD 0 Hd.none = L2[0].1 := by rw [List.getD_eq_getElem?_getD, List.getElem?_map, List.getElem?_eq_getElem hkl]; rfl
                            have e2 : G.getD 0 zeroF = L2[0].2 := by rw [HLL.out.2.2.1, List.getD_eq_getElem?_getD, List.getElem?_map, List.getElem?_eq_getElem hkl]; rfl
                            have e3 : (G.getD 0 zeroF).op = J := by
                              obtain ⟨f0, r, h1, h2, _, _⟩ := HG.out.2.1
                              rw [h1]
                              exact h2
                            rw [e1, hpk.2.1, ← e2, e3, Nat.zero_mul, Addr.add_zero'] at y1
                            have x3 := (HLL.out.1.below HV.out.2 HLL.out.1.lt).cell 3 _ rfl
                            have f3 := (HLL.out.1.below HV.out.2 HLL.out.1.lt).free 3
                            have i1 : (0 : Int) < k := by omega
                            have HPV := Lib.hid (show partV d ⟨true, op, fl⟩ = (if J = 1 ∧ 0 ≤ charsOf T then (failC { d with op := 0, load := [] }, some (failE 1007)) else ({ d with op := 0, load := [] }, some ⟨J, 0, T, false⟩)) from by
                              rw [HD.out, HG.out.1, HT.out.2.2.1]
                              unfold partV
                              rw [if_neg (by rw [HGD.out]; decide), if_neg (by show ¬ 16384 < c.load.length + fl.length; have := HT.out.2.2.2.1; have := HNF.out; have := HNL.out; omega), if_neg (by show ¬ true = false; decide)]
                              rfl)
                            have HRL := Lib.hid (show RelF M { d with op := 0, load := [] } [] from fun _ => ⟨by
                              have h1 := (HOK.out.2.1 HO.out).1
                              have hdw : d.wait = c.wait.drop K := by rw [HD.out]
                              show 2 * 0 + d.wait.length ≤ M
                              rw [hdw, List.length_drop]
                              omega, .inl ⟨rfl, rfl, rfl⟩⟩)
                            clear hg0 hkl hpk e1 e2 e3
                            go_upto_region 28 with (fail)
                            have HY := Lib.hid (show RNext w0 w (wr.setCell ⟨gr, 3, none⟩ (.slice none 0 0)) H gr g2 d [] from ⟨HM2.out.1.1.drop, HM2.out.1.2.1.setCell (p := ⟨gr, 3, none⟩) HC.out.2.2.2.2.2.2.2.2 _, HM2.out.1.2.2.1.other (p := ⟨gr, 3, none⟩) (Ne.symm HC.out.2.1) _, HM2.out.1.2.2.2.trans ⟨by rw [World.size_setCell]; exact Nat.le_refl _, fun k _ hn => heap_far hn⟩⟩)
                            have HTY := Lib.hid (show Rd (wr.setCell ⟨gr, 3, none⟩ (.slice none 0 0)) At nt T from HT.out.2.1.same (fun ad he _ => heap_far (HT.out.2.2.2.2.2 ad he).2.2.1))
                            have HCT := Lib.hid (show nt ≤ ct from by
                              obtain ⟨_, c', hv, hc', _⟩ := HT.out.1.reads
                              injection hv with _ h2 h3
                              rw [h3, h2]
                              exact hc')
                            generalize wr.setCell ⟨gr, 3, none⟩ (.slice none 0 0) = wy at HY HTY ⊢
                            clear x0 x3 f3 y1 i1
                            obtain ⟨b1, hb1⟩ : ∃ b, (J == 1) = b := ⟨_, rfl⟩
                            cases b1 with
                            | false =>
                              have HJN := Lib.hid (show J ≠ 1 from by rw [← beq_eq_false_iff_ne]; exact hb1)
                              have HR := Lib.hid (show nextW c = ({ d with op := 0, load := [] }, some ⟨J, 0, T, false⟩) from by
                                rw [HD.out]
                                exact nextW_part HO.out HRD.out H89.out.1 H89.out.2 (by rw [← HD.out, HPV.out, if_neg (fun h => HJN.out h.1)]))
                              go_wp2_with (refine gate_ (.store 51 (.tmp 2) (.tmp 142)) rfl ?_; refine store_whole rfl rfl rfl rfl rfl HY.out.2.2.1 rfl (by simp [Value.oneCell']) rfl (by kernel_rfl) ?_; intro w9 hk9 hb9 hf9 hg9)
                              refine bodyPost_ret (results_ct rfl _ _ g2 _ _ _ _ rfl hk9 Tryd.underlying51 rfl (by kernel_rfl)) rfl ?_
                              exact rtold (x := ⟨J, 0, T, false⟩) (ok := true) (F := []) HR.out (show RefAt w0 _ (fun k => H k ∨ k = g2) gr { d with op := 0, load := [] } [] from HY.out.1) HRL.out HTY.out (fun ad he _ => ⟨(HT.out.2.2.2.2.2 ad he).1, (HT.out.2.2.2.2.2 ad he).2.1⟩) HY.out.2.2.2 HC.out.1 HC.out.2.1 HC.out.2.2.1 (.inl ⟨rfl, rfl⟩) hf9 hg9.size (hb9 _ _ HY.out.2.1 HC.out.2.2.2.1)
                            | true =>
                              have HJ1 := Lib.hid (show J = 1 from by simpa using hb1)
                              obtain ⟨ch, hch⟩ : ∃ ch, ch = charsOf T := ⟨_, rfl⟩
                              have HCH := Lib.hid hch
                              by_cases hc : 0 ≤ ch
                              · have HR := Lib.hid (show nextW c = (failC { d with op := 0, load := [] }, some (failE 1007)) from by
                                  rw [HD.out]
                                  exact nextW_part HO.out HRD.out H89.out.1 H89.out.2 (by rw [← HD.out, HPV.out, if_pos ⟨HJ1.out, by rw [← hch]; exact hc⟩]))
                                have d5 : decide (0 ≤ ch) = true := decide_eq_true hc
                                clear hc hch
                                go_wp2_with fail
                                refine (CharsRef_calls At ct T _ HTY.out HCT.out HT.out.2.2.2.2.1).mono ?_
                                rintro e w4 ⟨rfl, hb4⟩
                                have HY4 := Lib.hid (HY.out.below hb4)
                                have HTY4 := Lib.hid (Kd.C_below HTY.out hb4)
                                rw [← HCH.out]
                                clear hb4
                                go_wp2_with fail
                                refine (WsFailR_calls w0 _ (fun k => H k ∨ k = g2) gr d _ 1007 HY4.out.1 HY4.out.2.1).mono ?_
                                rintro e w5 he5
                                obtain ⟨F5, hF5⟩ := he5.2.1
                                have H5 := Lib.hid (show RefAt w0 w5 (fun k => H k ∨ k = g2) gr (failC d) F5 ∧ Keep1 w w5 gr ∧ Below w0.heap.size w0 w5 ∧ Whole w5 g2 51 ev0 from ⟨hF5, HY4.out.2.2.2.trans he5.2.2.1, he5.2.2.2, HY4.out.2.2.1.far (he5.2.2.1.2 g2 HY4.out.2.2.1.lt HC.out.2.1)⟩)
                                obtain rfl := he5.1
                                clear he5 hF5
                                go_wp2_with (refine gate_ (.store 51 (.tmp 2) (.tmp 138)) rfl ?_; refine store_whole rfl rfl rfl rfl rfl H5.out.2.2.2 rfl (by simp [Value.oneCell']) rfl (by kernel_rfl) ?_; intro w9 hk9 hb9 hf9 hg9)
                                refine bodyPost_ret (results_ct rfl _ _ g2 _ _ _ _ rfl hk9 Tryd.underlying51 rfl (by kernel_rfl)) rfl ?_
                                exact rtold (x := failE 1007) (ok := true) HR.out (show RefAt w0 w5 (fun k => H k ∨ k = g2) gr (failC { d with op := 0, load := [] }) F5 from H5.out.1) (RelF.fail _ _ _) (Rd.empty _ _) (fun _ h => (nomatch h)) H5.out.2.1 HC.out.1 HC.out.2.1 HC.out.2.2.1 (.inl ⟨rfl, rfl⟩) hf9 hg9.size (hb9 _ _ H5.out.2.2.1 HC.out.2.2.2.1)
                              · have HCN := Lib.hid (show ¬ 0 ≤ charsOf T from by rw [← hch]; exact hc)
                                have HR := Lib.hid (show nextW c = ({ d with op := 0, load := [] }, some ⟨J, 0, T, false⟩) from by
                                  rw [HD.out]
                                  exact nextW_part HO.out HRD.out H89.out.1 H89.out.2 (by rw [← HD.out, HPV.out, if_neg (fun h => HCN.out h.2)]))
                                have d5 : decide (0 ≤ ch) = false := decide_eq_false hc
                                clear hc hch
                                go_wp2_with fail
                                refine (CharsRef_calls At ct T _ HTY.out HCT.out HT.out.2.2.2.2.1).mono ?_
                                rintro e w4 ⟨rfl, hb4⟩
                                have HY4 := Lib.hid (HY.out.below hb4)
                                have HTY4 := Lib.hid (Kd.C_below HTY.out hb4)
                                rw [← HCH.out]
                                clear hb4
                                go_wp2_with (refine gate_ (.store 51 (.tmp 2) (.tmp 142)) rfl ?_; refine store_whole rfl rfl rfl rfl rfl HY4.out.2.2.1 rfl (by simp [Value.oneCell']) rfl (by kernel_rfl) ?_; intro w9 hk9 hb9 hf9 hg9)
                                refine bodyPost_ret (results_ct rfl _ _ g2 _ _ _ _ rfl hk9 Tryd.underlying51 rfl (by kernel_rfl)) rfl ?_
                                exact rtold (x := ⟨J, 0, T, false⟩) (ok := true) (F := []) HR.out (show RefAt w0 _ (fun k => H k ∨ k = g2) gr { d with op := 0, load := [] } [] from HY4.out.1) HRL.out HTY4.out (fun ad he _ => ⟨(HT.out.2.2.2.2.2 ad he).1, (HT.out.2.2.2.2.2 ad he).2.1⟩) HY4.out.2.2.2 HC.out.1 HC.out.2.1 HC.out.2.2.1 (.inl ⟨rfl, rfl⟩) hf9 hg9.size (hb9 _ _ HY4.out.2.1 HC.out.2.2.2.1)
        · have e1 : (why == 1) = false := by rw [beq_eq_false_iff_ne]; exact h1
          have e0 : (why != 0) = true := by rw [bne_iff_ne]; exact h0
          have HR := Lib.hid (show nextW c = (failC c, some (failE why)) from nextW_why HO.out HRD.out h1 h0)
          clear h1 h0
          go_wp2_with fail
          refine (WsFailR_calls w0 _ (fun k => H k ∨ k = g2) gr c _ why HN.out.1 HN.out.2.1).mono ?_
          rintro e w5 he5
          obtain ⟨F5, hF5⟩ := he5.2.1
          have H5 := Lib.hid (show RefAt w0 w5 (fun k => H k ∨ k = g2) gr (failC c) F5 ∧ Keep1 w w5 gr ∧ Below w0.heap.size w0 w5 ∧ Whole w5 g2 51 ev0 from ⟨hF5, HN.out.2.2.2.trans he5.2.2.1, he5.2.2.2, HN.out.2.2.1.far (he5.2.2.1.2 g2 HN.out.2.2.1.lt HC.out.2.1)⟩)
          obtain rfl := he5.1
          clear he5 hF5
          go_wp2_with (refine gate_ (.store 51 (.tmp 2) (.tmp 37)) rfl ?_; refine store_whole rfl rfl rfl rfl rfl H5.out.2.2.2 rfl (by simp [Value.oneCell']) rfl (by kernel_rfl) ?_; intro w9 hk9 hb9 hf9 hg9)
          refine bodyPost_ret (results_ct rfl _ _ g2 _ _ _ _ rfl hk9 Tryd.underlying51 rfl (by kernel_rfl)) rfl ?_
          exact rtold (x := failE why) (ok := true) HR.out H5.out.1 (RelF.fail _ _ _) (Rd.empty _ _) (fun _ h => (nomatch h)) H5.out.2.1 HC.out.1 HC.out.2.1 HC.out.2.2.1 (.inl ⟨rfl, rfl⟩) hf9 hg9.size (hb9 _ _ H5.out.2.2.1 HC.out.2.2.2.1)
end Go.Proofs.YtcfbfmgckaehdaaDoor
