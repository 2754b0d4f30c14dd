/- The texts Rows2, WsEvs, WsRefConn in one. -/
import Derived.Test.YtcfbfmgckaehdaaDoorG01
import Derived.Test.YtcfbfmgckaehdaaDoorG20
import Derived.Test.YtcfbfmgckaehdaaDoorG22
namespace Go.Proofs.YtcfbfmgckaehdaaDoor
open Go.RowKit Go.Proofs.YtcfbfmgckaehdaaDoorW.PrintWords
abbrev OwnL (w0 w : World) (v : Value) (ls : List (List Int)) : Prop := Kd.S (Kd.slice 5 (Kd.int .u8)) 22 w w0.heap.size (fun _ => True) v ls
abbrev RdL (w : World) (A : Option Addr) (n : Nat) (ls : List (List Int)) : Prop := Kd.C (Kd.slice 5 (Kd.int .u8)) w A n ls
theorem OwnL.cast {w0 w : World} {v : Value} {l m : List (List Int)} (h : OwnL w0 w v l) (he : l = m) : OwnL w0 w v m := he ▸ h
theorem OwnL.nil (w0 w : World) : OwnL w0 w (.slice none 0 0) [] := Kd.S_nil _ _ _ _ _
theorem OwnL.reads {w0 w : World} {v : Value} {ls : List (List Int)} (h : OwnL w0 w v ls) : ∃ A c, v = .slice A ls.length c ∧ ls.length ≤ c ∧ RdL w A ls.length ls := Kd.S_reads h
theorem OwnL.below {w0 w w1 : World} {v : Value} {l : List (List Int)} (h : OwnL w0 w v l) (hb : Below w.heap.size w w1) : OwnL w0 w1 v l := Kd.S_below h hb
theorem OwnL.lower {w0 w1 w : World} {v : Value} {l : List (List Int)} (h : OwnL w1 w v l) (hs : w0.heap.size ≤ w1.heap.size) : OwnL w0 w v l := Kd.S_lower h hs
/-- A row of such a row, read. -/
theorem RdL.at {w : World} {A : Option Addr} {n : Nat} {ls : List (List Int)} (h : RdL w A n ls) (i : Nat) (hi : i < n) : ∃ ad Ai ci, A = some ad ∧ w.cell? (ad.add i) = some (.slice Ai (ls.getD i []).length ci) ∧ (ls.getD i []).length ≤ ci ∧ Rd w Ai (ls.getD i []).length (ls.getD i []) := by
  obtain ⟨ad, c, e, hcl, ⟨Ai, ci, rfl, hle, hr⟩, hc⟩ := ReadsRow.get_ h [] (i : Int) (by omega) (by omega)
  simp only [Int.toNat_natCast] at hle hr hc
  refine ⟨ad, Ai, ci, e, ?_, hle, hr⟩
  have := hc 0 _ rfl
  rwa [show i * (Kd.slice 5 (Kd.int .u8)).sz + 0 = i from Nat.mul_one i] at this
section
variable {ops : Array Oper} {rest : List Oper} {o : Oper} {a : Act} {Q : Exit → Act → World → Prop} {w0 w1 W : World} {s x : Operand} {v pv : Value} {ls : List (List Int)} {p : List Int}
end
end Go.Proofs.YtcfbfmgckaehdaaDoor
namespace Go.Proofs.YtcfbfmgckaehdaaDoor
open Go.RowKit Go.Proofs.YtcfbfmgckaehdaaDoorW.PrintWords
def Evt.none : Evt := ⟨0, 0, [], false⟩
def evK : Kd Evt := Kd.iso (Kd.pair (Kd.int .i64) (Kd.pair (Kd.int .i64) (Kd.pair (Kd.slice 5 (Kd.int .u8)) Kd.bool))) (fun x : Evt => (x.op, x.code, x.load, x.bad))
abbrev RdE (w : World) (A : Option Addr) (n : Nat) (L : List Evt) : Prop := Kd.C evK w A n L
/-- A row of events of one's own, none of it where an end lies. -/
def OwnE (w0 w : World) (g : Nat) (vw vl v : Value) (L : List Evt) : Prop := Kd.R evK 51 w w0.heap.size (fun k => ¬ Foot g vw vl k) v L
theorem OwnE.nil (w0 w : World) (g : Nat) (vw vl : Value) : OwnE w0 w g vw vl (.slice none 0 0) [] := Kd.R_nil _ _ _ _ _
theorem OwnE.below {w0 w w1 : World} {g : Nat} {vw vl v : Value} {L : List Evt} (h : OwnE w0 w g vw vl v L) (hb : Below w.heap.size w w1) : OwnE w0 w1 g vw vl v L := Kd.R_below h hb
theorem OwnE.lower {w0 w00 w : World} {g : Nat} {vw vl v : Value} {L : List Evt} (h : OwnE w0 w g vw vl v L) (hs : w00.heap.size ≤ w0.heap.size) : OwnE w00 w g vw vl v L := Kd.R_lower h hs
theorem OwnE.reads {w0 w : World} {g : Nat} {vw vl v : Value} {L : List Evt} (h : OwnE w0 w g vw vl v L) : ∃ A c, v = .slice A L.length c ∧ L.length ≤ c ∧ RdE w A L.length L := Kd.R_reads h
theorem RdE.at {w : World} {A : Option Addr} {n : Nat} {L : List Evt} (h : RdE w A n L) (i : Nat) (hi : i < n) : ∃ ad Ai ci, A = some ad ∧ w.cell? (ad.add (i * 4)) = some (.int .i64 (L.getD i Evt.none).op) ∧
    w.cell? ⟨(ad.add (i * 4)).block, (ad.add (i * 4)).off + 1, none⟩ = some (.int .i64 (L.getD i Evt.none).code) ∧ w.cell? ⟨(ad.add (i * 4)).block, (ad.add (i * 4)).off + 2, none⟩ = some (.slice Ai (L.getD i Evt.none).load.length ci) ∧
    w.cell? ⟨(ad.add (i * 4)).block, (ad.add (i * 4)).off + 3, none⟩ = some (.bool (L.getD i Evt.none).bad) ∧ (L.getD i Evt.none).load.length ≤ ci ∧ Rd w Ai (L.getD i Evt.none).load.length (L.getD i Evt.none).load := by
  obtain ⟨ad, c, e, _, hK, hc0⟩ := Kd.C_get h Evt.none (i : Int) (by omega) (by omega)
  simp only [Int.toNat_natCast] at hK hc0
  have hc : ∀ j u, c[j]? = some u → w.cell? (ad.add (i * 4 + j)) = some u := hc0
  obtain ⟨_, _, rfl, rfl, ⟨_, _, rfl, rfl, ⟨_, _, rfl, ⟨Ai, ci, rfl, l1, g1⟩, rfl⟩⟩⟩ := hK
  exact ⟨ad, Ai, ci, e, hc 0 _ rfl, by rw [← add_field _ _ 1 (by omega)]; exact hc 1 _ rfl, by rw [← add_field _ _ 2 (by omega)]; exact hc 2 _ rfl, by rw [← add_field _ _ 3 (by omega)]; exact hc 3 _ rfl, l1, g1⟩
section
variable {ops : Array Oper} {rest : List Oper} {o : Oper} {a : Act} {Q : Exit → Act → World → Prop} {w0 W : World} {s x : Operand} {g : Nat} {vw vl v pv : Value} {L : List Evt} {p : Evt}
end
end Go.Proofs.YtcfbfmgckaehdaaDoor
namespace Go.Proofs.YtcfbfmgckaehdaaDoor
open Go.RowKit Go.Proofs.YtcfbfmgckaehdaaDoorW.PrintWords
/-- A frame's cells: fin, op, the slice of its load. -/
abbrev Hd : Type := Bool × Int × (Option Addr × Nat × Nat)
def hdK : Kd Hd := Kd.pair Kd.bool (Kd.pair (Kd.int .i64) (Kd.scalar (fun q : Option Addr × Nat × Nat => .slice q.1 q.2.1 q.2.2) (fun _ => rfl)))
/-- Cells that are a frame's, whose load lies in no block of H. -/
def HdOk (W : World) (H : Nat → Prop) (h : Hd) (f : Frm) : Prop :=
  h.1 = f.fin ∧ h.2.1 = f.op ∧ Rd W h.2.2.1 h.2.2.2.1 f.load ∧ h.2.2.2.1 ≤ h.2.2.2.2 ∧ (∀ ad, h.2.2.1 = some ad → 0 < h.2.2.2.1 → ¬ H ad.block ∧ ad.block < W.heap.size)
/-- The parts: a row of one's own, whose loads are read. -/
def PartsAt (w0 W : World) (H : Nat → Prop) (vp : Value) (F : List Frm) : Prop :=
  ∃ L : List (Hd × Frm), Kd.R hdK 26 W w0.heap.size (fun k => ¬ H k) vp (L.map Prod.fst) ∧ F = L.map Prod.snd ∧ ∀ p ∈ L, HdOk W H p.1 p.2
/-- What the reference keeps of a message that has begun. -/
def RelF (M : Nat) (c : Cn) (F : List Frm) : Prop := c.over = false → 2 * F.length + c.wait.length ≤ M ∧ ((F = [] ∧ c.op = 0 ∧ c.load = []) ∨ (∃ f r, F = f :: r ∧ c.op = f.op ∧ c.op ≠ 0 ∧ c.load = (F.map Frm.load).flatten))
/-- The reference's end: its struct, what waits (a row that is read), the parts. H: the blocks in which none of it lies. -/
def RefAt (w0 W : World) (H : Nat → Prop) (gr : Nat) (c : Cn) (F : List Frm) : Prop :=
  ∃ (A : Option Addr) (n cb : Nat) (vp : Value), Whole W gr 68 #[.bool c.mask, .bool c.over, .slice A n cb, vp] ∧ Rd W A n c.wait ∧ n ≤ cb ∧ (∀ ad, A = some ad → 0 < n → ¬ H ad.block ∧ ad.block < W.heap.size) ∧ PartsAt w0 W H vp F ∧ H gr ∧ w0.heap.size ≤ gr
theorem cell_same {w w1 : World} {p : Addr} (h : w1.heap[p.block]? = w.heap[p.block]?) : w1.cell? p = w.cell? p := by
  unfold World.cell?
  rw [h]
theorem Rd.same {w w1 : World} {A : Option Addr} {n : Nat} {l : List Int} (h : Rd w A n l) (hs : ∀ ad, A = some ad → 0 < n → w1.heap[ad.block]? = w.heap[ad.block]?) : Rd w1 A n l := by
  rcases Nat.eq_zero_or_pos n with h0 | h0
  · subst h0
    obtain rfl := List.eq_nil_of_length_eq_zero (Kd.C_len h)
    exact Rd.empty _ _
  · obtain ⟨ad, rfl, hc⟩ := Rd.cells h h0
    exact Rd.mk (Kd.C_len h) (Kd.C_max h) (fun j hj => by rw [cell_same (w := w) (w1 := w1) (p := ad.add j) (by rw [show (ad.add j).block = ad.block from by unfold Addr.add; split <;> rfl]; exact hs ad rfl h0)]; exact hc j hj)
theorem PartsAt.move {w0 W w1 : World} {H H2 : Nat → Prop} {vp : Value} {F : List Frm} (h : PartsAt w0 W H vp F) (hs : W.heap.size ≤ w1.heap.size) (hm : ∀ k, k < W.heap.size → ¬ H k → w1.heap[k]? = W.heap[k]?) (hH : ∀ k, k < W.heap.size → ¬ H k → ¬ H2 k) : PartsAt w0 w1 H2 vp F := by
  obtain ⟨L, hp, hF, hL⟩ := h
  refine ⟨L, Kd.R_mono (Kd.R_step (Kd.R_bound hp) (fun k hk hlt => hm k hlt hk.1)) (fun k hk => hH k hk.2.2.1 hk.1), hF, fun p hpL => ?_⟩
  obtain ⟨h1, h2, h3, h4, h5⟩ := hL p hpL
  exact ⟨h1, h2, h3.same (fun ad he h0 => hm _ (h5 ad he h0).2 (h5 ad he h0).1), h4, fun ad he h0 => ⟨hH _ (h5 ad he h0).2 (h5 ad he h0).1, Nat.lt_of_lt_of_le (h5 ad he h0).2 hs⟩⟩
theorem PartsAt.keep {w0 W w1 : World} {H : Nat → Prop} {gr : Nat} {vp : Value} {F : List Frm} (h : PartsAt w0 W H vp F) (hk : W.heap.size ≤ w1.heap.size ∧ ∀ k, k < W.heap.size → k ≠ gr → w1.heap[k]? = W.heap[k]?) (hg : H gr) : PartsAt w0 w1 H vp F :=
  h.move hk.1 (fun k hlt hn => hk.2 k hlt (fun e => hn (e ▸ hg))) (fun _ _ h => h)
theorem RefAt.move {w0 W w1 : World} {H H2 : Nat → Prop} {gr : Nat} {c : Cn} {F : List Frm} (h : RefAt w0 W H gr c F) (hs : W.heap.size ≤ w1.heap.size) (hm : ∀ k, k < W.heap.size → (k = gr ∨ ¬ H k) → w1.heap[k]? = W.heap[k]?) (hH : ∀ k, k < W.heap.size → ¬ H k → ¬ H2 k) (hg : H2 gr) : RefAt w0 w1 H2 gr c F := by
  obtain ⟨A, n, cb, vp, hk, hr, hc, ha, hp, _, hb⟩ := h
  refine ⟨A, n, cb, vp, hk.far (hm gr hk.lt (.inl rfl)), hr.same (fun ad he h0 => hm _ (ha ad he h0).2 (.inr (ha ad he h0).1)), hc, fun ad he h0 => ⟨hH _ (ha ad he h0).2 (ha ad he h0).1, Nat.lt_of_lt_of_le (ha ad he h0).2 hs⟩, ?_, hg, hb⟩
  exact hp.move hs (fun k hk hn => hm k hk (.inr hn)) hH
theorem RefAt.below {w0 W w1 : World} {H : Nat → Prop} {gr : Nat} {c : Cn} {F : List Frm} (h : RefAt w0 W H gr c F) (hb : Below W.heap.size W w1) : RefAt w0 w1 H gr c F :=
  h.move hb.size (fun k hk _ => hb.block k hk) (fun _ _ h => h) (by obtain ⟨_, _, _, _, _, _, _, _, _, hg, _⟩ := h; exact hg)
theorem RefAt.gr {w0 W : World} {H : Nat → Prop} {gr : Nat} {c : Cn} {F : List Frm} (h : RefAt w0 W H gr c F) : H gr ∧ gr < W.heap.size ∧ w0.heap.size ≤ gr := by
  obtain ⟨_, _, _, _, hk, _, _, _, _, hg, hb⟩ := h
  exact ⟨hg, hk.lt, hb⟩
/-- A block of the call's own is set apart, and given back. -/
theorem RefAt.set {w0 W w1 : World} {H : Nat → Prop} {gr g4 : Nat} {c : Cn} {F : List Frm} (h : RefAt w0 W H gr c F) (hb : Below W.heap.size W w1) (hg : W.heap.size ≤ g4) : RefAt w0 w1 (fun k => H k ∨ k = g4) gr c F :=
  h.move hb.size (fun k hk _ => hb.block k hk) (fun k hk hn h => h.elim hn (fun e => by omega)) (.inl h.gr.1)
theorem RefAt.unset {w0 W w1 : World} {H : Nat → Prop} {gr g4 : Nat} {c : Cn} {F : List Frm} (h : RefAt w0 W (fun k => H k ∨ k = g4) gr c F) (hf : ∀ k, k ≠ g4 → w1.heap[k]? = W.heap[k]?) (hs : W.heap.size ≤ w1.heap.size) (hgg : g4 ≠ gr) (hH : H gr) : RefAt w0 w1 H gr c F :=
  h.move hs (fun k _ ho => hf k (ho.elim (fun h1 e => hgg (e.symm.trans h1)) (fun h1 e => h1 (.inr e)))) (fun _ _ hn h => hn (.inl h)) hH
/-- What a call on the reference's end leaves. -/
def Keep1 (W w1 : World) (gr : Nat) : Prop := W.heap.size ≤ w1.heap.size ∧ ∀ k, k < W.heap.size → k ≠ gr → w1.heap[k]? = W.heap[k]?
theorem Keep1.of_below {W w1 : World} {gr : Nat} (h : Below W.heap.size W w1) : Keep1 W w1 gr := ⟨h.size, fun k hk _ => h.block k hk⟩
theorem Keep1.trans {W w1 w2 : World} {gr : Nat} (h : Keep1 W w1 gr) (h2 : Keep1 w1 w2 gr) : Keep1 W w2 gr :=
  ⟨Nat.le_trans h.1 h2.1, fun k hk hn => (h2.2 k (Nat.lt_of_lt_of_le hk h.1) hn).trans (h.2 k hk hn)⟩
/-- An event is told by the reference's end. -/
def RefStep (M : Nat) (w0 W : World) (H : Nat → Prop) (gr : Nat) (r : Cn × Option Evt) (e : Ending) (w1 : World) : Prop :=
  ∃ (A : Option Addr) (n cb : Nat) (x : Evt) (ok : Bool) (F : List Frm), e = .returned (.tuple #[.agg #[.int .i64 x.op, .int .i64 x.code, .slice A n cb, .bool x.bad], .bool ok]) ∧ StepR r.2 x ok ∧ Rd w1 A n x.load ∧ (∀ ad, A = some ad → 0 < n → W.heap.size ≤ ad.block) ∧ RefAt w0 w1 H gr r.1 F ∧ RelF M r.1 F ∧ Keep1 W w1 gr ∧ Below w0.heap.size w0 w1
/-- What end leaves. -/
def EndR (w0 W : World) (H : Nat → Prop) (gr : Nat) (c : Cn) (op code : Int) (v : Value) (bad : Bool) (e : Ending) (w1 : World) : Prop :=
  e = .returned (.tuple #[.agg #[.int .i64 op, .int .i64 code, v, .bool bad], .bool true]) ∧ (∃ F, RefAt w0 w1 H gr (failC c) F) ∧ Keep1 W w1 gr ∧ Below w0.heap.size w0 w1
/-- Seen from outside, behind the store of the result. -/
theorem EndR.own {w0 w W1 w2 w9 : World} {H : Nat → Prop} {gr g4 : Nat} {c : Cn} {op code : Int} {v : Value} {bad : Bool} {e e2 : Ending} (h : EndR w0 W1 (fun k => H k ∨ k = g4) gr c op code v bad e2 w2) (he : e = .returned (.tuple #[.agg #[.int .i64 op, .int .i64 code, v, .bool bad], .bool true])) (hb : Keep1 w W1 gr) (hg : w.heap.size ≤ g4) (hgg : g4 ≠ gr) (hH : H gr) (hf : ∀ k, k ≠ g4 → w9.heap[k]? = w2.heap[k]?) (hs : w2.heap.size ≤ w9.heap.size) (hB : Below w0.heap.size w0 w9) : EndR w0 w H gr c op code v bad e w9 := by
  obtain ⟨_, ⟨F, hF⟩, hk, _⟩ := h
  have h2 := hb.trans hk
  exact ⟨he, ⟨F, hF.unset hf hs hgg hH⟩, ⟨Nat.le_trans h2.1 hs, fun k hk hn => (hf k (by omega)).trans (h2.2 k hk hn)⟩, hB⟩
theorem RelF.fail (M : Nat) (c : Cn) (F : List Frm) : RelF M (failC c) F := fun h => by cases h
set_option maxRecDepth 20000 in
set_option maxHeartbeats 1600000 in
theorem WsEnd_calls (w0 w : World) (H : Nat → Prop) (gr : Nat) (c : Cn) (F : List Frm) (op code : Int) (A : Option Addr) (n cb : Nat) (bad : Bool) (h : RefAt w0 w H gr c F) (hB : Below w0.heap.size w0 w) :
    Calls Tryd.prog 59 #[.pointer (some ⟨gr, 0, none⟩), .agg #[.int .i64 op, .int .i64 code, .slice A n cb, .bool bad]] w (EndR w0 w H gr c op code (.slice A n cb) bad) := by
  obtain ⟨g3, hg3⟩ : ∃ g, g = w.heap.size := ⟨_, rfl⟩
  obtain ⟨g4, hg4⟩ : ∃ g, g = g3 + 1 := ⟨_, rfl⟩
  obtain ⟨W0, hW0⟩ : ∃ W, W = w.alloc (.cells #[.int .i64 op, .int .i64 code, .slice A n cb, .bool bad] 51) := ⟨_, rfl⟩
  obtain ⟨W1, hW1⟩ : ∃ W, W = W0.alloc (.cells #[.int .i64 0, .int .i64 0, .slice none 0 0, .bool false] 51) := ⟨_, rfl⟩
  have z0 : W0.heap.size = g4 := by rw [hW0, size_alloc, hg4, hg3]
  have b0 : Below w.heap.size w W0 := by rw [hW0]; exact below_alloc (Below.refl _ _) _
  have b01 : Below W0.heap.size W0 W1 := by rw [hW1]; exact below_alloc (Below.refl _ _) _
  have b1 := below_step b0 b01
  have k3' : Whole W0 g3 51 #[.int .i64 op, .int .i64 code, .slice A n cb, .bool bad] := by rw [hW0, hg3]; exact Whole.new w _ _
  have k3 := k3'.below b01 k3'.lt
  have k4 : Whole W1 g4 51 ev0 := by rw [hW1, ← z0]; exact Whole.new W0 _ _
  obtain ⟨Aw, nw, cw, vp, hk, hr, hc, ha, hp, hH, hg⟩ := h
  have hlt := hk.lt
  have HS := Lib.hid (show g3 = w.heap.size ∧ W0 = w.alloc _ ∧ g4 = g3 + 1 ∧ W1 = W0.alloc _ from ⟨hg3, hW0, hg4, hW1⟩)
  have H1 := Lib.hid (show Below w.heap.size w W1 ∧ Below w0.heap.size w0 W1 ∧ Whole W1 gr 68 #[.bool c.mask, .bool c.over, .slice Aw nw cw, vp] ∧ Whole W1 g3 51 #[.int .i64 op, .int .i64 code, .slice A n cb, .bool bad] ∧ Whole W1 g4 51 ev0 ∧ g3 ≠ gr ∧ g4 ≠ gr ∧ g3 ≠ g4 ∧ w0.heap.size ≤ gr ∧ w0.heap.size ≤ g4 ∧ w.heap.size ≤ g4 ∧ H gr ∧ PartsAt w0 w H vp F from
    ⟨b1, below_step hB b1, hk.below b1 hlt, k3, k4, by omega, by omega, by omega, hg, by have := hB.size; omega, by omega, hH, hp⟩)
  clear z0 b0 b01 b1 k3' k3 k4 hk hr hc ha hp hH hg hlt hg3 hg4 hW0 hW1 hB
  have x1 := H1.out.2.2.1.cell 1 _ rfl
  have f1 := H1.out.2.2.1.free 1
  have x2 := H1.out.2.2.1.cell 2 _ rfl
  have f2 := H1.out.2.2.1.free 2
  go_enter Tryd.func59, Tryd.ntmps59
  go_upto_region 1 with (fail)
  rw [← HS.out.1, ← HS.out.2.1, ← HS.out.2.2.1, ← HS.out.2.2.2]
  go_upto_region 3 with (fail)
  have H2 := Lib.hid (show Whole ((W1.setCell ⟨gr, 1, none⟩ (.bool true)).setCell ⟨gr, 2, none⟩ (.slice none 0 0)) gr 68 #[.bool c.mask, .bool true, .slice none 0 0, vp] ∧ Whole ((W1.setCell ⟨gr, 1, none⟩ (.bool true)).setCell ⟨gr, 2, none⟩ (.slice none 0 0)) g3 51 #[.int .i64 op, .int .i64 code, .slice A n cb, .bool bad] ∧ Whole ((W1.setCell ⟨gr, 1, none⟩ (.bool true)).setCell ⟨gr, 2, none⟩ (.slice none 0 0)) g4 51 ev0 ∧ Below w0.heap.size w0 ((W1.setCell ⟨gr, 1, none⟩ (.bool true)).setCell ⟨gr, 2, none⟩ (.slice none 0 0)) ∧ Keep1 w ((W1.setCell ⟨gr, 1, none⟩ (.bool true)).setCell ⟨gr, 2, none⟩ (.slice none 0 0)) gr from
    ⟨(H1.out.2.2.1.set 1 _).set 2 _, (H1.out.2.2.2.1.other (p := ⟨gr, 1, none⟩) (Ne.symm H1.out.2.2.2.2.2.1) _).other (p := ⟨gr, 2, none⟩) (Ne.symm H1.out.2.2.2.2.2.1) _, (H1.out.2.2.2.2.1.other (p := ⟨gr, 1, none⟩) (Ne.symm H1.out.2.2.2.2.2.2.1) _).other (p := ⟨gr, 2, none⟩) (Ne.symm H1.out.2.2.2.2.2.2.1) _, (H1.out.2.1.setCell (p := ⟨gr, 1, none⟩) H1.out.2.2.2.2.2.2.2.2.1 _).setCell (p := ⟨gr, 2, none⟩) H1.out.2.2.2.2.2.2.2.2.1 _, ⟨by rw [World.size_setCell, World.size_setCell]; exact H1.out.1.size, fun k hk hn => by rw [heap_far hn, heap_far hn]; exact H1.out.1.block k hk⟩⟩)
  generalize (W1.setCell ⟨gr, 1, none⟩ (.bool true)).setCell ⟨gr, 2, none⟩ (.slice none 0 0) = W2 at H2 ⊢
  clear x1 f1 x2 f2
  have y0 := H2.out.2.1.cell 0 _ rfl
  have y1 := H2.out.2.1.cell 1 _ rfl
  have y2 := H2.out.2.1.cell 2 _ rfl
  have y3 := H2.out.2.1.cell 3 _ rfl
  go_wp2_with (refine gate_ (.store 51 (.tmp 4) (.tmp 12)) rfl ?_; refine store_whole rfl rfl rfl rfl rfl H2.out.2.2.1 rfl (by simp [Value.oneCell']) rfl (by kernel_rfl) ?_; intro w9 hk9 hb9 hf9 hg9)
  refine bodyPost_ret (results_ct rfl _ _ g4 _ _ _ _ rfl hk9 Tryd.underlying51 rfl (by kernel_rfl)) rfl ?_
  have hw4 := H1.out.2.2.2.2.2.2.2.2.2.2.1
  have hkeep : Keep1 w w9 gr := ⟨Nat.le_trans H2.out.2.2.2.2.1 hg9.size, fun k hk hn => (hf9 k (by omega)).trans (H2.out.2.2.2.2.2 k hk hn)⟩
  exact ⟨rfl, ⟨F, none, 0, 0, vp, H2.out.1.far (hf9 gr (Ne.symm H1.out.2.2.2.2.2.2.1)), Rd.empty _ _, Nat.le_refl _, fun ad he _ => (nomatch he), H1.out.2.2.2.2.2.2.2.2.2.2.2.2.keep hkeep H1.out.2.2.2.2.2.2.2.2.2.2.2.1, H1.out.2.2.2.2.2.2.2.2.2.2.2.1, H1.out.2.2.2.2.2.2.2.2.1⟩, hkeep, hb9 _ _ H2.out.2.2.2.1 H1.out.2.2.2.2.2.2.2.2.2.1⟩
set_option maxHeartbeats 1600000 in
theorem WsFailR_calls (w0 w : World) (H : Nat → Prop) (gr : Nat) (c : Cn) (F : List Frm) (code : Int) (h : RefAt w0 w H gr c F) (hB : Below w0.heap.size w0 w) :
    Calls Tryd.prog 53 #[.pointer (some ⟨gr, 0, none⟩), .int .i64 code] w (EndR w0 w H gr c 0 code (.slice none 0 0) true) := by
  obtain ⟨g4, hg4⟩ : ∃ g, g = w.heap.size := ⟨_, rfl⟩
  obtain ⟨W1, hW1⟩ : ∃ W, W = w.alloc (.cells #[.int .i64 0, .int .i64 0, .slice none 0 0, .bool false] 51) := ⟨_, rfl⟩
  have b1 : Below w.heap.size w W1 := by rw [hW1]; exact below_alloc (Below.refl _ _) _
  have k4 : Whole W1 g4 51 ev0 := by rw [hW1, hg4]; exact Whole.new w _ _
  have hgr : gr < w.heap.size := by obtain ⟨_, _, _, _, hk, _⟩ := h; exact hk.lt
  have HS := Lib.hid (show g4 = w.heap.size ∧ W1 = w.alloc _ from ⟨hg4, hW1⟩)
  have H1 := Lib.hid (show Below w.heap.size w W1 ∧ Below w0.heap.size w0 W1 ∧ RefAt w0 W1 (fun k => H k ∨ k = g4) gr c F ∧ Whole W1 g4 51 ev0 ∧ g4 ≠ gr ∧ w.heap.size ≤ g4 ∧ w0.heap.size ≤ g4 ∧ H gr from ⟨b1, below_step hB b1, h.set b1 (by omega), k4, by omega, by omega, by have := hB.size; omega, h.gr.1⟩)
  clear b1 k4 hgr hg4 hW1 h hB
  go_enter Tryd.func53, Tryd.ntmps53
  go_upto_region 1 with (fail)
  rw [← HS.out.1, ← HS.out.2]
  go_wp2_with fail
  refine (WsEnd_calls w0 _ (fun k => H k ∨ k = g4) gr c F 0 code none 0 0 true H1.out.2.2.1 H1.out.2.1).mono ?_
  rintro e w2 he2
  have H2 := Lib.hid (show EndR w0 W1 (fun k => H k ∨ k = g4) gr c 0 code (.slice none 0 0) true e w2 ∧ Below w0.heap.size w0 w2 ∧ Whole w2 g4 51 ev0 from ⟨he2, he2.2.2.2, H1.out.2.2.2.1.far (he2.2.2.1.2 g4 H1.out.2.2.2.1.lt H1.out.2.2.2.2.1)⟩)
  obtain rfl := he2.1
  clear he2
  go_wp2_with (refine gate_ (.store 51 (.tmp 4) (.tmp 10)) rfl ?_; refine store_whole rfl rfl rfl rfl rfl H2.out.2.2 rfl (by simp [Value.oneCell']) rfl (by kernel_rfl) ?_; intro w9 hk9 hb9 hf9 hg9)
  refine bodyPost_ret (results_ct rfl _ _ g4 _ _ _ _ rfl hk9 Tryd.underlying51 rfl (by kernel_rfl)) rfl ?_
  exact EndR.own H2.out.1 rfl (Keep1.of_below H1.out.1) H1.out.2.2.2.2.2.1 H1.out.2.2.2.2.1 H1.out.2.2.2.2.2.2.2 hf9 hg9.size (hb9 _ _ H2.out.2.1 H1.out.2.2.2.2.2.2.1)
end Go.Proofs.YtcfbfmgckaehdaaDoor
