/- Rows of whole numbers of one's own. -/
import Derived.Test.YtfhnchabifklnaaDoorApp
namespace Go.Proofs.YtfhnchabifklnaaDoor
open Go.RowKit Go.Proofs.YtfhnchabifklnaaDoorW.PrintWords
theorem info_int : (Tryd.prog.info? 3).map (fun i => (i.zero, i.size, i.bytes)) = some (some (.int .i64 0), 1, 8) := by kernel_rfl
abbrev OwnI (w0 w : World) (v : Value) (l : List Int) : Prop := Kd.R (Kd.int .i64) 3 w w0.heap.size (fun _ => True) v l
abbrev RdI (w : World) (A : Option Addr) (n : Nat) (l : List Int) : Prop := Kd.C (Kd.int .i64) w A n l
theorem RdI.cells {w : World} {A : Option Addr} {n : Nat} {l : List Int} (h : RdI w A n l) (hn : 0 < n) : ∃ ad, A = some ad ∧ ∀ j, j < n → w.cell? (ad.add j) = some (.int .i64 (rd l j)) := by
  obtain ⟨ad, rfl, _⟩ := Kd.at_int h 0 (by omega) (by omega)
  refine ⟨ad, rfl, fun j hj => ?_⟩
  obtain ⟨ad', e, hx⟩ := Kd.at_int h j (by omega) (by omega)
  cases e
  exact hx
theorem OwnI.cast {w0 w : World} {v : Value} {l m : List Int} (h : OwnI w0 w v l) (he : l = m) : OwnI w0 w v m := he ▸ h
theorem OwnI.nil (w0 w : World) : OwnI w0 w (.slice none 0 0) [] := Kd.R_nil _ _ _ _ _
theorem OwnI.reads {w0 w : World} {v : Value} {l : List Int} (h : OwnI w0 w v l) : ∃ A c, v = .slice A l.length c ∧ l.length ≤ c ∧ RdI w A l.length l := by
  obtain ⟨A, c, rfl⟩ := Kd.R_slice h
  exact ⟨A, c, rfl, (Kd.R_reads' h).2.1, (Kd.R_reads' h).2.2⟩
theorem OwnI.below {w0 w w1 : World} {v : Value} {l : List Int} (h : OwnI w0 w v l) (hb : Below w.heap.size w w1) : OwnI w0 w1 v l := Kd.R_below h hb
section
variable {ops : Array Oper} {rest : List Oper} {o : Oper} {a : Act} {Q : Exit → Act → World → Prop} {w0 W : World} {s x : Operand} {v : Value} {l : List Int}
theorem appi_one {p : Int} (hO : OwnI w0 W v l) (hB : Below w0.heap.size w0 W) (hL : l.length + 1 ≤ 17592186044416)
    (hgd : o.guard = none) (hop : o.op = .call { callee := .builtin .append, args := #[s, x], argTypes := #[54, 54] }) (hv : a.eval s = v) (hx : a.eval x = .slice (some ⟨W.heap.size, 0, none⟩) 1 1)
    (K : ∀ v1 w1, OwnI w0 w1 v1 (l ++ [p]) → Below w0.heap.size w0 w1 → W.grownBy w1 v.ownBlock → (v1.ownBlock = v.ownBlock ∨ ∃ b, v1.ownBlock = some b ∧ W.heap.size ≤ b) → wpList Tryd.prog ops Q rest (a.put o.dst v1) w1) : wpList Tryd.prog ops Q (o :: rest) a (W.alloc (.cells #[.int .i64 p] 3)) :=
  Kd.R_append (Kd.int .i64) (w0 := w0) w0.heap.size hgd s x 54 3 (.int .i64 0) 8 hop Tryd.underlying54 info_int rfl (by decide) (by omega) v l p [.int .i64 p] (fun _ => True) (fun _ => False) hv hx rfl (fun _ hk => hk.elim) (fun _ _ => trivial) hO hB hB.size (by omega) K
end
end Go.Proofs.YtfhnchabifklnaaDoor
