/- Rows of rows of bytes of one's own, no two of which lie in one block. -/
import Derived.Test.YthbdgakeglppbaaApp
namespace Go.Proofs.Ythbdgakeglppbaa
open Go.RowKit Go.Proofs.YthbdgakeglppbaaW.PrintWords
theorem info_bytes : (Try.prog.info? 22).map (fun i => (i.zero, i.size, i.bytes)) = some (some (.slice none 0 0), 1, 24) := by kernel_rfl
abbrev OwnL (w0 w : World) (v : Value) (ls : List (List Int)) : Prop := Kd.S (Kd.slice 5 (Kd.int .u8)) 22 w w0.heap.size (fun _ => True) v ls
abbrev RdL (w : World) (A : Option Addr) (n : Nat) (ls : List (List Int)) : Prop := Kd.C (Kd.slice 5 (Kd.int .u8)) w A n ls
theorem OwnL.cast {w0 w : World} {v : Value} {l m : List (List Int)} (h : OwnL w0 w v l) (he : l = m) : OwnL w0 w v m := he ▸ h
theorem OwnL.nil (w0 w : World) : OwnL w0 w (.slice none 0 0) [] := Kd.S_nil _ _ _ _ _
theorem OwnL.reads {w0 w : World} {v : Value} {ls : List (List Int)} (h : OwnL w0 w v ls) : ∃ A c, v = .slice A ls.length c ∧ ls.length ≤ c ∧ RdL w A ls.length ls := Kd.S_reads h
theorem OwnL.below {w0 w w1 : World} {v : Value} {l : List (List Int)} (h : OwnL w0 w v l) (hb : Below w.heap.size w w1) : OwnL w0 w1 v l := Kd.S_below h hb
theorem OwnL.lower {w0 w1 w : World} {v : Value} {l : List (List Int)} (h : OwnL w1 w v l) (hs : w0.heap.size ≤ w1.heap.size) : OwnL w0 w v l := Kd.S_lower h hs
/-- A row of such a row, read. -/
theorem RdL.at {w : World} {A : Option Addr} {n : Nat} {ls : List (List Int)} (h : RdL w A n ls) (i : Nat) (hi : i < n) : ∃ ad Ai ci, A = some ad ∧ w.cell? (ad.add i) = some (.slice Ai (ls.getD i []).length ci) ∧ (ls.getD i []).length ≤ ci ∧ Rd w Ai (ls.getD i []).length (ls.getD i []) := by
  obtain ⟨ad, c, e, hcl, ⟨Ai, ci, rfl, hle, hr⟩, hc⟩ := ReadsRow.get_ h [] (i : Int) (by omega) (by omega)
  simp only [Int.toNat_natCast] at hle hr hc
  refine ⟨ad, Ai, ci, e, ?_, hle, hr⟩
  have := hc 0 _ rfl
  rwa [show i * (Kd.slice 5 (Kd.int .u8)).sz + 0 = i from Nat.mul_one i] at this
section
variable {ops : Array Oper} {rest : List Oper} {o : Oper} {a : Act} {Q : Exit → Act → World → Prop} {w0 w1 W : World} {s x : Operand} {v pv : Value} {ls : List (List Int)} {p : List Int}
theorem appl_one (h0 : w0.heap.size ≤ w1.heap.size) (hO : OwnL w0 w1 v ls) (hW : Below w1.heap.size w1 W) (hp : Own w1 W pv p) (hB : Below w0.heap.size w0 W) (hL : ls.length + 1 ≤ 5864062014805)
    (hgd : o.guard = none) (hop : o.op = .call { callee := .builtin .append, args := #[s, x], argTypes := #[45, 45] }) (hv : a.eval s = v) (hx : a.eval x = .slice (some ⟨W.heap.size, 0, none⟩) 1 1)
    (K : ∀ v1 w2, OwnL w0 w2 v1 (ls ++ [p]) → Below w0.heap.size w0 w2 → wpList Try.prog ops Q rest (a.put o.dst v1) w2) : wpList Try.prog ops Q (o :: rest) a (W.alloc (.cells #[pv] 22)) := by
  have hlt : ∀ k, v.ownBlock = some k → k < w1.heap.size := Kd.S_lt hO
  have h1 : Kd.S (Kd.slice 5 (Kd.int .u8)) 22 W w0.heap.size (fun k => True ∧ ¬ w1.heap.size ≤ k) v ls :=
    Kd.S_below (Kd.S_mono (Kd.S_bound hO) (fun k hk => ⟨trivial, by omega⟩)) hW |> fun h => h
  have hM : (Kd.slice 5 (Kd.int .u8)).M W w0.heap.size (fun k => w1.heap.size ≤ k) p [pv] :=
    ⟨pv, rfl, Kd.R_lower (Kd.R_mono (Kd.R_bound hp) (fun k hk => hk.2.1)) h0⟩
  exact Kd.S_append (Kd.slice 5 (Kd.int .u8)) (w0 := w0) w0.heap.size hgd s x 45 22 (.slice none 0 0) 24 hop Try.underlying45 info_bytes rfl (by decide) (by omega) v ls p [pv] (fun _ => True) (fun k => w1.heap.size ≤ k) hv hx hM (fun k hk => ⟨trivial, fun he => by have := hlt k he.symm; omega⟩) (fun _ _ => trivial) h1 hB hB.size (by omega) (fun v1 w2 h1 h2 _ _ => K v1 w2 h1 h2)
end
end Go.Proofs.Ythbdgakeglppbaa
