/- Arrays of words that lie in a block of their own. -/
import Derived.Test.YtfhnchabifklnaaDoorQuietTail
import Derived.Test.YtfhnchabifklnaaDoorWords
namespace Go.Proofs.YtfhnchabifklnaaDoor
open Go.RowKit Go.Proofs.YtfhnchabifklnaaDoorW.PrintWords
/-- The block g holds these words. -/
def Blk (w : World) (g : Nat) (t : TypeId) (k : IntKind) (l : List Int) : Prop := w.heap[g]? = some (.cells (nums k l).toArray t (0, 0))
theorem Blk.below {w w1 : World} {g t B : Nat} {k : IntKind} {l : List Int} (h : Blk w g t k l) (hb : Below B w w1) (hg : g < B) : Blk w1 g t k l := by
  unfold Blk at *
  rw [hb.block g hg, h]
theorem Blk.lt {w : World} {g t : Nat} {k : IntKind} {l : List Int} (h : Blk w g t k l) : g < w.heap.size := by
  have := (Array.getElem?_eq_some_iff.1 h).1
  exact this
theorem Blk.new (w : World) (t : Nat) (k : IntKind) (l : List Int) : Blk (w.alloc (.cells (nums k l).toArray t (0, 0))) w.heap.size t k l := by
  show (w.heap.push _)[w.heap.size]? = _
  simp
theorem Blk.cell {w : World} {g t : Nat} {k : IntKind} {l : List Int} (h : Blk w g t k l) (i : Nat) (hi : i < l.length) : w.cell? ⟨g, i, none⟩ = some (.int k (rd l i)) := by
  unfold World.cell?
  rw [h]
  simp [nums, rd, List.getD_eq_getElem?_getD, hi]
theorem Blk.drew {w : World} {g t : Nat} {k : IntKind} {l : List Int} (h : Blk w g t k l) (n : Nat) : Blk (w.drewN n) g t k l := h
theorem Blk.set {w : World} {g t : Nat} {k : IntKind} {l : List Int} (h : Blk w g t k l) (i : Nat) (_hi : i < l.length) (x : Int) : Blk (w.setCell ⟨g, i, none⟩ (.int k x)) g t k (l.set i x) := by
  have hm : (nums k l).toArray.setIfInBounds i (.int k x) = (nums k (l.set i x)).toArray := by
    apply Array.ext'
    simp [nums, List.map_set]
  unfold Blk at *
  unfold World.setCell
  show (w.heap.modify g _)[g]? = _
  rw [Array.getElem?_modify, if_pos rfl, h]
  simp only [Option.map_some, hm]
  rfl
theorem Blk.far {w : World} {g t : Nat} {k : IntKind} {l : List Int} (h : Blk w g t k l) {p : Addr} (hp : g ≠ p.block) (v : Value) : Blk (w.setCell p v) g t k l := by
  unfold Blk at *
  rw [Below.heap_setCell w p v g hp, h]
theorem Blk.free {w : World} {g t : Nat} {k : IntKind} {l : List Int} (h : Blk w g t k l) (i : Nat) : w.frozen? ⟨g, i, none⟩ = false := by
  unfold World.frozen?
  rw [h]
  simp
/-- Both facts of a cell that a store asks for. -/
theorem Blk.both {w : World} {g t : Nat} {k : IntKind} {l : List Int} (h : Blk w g t k l) (i : Nat) (hi : i < l.length) : w.cell? ⟨g, i, none⟩ = some (.int k (rd l i)) ∧ w.frozen? ⟨g, i, none⟩ = false := ⟨h.cell i hi, h.free i⟩
end Go.Proofs.YtfhnchabifklnaaDoor
