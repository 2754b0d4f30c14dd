/- Common imports and small words for the walks of this seat. -/
import Derived.Test.YtfhnchabifklnaaDoorProg
import Derived.WalkKit
import Derived.RowKit3
import Derived.RowKit
import Derived.KernelRfl
import Derived.Outline
import Derived.Lib.Hide
import Derived.Deep.LoopGhost
import Derived.WalkLawsBesides
import Derived.WalkSpells
import Derived.Deep.QuietTactic
import Derived.BigQuiet
import Derived.Deep.RegionHeld3
import Derived.Deep.RegionWith
import Derived.StillTailTactics
import Derived.Test.YtfhnchabifklnaaDoorWWords
import Derived.Test.YtfhnchabifklnaaDoorWMore
namespace Go.Proofs.YtfhnchabifklnaaDoor
theorem ret_int {k : IntKind} {a b : Int} (h : a = b) : Ending.returned (.int k a) = .returned (.int k b) := by rw [h]
theorem ret_bool {a b : Bool} (h : a = b) : Ending.returned (.bool a) = .returned (.bool b) := by rw [h]
/-- A function iterated. -/
def iter {α : Type} (f : α → α) : Nat → α → α
  | 0, c => c
  | n + 1, c => iter f n (f c)
theorem iter_succ {α : Type} (f : α → α) (n : Nat) (c : α) : iter f (n + 1) c = f (iter f n c) := by
  induction n generalizing c with
  | zero => rfl
  | succ n ih => rw [iter, ih]; rfl
/-- Every number of a list is a byte. -/
def Bytes (l : List Int) : Prop := ∀ x ∈ l, 0 ≤ x ∧ x < 256
open Go.Proofs.YtfhnchabifklnaaDoorW.PrintWords in
theorem rd_get (l : List Int) (k : Nat) (hk : k < l.length) : rd l k = l[k] := by
  unfold rd
  simp [List.getD_eq_getElem?_getD, hk]
open Go.Proofs.YtfhnchabifklnaaDoorW.PrintWords in
theorem bytes_rd {l : List Int} (h : Bytes l) (k : Nat) (hk : k < l.length) : 0 ≤ rd l k ∧ rd l k < 256 := by
  rw [rd_get l k hk]
  exact h _ (List.getElem_mem hk)
open Go.Proofs.YtfhnchabifklnaaDoorW.PrintWords in
/-- A literal of the call's own, just laid. -/
theorem R_laid (W : World) (base : Nat) (e : TypeId) (k : IntKind) (xs : List Int) (hb : base ≤ W.heap.size) (hm : xs.length ≤ 9223372036854775807) :
    (Kd.int k).R e (W.alloc (.cells (nums k xs).toArray e)) base (fun _ => True) (.slice (some ⟨W.heap.size, 0, none⟩) xs.length xs.length) xs :=
  Kd.R_of_own (own_lit W base e k xs hb hm) (fun _ _ => trivial)
open Go.Proofs.YtfhnchabifklnaaDoorW.PrintWords in
/-- A row of bytes that lies in a block, whatever mark it bears, reads. -/
theorem C_const (W : World) (e : TypeId) (xs : List Int) (fr : Nat × Nat) (hm : xs.length ≤ 9223372036854775807) :
    (Kd.int .u8).C (W.alloc (.cells (nums .u8 xs).toArray e fr)) (some ⟨W.heap.size, 0, none⟩) xs.length xs := by
  refine Kd.C_of_reads (d := (0 : Int)) (h1 := fun _ => rfl) ⟨rfl, hm, fun _ => ⟨_, rfl, fun j hj => ?_⟩⟩
  rw [add_plain]
  have : (W.alloc (.cells (nums .u8 xs).toArray e fr)).heap[W.heap.size]? = some (.cells (nums .u8 xs).toArray e fr) := by
    show (W.heap.push _)[W.heap.size]? = _
    simp
  unfold World.cell?
  rw [this]
  simp [nums, List.getD_eq_getElem?_getD, hj]
end Go.Proofs.YtfhnchabifklnaaDoor
