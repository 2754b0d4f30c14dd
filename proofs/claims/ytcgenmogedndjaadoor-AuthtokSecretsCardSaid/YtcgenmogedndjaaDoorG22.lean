/- The texts Sha1Ref in one. -/
import Derived.Test.YtcgenmogedndjaaDoorG02
import Derived.Test.YtcgenmogedndjaaDoorG20
import Derived.Test.YtcgenmogedndjaaDoorG21
namespace Go.Proofs.YtcgenmogedndjaaDoor
open Go.RowKit Go.Proofs.YtcgenmogedndjaaDoorW.PrintWords
theorem Blk.rowW {w : World} {g t : Nat} {l : List Int} (h : Blk w g t .u32 l) (hm : l.length ≤ 9223372036854775807) : RdW w (some ⟨g, 0, none⟩) l.length l := by
  refine Kd.C_of_reads (d := (0 : Int)) (h1 := fun _ => rfl) ⟨rfl, hm, fun _ => ⟨_, rfl, fun j hj => ?_⟩⟩
  rw [add_plain]
  have := h.cell j hj
  rw [this]
  simp [rd, hj]
theorem litw_nil {w0 W : World} (hB : Below w0.heap.size w0 W) : OwnW w0 (W.alloc (.cells #[] 103)) (.slice (some ⟨W.heap.size, 0, none⟩) 0 0) [] := R_laid W _ _ .u32 [] hB.size (by simp)
section
variable {ops : Array Oper} {rest : List Oper} {o : Oper} {a : Act} {Q : Exit → Act → World → Prop} {w0 W : World} {v : Value} {l ys : List Int} {A : Option Addr} {m c : Nat} {s x : Operand}
theorem appw_row (hO : OwnW w0 W v l) (hR : RdW W A m ys) (hB : Below w0.heap.size w0 W) (hL : l.length + m ≤ 35184372088832)
    (hgd : o.guard = none) (hop : o.op = .call { callee := .builtin .append, args := #[s, x], argTypes := #[105, 105] }) (hv : a.eval s = v) (hx : a.eval x = .slice A m c)
    (K : ∀ v1 w1, OwnW w0 w1 v1 (l ++ ys) → Below w0.heap.size w0 w1 → W.grownBy w1 v.ownBlock → (v1.ownBlock = v.ownBlock ∨ ∃ b, v1.ownBlock = some b ∧ W.heap.size ≤ b) → wpList Tryd.prog ops Q rest (a.put o.dst v1) w1) : wpList Tryd.prog ops Q (o :: rest) a W :=
  Kd.R_append_rows (Kd.int .u32) (w0 := w0) w0.heap.size hgd s x 105 103 (.int .u32 0) 4 hop Tryd.underlying105 info_u32 rfl (by decide) (by omega) v l ys A m c (fun _ => True) (fun _ => False) hv hx hO hR (fun _ _ h => h) (fun _ h => h.elim) (fun _ _ => trivial) hB hB.size (by omega) K
end
end Go.Proofs.YtcgenmogedndjaaDoor
