/- Bounds of whole numbers, out of their kinds. -/
import Derived.Test.YthbdgakeglppbaaBase
namespace Go.Proofs.Ythbdgakeglppbaa
theorem int_wf {x : Int} (h : (Lit.int .i64 x).wf = true) : -9223372036854775808 ≤ x ∧ x ≤ 9223372036854775807 := by
  simp [Lit.wf, IntKind.min, IntKind.max, IntKind.signed, IntKind.bits] at h
  omega
end Go.Proofs.Ythbdgakeglppbaa
