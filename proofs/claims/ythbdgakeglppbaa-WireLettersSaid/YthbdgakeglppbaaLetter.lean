/- blotterref01.letter: a number's letter. -/
import Derived.Test.YthbdgakeglppbaaSix
namespace Go.Proofs.Ythbdgakeglppbaa
open Go.RowKit Go.Proofs.YthbdgakeglppbaaW.PrintWords
/-- The letters, in their order. -/
def alphaS : ByteArray := ⟨#[65, 66, 67, 68, 69, 70, 71, 72, 73, 74, 75, 76, 77, 78, 79, 80, 81, 82, 83, 84, 85, 86, 87, 88, 89, 90, 97, 98, 99, 100, 101, 102, 103, 104, 105, 106, 107, 108, 109, 110, 111, 112, 113, 114, 115, 116, 117, 118, 119, 120, 121, 122, 48, 49, 50, 51, 52, 53, 54, 55, 56, 57, 45, 95]⟩
def alpha (n : Int) : Int := bt alphaS n
theorem letter_calls (n : Int) (w : World) (h0 : 0 ≤ n) (h1 : n < 64) :
    Calls Try.prog 60 #[.int .i64 n] w fun e w' => e = .returned (.int .u8 (alpha n)) ∧ Drawn0 w w' := by
  go_enter Try.func60, Try.ntmps60
  go_wp2
  go_ret
  exact ⟨congrArg (fun x => Ending.returned (Value.int .u8 x)) (bt_at alphaS n (by show n.toNat < 64; omega)), Drawn0.refl _⟩
theorem six_alpha : ∀ n : Fin 64, sixOf (alpha (n.val : Int)) = n.val ∧ 0 ≤ alpha (n.val : Int) ∧ alpha (n.val : Int) < 256 := by decide +kernel
theorem alpha_six : ∀ c : Fin 256, 0 ≤ sixOf (c.val : Int) → alpha (sixOf (c.val : Int)) = c.val ∧ sixOf (c.val : Int) < 64 := by decide +kernel
theorem sixOf_alpha (n : Int) (h0 : 0 ≤ n) (h1 : n < 64) : sixOf (alpha n) = n ∧ 0 ≤ alpha n ∧ alpha n < 256 := by
  have h := six_alpha ⟨n.toNat, by omega⟩
  simp only [Int.toNat_of_nonneg h0] at h
  exact h
theorem alpha_sixOf (c : Int) (h0 : 0 ≤ c) (h1 : c < 256) (h : 0 ≤ sixOf c) : alpha (sixOf c) = c ∧ sixOf c < 64 := by
  have k := alpha_six ⟨c.toNat, by omega⟩
  simp only [Int.toNat_of_nonneg h0] at k
  exact k h
end Go.Proofs.Ythbdgakeglppbaa
