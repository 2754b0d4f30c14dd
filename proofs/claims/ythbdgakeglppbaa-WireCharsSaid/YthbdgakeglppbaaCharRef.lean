/- blotterref01.char: the form of a character's number. -/
import Derived.Test.YthbdgakeglppbaaChars
namespace Go.Proofs.Ythbdgakeglppbaa
open Go.RowKit Go.Proofs.YthbdgakeglppbaaW.PrintWords
def charForm (n : Int) : List Int :=
  if n < 128 then [n] else if n < 2048 then [192 + n / 64, 128 + n % 64] else if n < 65536 then [224 + n / 4096, 128 + n / 64 % 64, 128 + n % 64]
  else [240 + n / 262144, 128 + n / 4096 % 64, 128 + n / 64 % 64, 128 + n % 64]
theorem char_calls (n : Int) (w : World) (h0 : 0 ≤ n) (h1 : n ≤ 1114111) :
    Calls Try.prog 66 #[.int .i64 n] w fun e w' => ∃ v0_ : Value, e = .returned (v0_) ∧ Own w w' v0_ (charForm n) ∧ Below w.heap.size w w' := by
  by_cases c1 : n < 128
  · have d1 : decide (n < 128) = true := decide_eq_true c1
    have HF := Lib.hid (show [n] = charForm n from (if_pos c1).symm)
    go_enter Try.func66, Try.ntmps66
    go_wp2
    go_ret
    exact ⟨_, rfl, (lit_one (Below.refl _ _) n).cast HF.out, below_alloc (Below.refl _ _) _⟩
  have d1 : decide (n < 128) = false := decide_eq_false c1
  by_cases c2 : n < 2048
  · have d2 : decide (n < 2048) = true := decide_eq_true c2
    have HF := Lib.hid (show [192 + n / 64, 128 + n % 64] = charForm n from ((if_neg c1).trans (if_pos c2)).symm)
    go_enter Try.func66, Try.ntmps66
    go_wp2
    go_ret
    exact ⟨_, rfl, (lit_two (Below.refl _ _) _ _).cast HF.out, below_alloc (Below.refl _ _) _⟩
  have d2 : decide (n < 2048) = false := decide_eq_false c2
  by_cases c3 : n < 65536
  · have d3 : decide (n < 65536) = true := decide_eq_true c3
    have HF := Lib.hid (show [224 + n / 4096, 128 + n / 64 % 64, 128 + n % 64] = charForm n from ((if_neg c1).trans ((if_neg c2).trans (if_pos c3))).symm)
    go_enter Try.func66, Try.ntmps66
    go_wp2
    go_ret
    exact ⟨_, rfl, (lit_three (Below.refl _ _) _ _ _).cast HF.out, below_alloc (Below.refl _ _) _⟩
  have d3 : decide (n < 65536) = false := decide_eq_false c3
  have HF := Lib.hid (show [240 + n / 262144, 128 + n / 4096 % 64, 128 + n / 64 % 64, 128 + n % 64] = charForm n from ((if_neg c1).trans ((if_neg c2).trans (if_neg c3))).symm)
  go_enter Try.func66, Try.ntmps66
  go_wp2
  go_ret
  exact ⟨_, rfl, (lit_four (Below.refl _ _) _ _ _ _).cast HF.out, below_alloc (Below.refl _ _) _⟩
end Go.Proofs.Ythbdgakeglppbaa
