/- wire.long: how many bytes a character has that begins with a byte. -/
import Derived.Test.YthbdgakeglppbaaApp
namespace Go.Proofs.Ythbdgakeglppbaa
open Go.RowKit Go.Proofs.YthbdgakeglppbaaW.PrintWords
/-- How many bytes, and the least and the greatest second one. -/
def longOf (c : Int) : Int × Int × Int :=
  if c < 128 then (1, 128, 191) else if c < 194 then (0, 0, 0) else if c < 224 then (2, 128, 191) else if c = 224 then (3, 160, 191) else if c = 237 then (3, 128, 159)
  else if c < 240 then (3, 128, 191) else if c = 240 then (4, 144, 191) else if c < 244 then (4, 128, 191) else if c = 244 then (4, 128, 143) else (0, 0, 0)
theorem long_0 (c : Int) (w : World) (h0 : 0 ≤ c) (h1 : c ≤ 127) :
    Calls Try.prog 57 #[.int .u8 c] w fun e w' => e = .returned (.tuple #[.int .i64 1, .int .u8 128, .int .u8 191]) ∧ Drawn0 w w' := by
  have d0 : decide (c < 128) = true := decide_eq_true (by omega)
  have d1 : decide (194 ≤ c) = false := decide_eq_false (by omega)
  have d2 : decide (c ≤ 223) = true := decide_eq_true (by omega)
  have d3 : (c == 224) = false := beq_eq_false_iff_ne.2 (by omega)
  have d4 : (c == 237) = false := beq_eq_false_iff_ne.2 (by omega)
  have d5 : decide (225 ≤ c) = false := decide_eq_false (by omega)
  have d6 : decide (c ≤ 239) = true := decide_eq_true (by omega)
  have d7 : (c == 240) = false := beq_eq_false_iff_ne.2 (by omega)
  have d8 : (c == 244) = false := beq_eq_false_iff_ne.2 (by omega)
  have d9 : decide (241 ≤ c) = false := decide_eq_false (by omega)
  have d10 : decide (c ≤ 243) = true := decide_eq_true (by omega)
  go_enter Try.func57, Try.ntmps57
  go_wp2
  go_ret3
  exact ⟨rfl, Drawn0.refl _⟩
theorem long_1 (c : Int) (w : World) (h0 : 128 ≤ c) (h1 : c ≤ 193) :
    Calls Try.prog 57 #[.int .u8 c] w fun e w' => e = .returned (.tuple #[.int .i64 0, .int .u8 0, .int .u8 0]) ∧ Drawn0 w w' := by
  have d0 : decide (c < 128) = false := decide_eq_false (by omega)
  have d1 : decide (194 ≤ c) = false := decide_eq_false (by omega)
  have d2 : decide (c ≤ 223) = true := decide_eq_true (by omega)
  have d3 : (c == 224) = false := beq_eq_false_iff_ne.2 (by omega)
  have d4 : (c == 237) = false := beq_eq_false_iff_ne.2 (by omega)
  have d5 : decide (225 ≤ c) = false := decide_eq_false (by omega)
  have d6 : decide (c ≤ 239) = true := decide_eq_true (by omega)
  have d7 : (c == 240) = false := beq_eq_false_iff_ne.2 (by omega)
  have d8 : (c == 244) = false := beq_eq_false_iff_ne.2 (by omega)
  have d9 : decide (241 ≤ c) = false := decide_eq_false (by omega)
  have d10 : decide (c ≤ 243) = true := decide_eq_true (by omega)
  go_enter Try.func57, Try.ntmps57
  go_wp2
  go_ret3
  exact ⟨rfl, Drawn0.refl _⟩
theorem long_2 (c : Int) (w : World) (h0 : 194 ≤ c) (h1 : c ≤ 223) :
    Calls Try.prog 57 #[.int .u8 c] w fun e w' => e = .returned (.tuple #[.int .i64 2, .int .u8 128, .int .u8 191]) ∧ Drawn0 w w' := by
  have d0 : decide (c < 128) = false := decide_eq_false (by omega)
  have d1 : decide (194 ≤ c) = true := decide_eq_true (by omega)
  have d2 : decide (c ≤ 223) = true := decide_eq_true (by omega)
  have d3 : (c == 224) = false := beq_eq_false_iff_ne.2 (by omega)
  have d4 : (c == 237) = false := beq_eq_false_iff_ne.2 (by omega)
  have d5 : decide (225 ≤ c) = false := decide_eq_false (by omega)
  have d6 : decide (c ≤ 239) = true := decide_eq_true (by omega)
  have d7 : (c == 240) = false := beq_eq_false_iff_ne.2 (by omega)
  have d8 : (c == 244) = false := beq_eq_false_iff_ne.2 (by omega)
  have d9 : decide (241 ≤ c) = false := decide_eq_false (by omega)
  have d10 : decide (c ≤ 243) = true := decide_eq_true (by omega)
  go_enter Try.func57, Try.ntmps57
  go_wp2
  go_ret3
  exact ⟨rfl, Drawn0.refl _⟩
theorem long_3 (c : Int) (w : World) (h0 : c = 224) :
    Calls Try.prog 57 #[.int .u8 c] w fun e w' => e = .returned (.tuple #[.int .i64 3, .int .u8 160, .int .u8 191]) ∧ Drawn0 w w' := by
  subst h0
  go_enter Try.func57, Try.ntmps57
  go_wp2
  go_ret3
  exact ⟨rfl, Drawn0.refl _⟩
theorem long_4 (c : Int) (w : World) (h0 : 225 ≤ c) (h1 : c ≤ 236) :
    Calls Try.prog 57 #[.int .u8 c] w fun e w' => e = .returned (.tuple #[.int .i64 3, .int .u8 128, .int .u8 191]) ∧ Drawn0 w w' := by
  have d0 : decide (c < 128) = false := decide_eq_false (by omega)
  have d1 : decide (194 ≤ c) = true := decide_eq_true (by omega)
  have d2 : decide (c ≤ 223) = false := decide_eq_false (by omega)
  have d3 : (c == 224) = false := beq_eq_false_iff_ne.2 (by omega)
  have d4 : (c == 237) = false := beq_eq_false_iff_ne.2 (by omega)
  have d5 : decide (225 ≤ c) = true := decide_eq_true (by omega)
  have d6 : decide (c ≤ 239) = true := decide_eq_true (by omega)
  have d7 : (c == 240) = false := beq_eq_false_iff_ne.2 (by omega)
  have d8 : (c == 244) = false := beq_eq_false_iff_ne.2 (by omega)
  have d9 : decide (241 ≤ c) = false := decide_eq_false (by omega)
  have d10 : decide (c ≤ 243) = true := decide_eq_true (by omega)
  go_enter Try.func57, Try.ntmps57
  go_wp2
  go_ret3
  exact ⟨rfl, Drawn0.refl _⟩
theorem long_5 (c : Int) (w : World) (h0 : c = 237) :
    Calls Try.prog 57 #[.int .u8 c] w fun e w' => e = .returned (.tuple #[.int .i64 3, .int .u8 128, .int .u8 159]) ∧ Drawn0 w w' := by
  subst h0
  go_enter Try.func57, Try.ntmps57
  go_wp2
  go_ret3
  exact ⟨rfl, Drawn0.refl _⟩
theorem long_6 (c : Int) (w : World) (h0 : 238 ≤ c) (h1 : c ≤ 239) :
    Calls Try.prog 57 #[.int .u8 c] w fun e w' => e = .returned (.tuple #[.int .i64 3, .int .u8 128, .int .u8 191]) ∧ Drawn0 w w' := by
  have d0 : decide (c < 128) = false := decide_eq_false (by omega)
  have d1 : decide (194 ≤ c) = true := decide_eq_true (by omega)
  have d2 : decide (c ≤ 223) = false := decide_eq_false (by omega)
  have d3 : (c == 224) = false := beq_eq_false_iff_ne.2 (by omega)
  have d4 : (c == 237) = false := beq_eq_false_iff_ne.2 (by omega)
  have d5 : decide (225 ≤ c) = true := decide_eq_true (by omega)
  have d6 : decide (c ≤ 239) = true := decide_eq_true (by omega)
  have d7 : (c == 240) = false := beq_eq_false_iff_ne.2 (by omega)
  have d8 : (c == 244) = false := beq_eq_false_iff_ne.2 (by omega)
  have d9 : decide (241 ≤ c) = false := decide_eq_false (by omega)
  have d10 : decide (c ≤ 243) = true := decide_eq_true (by omega)
  go_enter Try.func57, Try.ntmps57
  go_wp2
  go_ret3
  exact ⟨rfl, Drawn0.refl _⟩
theorem long_7 (c : Int) (w : World) (h0 : c = 240) :
    Calls Try.prog 57 #[.int .u8 c] w fun e w' => e = .returned (.tuple #[.int .i64 4, .int .u8 144, .int .u8 191]) ∧ Drawn0 w w' := by
  subst h0
  go_enter Try.func57, Try.ntmps57
  go_wp2
  go_ret3
  exact ⟨rfl, Drawn0.refl _⟩
theorem long_8 (c : Int) (w : World) (h0 : 241 ≤ c) (h1 : c ≤ 243) :
    Calls Try.prog 57 #[.int .u8 c] w fun e w' => e = .returned (.tuple #[.int .i64 4, .int .u8 128, .int .u8 191]) ∧ Drawn0 w w' := by
  have d0 : decide (c < 128) = false := decide_eq_false (by omega)
  have d1 : decide (194 ≤ c) = true := decide_eq_true (by omega)
  have d2 : decide (c ≤ 223) = false := decide_eq_false (by omega)
  have d3 : (c == 224) = false := beq_eq_false_iff_ne.2 (by omega)
  have d4 : (c == 237) = false := beq_eq_false_iff_ne.2 (by omega)
  have d5 : decide (225 ≤ c) = true := decide_eq_true (by omega)
  have d6 : decide (c ≤ 239) = false := decide_eq_false (by omega)
  have d7 : (c == 240) = false := beq_eq_false_iff_ne.2 (by omega)
  have d8 : (c == 244) = false := beq_eq_false_iff_ne.2 (by omega)
  have d9 : decide (241 ≤ c) = true := decide_eq_true (by omega)
  have d10 : decide (c ≤ 243) = true := decide_eq_true (by omega)
  go_enter Try.func57, Try.ntmps57
  go_wp2
  go_ret3
  exact ⟨rfl, Drawn0.refl _⟩
theorem long_9 (c : Int) (w : World) (h0 : c = 244) :
    Calls Try.prog 57 #[.int .u8 c] w fun e w' => e = .returned (.tuple #[.int .i64 4, .int .u8 128, .int .u8 143]) ∧ Drawn0 w w' := by
  subst h0
  go_enter Try.func57, Try.ntmps57
  go_wp2
  go_ret3
  exact ⟨rfl, Drawn0.refl _⟩
theorem long_10 (c : Int) (w : World) (h0 : 245 ≤ c) (h1 : c ≤ 255) :
    Calls Try.prog 57 #[.int .u8 c] w fun e w' => e = .returned (.tuple #[.int .i64 0, .int .u8 0, .int .u8 0]) ∧ Drawn0 w w' := by
  have d0 : decide (c < 128) = false := decide_eq_false (by omega)
  have d1 : decide (194 ≤ c) = true := decide_eq_true (by omega)
  have d2 : decide (c ≤ 223) = false := decide_eq_false (by omega)
  have d3 : (c == 224) = false := beq_eq_false_iff_ne.2 (by omega)
  have d4 : (c == 237) = false := beq_eq_false_iff_ne.2 (by omega)
  have d5 : decide (225 ≤ c) = true := decide_eq_true (by omega)
  have d6 : decide (c ≤ 239) = false := decide_eq_false (by omega)
  have d7 : (c == 240) = false := beq_eq_false_iff_ne.2 (by omega)
  have d8 : (c == 244) = false := beq_eq_false_iff_ne.2 (by omega)
  have d9 : decide (241 ≤ c) = true := decide_eq_true (by omega)
  have d10 : decide (c ≤ 243) = false := decide_eq_false (by omega)
  go_enter Try.func57, Try.ntmps57
  go_wp2
  go_ret3
  exact ⟨rfl, Drawn0.refl _⟩
theorem long_calls (c : Int) (w : World) (h0 : 0 ≤ c) (h1 : c < 256) :
    Calls Try.prog 57 #[.int .u8 c] w fun e w' => e = .returned (.tuple #[.int .i64 (longOf c).1, .int .u8 (longOf c).2.1, .int .u8 (longOf c).2.2]) ∧ Drawn0 w w' := by
  unfold longOf
  repeat' split
  · exact long_0 c w (by omega) (by omega)
  · exact long_1 c w (by omega) (by omega)
  · exact long_2 c w (by omega) (by omega)
  · exact long_3 c w (by omega)
  · exact long_5 c w (by omega)
  · by_cases hx : c < 237
    · exact long_4 c w (by omega) (by omega)
    · exact long_6 c w (by omega) (by omega)
  · exact long_7 c w (by omega)
  · exact long_8 c w (by omega) (by omega)
  · exact long_9 c w (by omega)
  · exact long_10 c w (by omega) (by omega)
end Go.Proofs.Ythbdgakeglppbaa
