/- The texts Six, Letter, SpellLaw, Sec in one. -/
import Derived.Test.YtcfbfmgckaehdaaDoorG01
namespace Go.Proofs.YtcfbfmgckaehdaaDoor
open Go.RowKit Go.Proofs.YtcfbfmgckaehdaaDoorW.PrintWords
/-- A letter's number; -1: it is none. -/
def sixOf (c : Int) : Int :=
  if 65 ≤ c ∧ c ≤ 90 then c - 65 else if 97 ≤ c ∧ c ≤ 122 then c - 71 else if 48 ≤ c ∧ c ≤ 57 then c + 4 else if c = 45 then 62 else if c = 95 then 63 else -1
theorem six_0 (c : Int) (w : World) (h0 : 0 ≤ c) (h1 : c ≤ 44) :
    Calls Tryd.prog 72 #[.int .u8 c] w fun e w' => e = .returned (.int .i64 (-1)) ∧ Drawn0 w w' := by
  have a0 : decide (65 ≤ c) = false := decide_eq_false (by omega)
  have b0 : decide (c ≤ 90) = true := decide_eq_true (by omega)
  have a1 : decide (97 ≤ c) = false := decide_eq_false (by omega)
  have b1 : decide (c ≤ 122) = true := decide_eq_true (by omega)
  have a2 : decide (48 ≤ c) = false := decide_eq_false (by omega)
  have b2 : decide (c ≤ 57) = true := decide_eq_true (by omega)
  have e0 : (c == 45) = false := beq_eq_false_iff_ne.2 (by omega)
  have e1 : (c == 95) = false := beq_eq_false_iff_ne.2 (by omega)
  go_enter Tryd.func72, Tryd.ntmps72
  go_wp2
  go_ret
  exact ⟨rfl, Drawn0.refl _⟩
theorem six_1 (c : Int) (w : World) (h0 : 45 ≤ c) (h1 : c ≤ 45) :
    Calls Tryd.prog 72 #[.int .u8 c] w fun e w' => e = .returned (.int .i64 (62)) ∧ Drawn0 w w' := by
  have a0 : decide (65 ≤ c) = false := decide_eq_false (by omega)
  have b0 : decide (c ≤ 90) = true := decide_eq_true (by omega)
  have a1 : decide (97 ≤ c) = false := decide_eq_false (by omega)
  have b1 : decide (c ≤ 122) = true := decide_eq_true (by omega)
  have a2 : decide (48 ≤ c) = false := decide_eq_false (by omega)
  have b2 : decide (c ≤ 57) = true := decide_eq_true (by omega)
  have e0 : (c == 45) = true := beq_iff_eq.2 (by omega)
  have e1 : (c == 95) = false := beq_eq_false_iff_ne.2 (by omega)
  go_enter Tryd.func72, Tryd.ntmps72
  go_wp2
  go_ret
  exact ⟨rfl, Drawn0.refl _⟩
theorem six_2 (c : Int) (w : World) (h0 : 46 ≤ c) (h1 : c ≤ 47) :
    Calls Tryd.prog 72 #[.int .u8 c] w fun e w' => e = .returned (.int .i64 (-1)) ∧ Drawn0 w w' := by
  have a0 : decide (65 ≤ c) = false := decide_eq_false (by omega)
  have b0 : decide (c ≤ 90) = true := decide_eq_true (by omega)
  have a1 : decide (97 ≤ c) = false := decide_eq_false (by omega)
  have b1 : decide (c ≤ 122) = true := decide_eq_true (by omega)
  have a2 : decide (48 ≤ c) = false := decide_eq_false (by omega)
  have b2 : decide (c ≤ 57) = true := decide_eq_true (by omega)
  have e0 : (c == 45) = false := beq_eq_false_iff_ne.2 (by omega)
  have e1 : (c == 95) = false := beq_eq_false_iff_ne.2 (by omega)
  go_enter Tryd.func72, Tryd.ntmps72
  go_wp2
  go_ret
  exact ⟨rfl, Drawn0.refl _⟩
theorem six_3 (c : Int) (w : World) (h0 : 48 ≤ c) (h1 : c ≤ 57) :
    Calls Tryd.prog 72 #[.int .u8 c] w fun e w' => e = .returned (.int .i64 (c + 4)) ∧ Drawn0 w w' := by
  have a0 : decide (65 ≤ c) = false := decide_eq_false (by omega)
  have b0 : decide (c ≤ 90) = true := decide_eq_true (by omega)
  have a1 : decide (97 ≤ c) = false := decide_eq_false (by omega)
  have b1 : decide (c ≤ 122) = true := decide_eq_true (by omega)
  have a2 : decide (48 ≤ c) = true := decide_eq_true (by omega)
  have b2 : decide (c ≤ 57) = true := decide_eq_true (by omega)
  have e0 : (c == 45) = false := beq_eq_false_iff_ne.2 (by omega)
  have e1 : (c == 95) = false := beq_eq_false_iff_ne.2 (by omega)
  have w1 : IntKind.u8.wrap (c - 48) = c - 48 := by rw [IntKind.wrap_u8]; omega
  have w2 : IntKind.i64.wrap (c - 48) = c - 48 := by rw [IntKind.wrap_i64]; omega
  have w3 : IntKind.i64.wrap (c - 48 + 52) = c + 4 := by rw [IntKind.wrap_i64]; omega
  go_enter Tryd.func72, Tryd.ntmps72
  go_wp2
  go_ret
  exact ⟨rfl, Drawn0.refl _⟩
theorem six_4 (c : Int) (w : World) (h0 : 58 ≤ c) (h1 : c ≤ 64) :
    Calls Tryd.prog 72 #[.int .u8 c] w fun e w' => e = .returned (.int .i64 (-1)) ∧ Drawn0 w w' := by
  have a0 : decide (65 ≤ c) = false := decide_eq_false (by omega)
  have b0 : decide (c ≤ 90) = true := decide_eq_true (by omega)
  have a1 : decide (97 ≤ c) = false := decide_eq_false (by omega)
  have b1 : decide (c ≤ 122) = true := decide_eq_true (by omega)
  have a2 : decide (48 ≤ c) = true := decide_eq_true (by omega)
  have b2 : decide (c ≤ 57) = false := decide_eq_false (by omega)
  have e0 : (c == 45) = false := beq_eq_false_iff_ne.2 (by omega)
  have e1 : (c == 95) = false := beq_eq_false_iff_ne.2 (by omega)
  go_enter Tryd.func72, Tryd.ntmps72
  go_wp2
  go_ret
  exact ⟨rfl, Drawn0.refl _⟩
theorem six_5 (c : Int) (w : World) (h0 : 65 ≤ c) (h1 : c ≤ 90) :
    Calls Tryd.prog 72 #[.int .u8 c] w fun e w' => e = .returned (.int .i64 (c - 65)) ∧ Drawn0 w w' := by
  have a0 : decide (65 ≤ c) = true := decide_eq_true (by omega)
  have b0 : decide (c ≤ 90) = true := decide_eq_true (by omega)
  have a1 : decide (97 ≤ c) = false := decide_eq_false (by omega)
  have b1 : decide (c ≤ 122) = true := decide_eq_true (by omega)
  have a2 : decide (48 ≤ c) = true := decide_eq_true (by omega)
  have b2 : decide (c ≤ 57) = false := decide_eq_false (by omega)
  have e0 : (c == 45) = false := beq_eq_false_iff_ne.2 (by omega)
  have e1 : (c == 95) = false := beq_eq_false_iff_ne.2 (by omega)
  have w1 : IntKind.u8.wrap (c - 65) = c - 65 := by rw [IntKind.wrap_u8]; omega
  have w2 : IntKind.i64.wrap (c - 65) = c - 65 := by rw [IntKind.wrap_i64]; omega
  have w3 : IntKind.i64.wrap (c - 65 + 0) = c - 65 := by rw [IntKind.wrap_i64]; omega
  go_enter Tryd.func72, Tryd.ntmps72
  go_wp2
  go_ret
  exact ⟨rfl, Drawn0.refl _⟩
theorem six_6 (c : Int) (w : World) (h0 : 91 ≤ c) (h1 : c ≤ 94) :
    Calls Tryd.prog 72 #[.int .u8 c] w fun e w' => e = .returned (.int .i64 (-1)) ∧ Drawn0 w w' := by
  have a0 : decide (65 ≤ c) = true := decide_eq_true (by omega)
  have b0 : decide (c ≤ 90) = false := decide_eq_false (by omega)
  have a1 : decide (97 ≤ c) = false := decide_eq_false (by omega)
  have b1 : decide (c ≤ 122) = true := decide_eq_true (by omega)
  have a2 : decide (48 ≤ c) = true := decide_eq_true (by omega)
  have b2 : decide (c ≤ 57) = false := decide_eq_false (by omega)
  have e0 : (c == 45) = false := beq_eq_false_iff_ne.2 (by omega)
  have e1 : (c == 95) = false := beq_eq_false_iff_ne.2 (by omega)
  go_enter Tryd.func72, Tryd.ntmps72
  go_wp2
  go_ret
  exact ⟨rfl, Drawn0.refl _⟩
theorem six_7 (c : Int) (w : World) (h0 : 95 ≤ c) (h1 : c ≤ 95) :
    Calls Tryd.prog 72 #[.int .u8 c] w fun e w' => e = .returned (.int .i64 (63)) ∧ Drawn0 w w' := by
  have a0 : decide (65 ≤ c) = true := decide_eq_true (by omega)
  have b0 : decide (c ≤ 90) = false := decide_eq_false (by omega)
  have a1 : decide (97 ≤ c) = false := decide_eq_false (by omega)
  have b1 : decide (c ≤ 122) = true := decide_eq_true (by omega)
  have a2 : decide (48 ≤ c) = true := decide_eq_true (by omega)
  have b2 : decide (c ≤ 57) = false := decide_eq_false (by omega)
  have e0 : (c == 45) = false := beq_eq_false_iff_ne.2 (by omega)
  have e1 : (c == 95) = true := beq_iff_eq.2 (by omega)
  go_enter Tryd.func72, Tryd.ntmps72
  go_wp2
  go_ret
  exact ⟨rfl, Drawn0.refl _⟩
theorem six_8 (c : Int) (w : World) (h0 : 96 ≤ c) (h1 : c ≤ 96) :
    Calls Tryd.prog 72 #[.int .u8 c] w fun e w' => e = .returned (.int .i64 (-1)) ∧ Drawn0 w w' := by
  have a0 : decide (65 ≤ c) = true := decide_eq_true (by omega)
  have b0 : decide (c ≤ 90) = false := decide_eq_false (by omega)
  have a1 : decide (97 ≤ c) = false := decide_eq_false (by omega)
  have b1 : decide (c ≤ 122) = true := decide_eq_true (by omega)
  have a2 : decide (48 ≤ c) = true := decide_eq_true (by omega)
  have b2 : decide (c ≤ 57) = false := decide_eq_false (by omega)
  have e0 : (c == 45) = false := beq_eq_false_iff_ne.2 (by omega)
  have e1 : (c == 95) = false := beq_eq_false_iff_ne.2 (by omega)
  go_enter Tryd.func72, Tryd.ntmps72
  go_wp2
  go_ret
  exact ⟨rfl, Drawn0.refl _⟩
theorem six_9 (c : Int) (w : World) (h0 : 97 ≤ c) (h1 : c ≤ 122) :
    Calls Tryd.prog 72 #[.int .u8 c] w fun e w' => e = .returned (.int .i64 (c - 71)) ∧ Drawn0 w w' := by
  have a0 : decide (65 ≤ c) = true := decide_eq_true (by omega)
  have b0 : decide (c ≤ 90) = false := decide_eq_false (by omega)
  have a1 : decide (97 ≤ c) = true := decide_eq_true (by omega)
  have b1 : decide (c ≤ 122) = true := decide_eq_true (by omega)
  have a2 : decide (48 ≤ c) = true := decide_eq_true (by omega)
  have b2 : decide (c ≤ 57) = false := decide_eq_false (by omega)
  have e0 : (c == 45) = false := beq_eq_false_iff_ne.2 (by omega)
  have e1 : (c == 95) = false := beq_eq_false_iff_ne.2 (by omega)
  have w1 : IntKind.u8.wrap (c - 97) = c - 97 := by rw [IntKind.wrap_u8]; omega
  have w2 : IntKind.i64.wrap (c - 97) = c - 97 := by rw [IntKind.wrap_i64]; omega
  have w3 : IntKind.i64.wrap (c - 97 + 26) = c - 71 := by rw [IntKind.wrap_i64]; omega
  go_enter Tryd.func72, Tryd.ntmps72
  go_wp2
  go_ret
  exact ⟨rfl, Drawn0.refl _⟩
theorem six_10 (c : Int) (w : World) (h0 : 123 ≤ c) (h1 : c ≤ 255) :
    Calls Tryd.prog 72 #[.int .u8 c] w fun e w' => e = .returned (.int .i64 (-1)) ∧ Drawn0 w w' := by
  have a0 : decide (65 ≤ c) = true := decide_eq_true (by omega)
  have b0 : decide (c ≤ 90) = false := decide_eq_false (by omega)
  have a1 : decide (97 ≤ c) = true := decide_eq_true (by omega)
  have b1 : decide (c ≤ 122) = false := decide_eq_false (by omega)
  have a2 : decide (48 ≤ c) = true := decide_eq_true (by omega)
  have b2 : decide (c ≤ 57) = false := decide_eq_false (by omega)
  have e0 : (c == 45) = false := beq_eq_false_iff_ne.2 (by omega)
  have e1 : (c == 95) = false := beq_eq_false_iff_ne.2 (by omega)
  go_enter Tryd.func72, Tryd.ntmps72
  go_wp2
  go_ret
  exact ⟨rfl, Drawn0.refl _⟩
theorem six_calls (c : Int) (w : World) (h0 : 0 ≤ c) (h1 : c < 256) :
    Calls Tryd.prog 72 #[.int .u8 c] w fun e w' => e = .returned (.int .i64 (sixOf c)) ∧ Drawn0 w w' := by
  have hc : (0 ≤ c ∧ c ≤ 44) ∨ (45 ≤ c ∧ c ≤ 45) ∨ (46 ≤ c ∧ c ≤ 47) ∨ (48 ≤ c ∧ c ≤ 57) ∨ (58 ≤ c ∧ c ≤ 64) ∨ (65 ≤ c ∧ c ≤ 90) ∨ (91 ≤ c ∧ c ≤ 94) ∨ (95 ≤ c ∧ c ≤ 95) ∨ (96 ≤ c ∧ c ≤ 96) ∨ (97 ≤ c ∧ c ≤ 122) ∨ (123 ≤ c ∧ c ≤ 255) := by omega
  rcases hc with ⟨k0, k1⟩ | ⟨k0, k1⟩ | ⟨k0, k1⟩ | ⟨k0, k1⟩ | ⟨k0, k1⟩ | ⟨k0, k1⟩ | ⟨k0, k1⟩ | ⟨k0, k1⟩ | ⟨k0, k1⟩ | ⟨k0, k1⟩ | ⟨k0, k1⟩
  · have e : sixOf c = -1 := by
      unfold sixOf
      repeat' split
      all_goals omega
    rw [e]
    exact six_0 c w k0 k1
  · have e : sixOf c = 62 := by
      unfold sixOf
      repeat' split
      all_goals omega
    rw [e]
    exact six_1 c w k0 k1
  · have e : sixOf c = -1 := by
      unfold sixOf
      repeat' split
      all_goals omega
    rw [e]
    exact six_2 c w k0 k1
  · have e : sixOf c = c + 4 := by
      unfold sixOf
      repeat' split
      all_goals omega
    rw [e]
    exact six_3 c w k0 k1
  · have e : sixOf c = -1 := by
      unfold sixOf
      repeat' split
      all_goals omega
    rw [e]
    exact six_4 c w k0 k1
  · have e : sixOf c = c - 65 := by
      unfold sixOf
      repeat' split
      all_goals omega
    rw [e]
    exact six_5 c w k0 k1
  · have e : sixOf c = -1 := by
      unfold sixOf
      repeat' split
      all_goals omega
    rw [e]
    exact six_6 c w k0 k1
  · have e : sixOf c = 63 := by
      unfold sixOf
      repeat' split
      all_goals omega
    rw [e]
    exact six_7 c w k0 k1
  · have e : sixOf c = -1 := by
      unfold sixOf
      repeat' split
      all_goals omega
    rw [e]
    exact six_8 c w k0 k1
  · have e : sixOf c = c - 71 := by
      unfold sixOf
      repeat' split
      all_goals omega
    rw [e]
    exact six_9 c w k0 k1
  · have e : sixOf c = -1 := by
      unfold sixOf
      repeat' split
      all_goals omega
    rw [e]
    exact six_10 c w k0 k1
end Go.Proofs.YtcfbfmgckaehdaaDoor
namespace Go.Proofs.YtcfbfmgckaehdaaDoor
open Go.RowKit Go.Proofs.YtcfbfmgckaehdaaDoorW.PrintWords
/-- The letters, in their order. -/
def alphaS : ByteArray := ⟨#[65, 66, 67, 68, 69, 70, 71, 72, 73, 74, 75, 76, 77, 78, 79, 80, 81, 82, 83, 84, 85, 86, 87, 88, 89, 90, 97, 98, 99, 100, 101, 102, 103, 104, 105, 106, 107, 108, 109, 110, 111, 112, 113, 114, 115, 116, 117, 118, 119, 120, 121, 122, 48, 49, 50, 51, 52, 53, 54, 55, 56, 57, 45, 95]⟩
def alpha (n : Int) : Int := bt alphaS n
theorem alpha_six : ∀ c : Fin 256, 0 ≤ sixOf (c.val : Int) → alpha (sixOf (c.val : Int)) = c.val ∧ sixOf (c.val : Int) < 64 := by decide +kernel
theorem alpha_sixOf (c : Int) (h0 : 0 ≤ c) (h1 : c < 256) (h : 0 ≤ sixOf c) : alpha (sixOf c) = c ∧ sixOf c < 64 := by
  have k := alpha_six ⟨c.toNat, by omega⟩
  simp only [Int.toNat_of_nonneg h0] at k
  exact k h
end Go.Proofs.YtcfbfmgckaehdaaDoor
namespace Go.Proofs.YtcfbfmgckaehdaaDoor
open Go.RowKit Go.Proofs.YtcfbfmgckaehdaaDoorW.PrintWords
/-- What letters spell, letter by letter: the bits held, how many, the bytes. -/
def unRun : List Int → Int → Nat → List Int → Option (List Int)
  | [], h, m, O => if m = 6 ∨ h ≠ 0 then none else some O
  | c :: t, h, m, O =>
    if sixOf c < 0 then none
    else if 2 ≤ m then unRun t ((h * 64 + sixOf c) % 2 ^ (m - 2)) (m - 2) (O ++ [(h * 64 + sixOf c) / 2 ^ (m - 2) % 256])
    else unRun t (h * 64 + sixOf c) (m + 6) O
end Go.Proofs.YtcfbfmgckaehdaaDoor
namespace Go.Proofs.YtcfbfmgckaehdaaDoor
open Go.RowKit Go.Proofs.YtcfbfmgckaehdaaDoorW.PrintWords
structure Clm where
  client : ByteArray
  group : ByteArray
  upto : Int
/-- A claim's cells. -/
def Clm.cells (c : Clm) : Array Value := #[.string c.client, .string c.group, .int .i64 c.upto]
end Go.Proofs.YtcfbfmgckaehdaaDoor
