/- The texts Six, Letter, SpellLaw, Sec, Form, ShelfLen, Number, Text in one. -/
import Derived.Test.YtcgenmogedndjaaDoorProg
import Derived.Test.YtcgenmogedndjaaDoorG01
import Derived.Lib.BitFns
import Derived.Shelf.Strconv.Itoa0
namespace Go.Proofs.YtcgenmogedndjaaDoor
open Go.RowKit Go.Proofs.YtcgenmogedndjaaDoorW.PrintWords
/-- A letter's number; -1: it is none. -/
def sixOf (c : Int) : Int :=
  if 65 ≤ c ∧ c ≤ 90 then c - 65 else if 97 ≤ c ∧ c ≤ 122 then c - 71 else if 48 ≤ c ∧ c ≤ 57 then c + 4 else if c = 45 then 62 else if c = 95 then 63 else -1
theorem six_0 (c : Int) (w : World) (h0 : 0 ≤ c) (h1 : c ≤ 44) :
    Calls Tryd.prog 48 #[.int .u8 c] w fun e w' => e = .returned (.int .i64 (-1)) ∧ Drawn0 w w' := by
  have a0 : decide (65 ≤ c) = false := decide_eq_false (by omega)
  have b0 : decide (c ≤ 90) = true := decide_eq_true (by omega)
  have a1 : decide (97 ≤ c) = false := decide_eq_false (by omega)
  have b1 : decide (c ≤ 122) = true := decide_eq_true (by omega)
  have a2 : decide (48 ≤ c) = false := decide_eq_false (by omega)
  have b2 : decide (c ≤ 57) = true := decide_eq_true (by omega)
  have e0 : (c == 45) = false := beq_eq_false_iff_ne.2 (by omega)
  have e1 : (c == 95) = false := beq_eq_false_iff_ne.2 (by omega)
  go_enter Tryd.func48, Tryd.ntmps48
  go_wp2
  go_ret
  exact ⟨rfl, Drawn0.refl _⟩
theorem six_1 (c : Int) (w : World) (h0 : 45 ≤ c) (h1 : c ≤ 45) :
    Calls Tryd.prog 48 #[.int .u8 c] w fun e w' => e = .returned (.int .i64 (62)) ∧ Drawn0 w w' := by
  have a0 : decide (65 ≤ c) = false := decide_eq_false (by omega)
  have b0 : decide (c ≤ 90) = true := decide_eq_true (by omega)
  have a1 : decide (97 ≤ c) = false := decide_eq_false (by omega)
  have b1 : decide (c ≤ 122) = true := decide_eq_true (by omega)
  have a2 : decide (48 ≤ c) = false := decide_eq_false (by omega)
  have b2 : decide (c ≤ 57) = true := decide_eq_true (by omega)
  have e0 : (c == 45) = true := beq_iff_eq.2 (by omega)
  have e1 : (c == 95) = false := beq_eq_false_iff_ne.2 (by omega)
  go_enter Tryd.func48, Tryd.ntmps48
  go_wp2
  go_ret
  exact ⟨rfl, Drawn0.refl _⟩
theorem six_2 (c : Int) (w : World) (h0 : 46 ≤ c) (h1 : c ≤ 47) :
    Calls Tryd.prog 48 #[.int .u8 c] w fun e w' => e = .returned (.int .i64 (-1)) ∧ Drawn0 w w' := by
  have a0 : decide (65 ≤ c) = false := decide_eq_false (by omega)
  have b0 : decide (c ≤ 90) = true := decide_eq_true (by omega)
  have a1 : decide (97 ≤ c) = false := decide_eq_false (by omega)
  have b1 : decide (c ≤ 122) = true := decide_eq_true (by omega)
  have a2 : decide (48 ≤ c) = false := decide_eq_false (by omega)
  have b2 : decide (c ≤ 57) = true := decide_eq_true (by omega)
  have e0 : (c == 45) = false := beq_eq_false_iff_ne.2 (by omega)
  have e1 : (c == 95) = false := beq_eq_false_iff_ne.2 (by omega)
  go_enter Tryd.func48, Tryd.ntmps48
  go_wp2
  go_ret
  exact ⟨rfl, Drawn0.refl _⟩
theorem six_3 (c : Int) (w : World) (h0 : 48 ≤ c) (h1 : c ≤ 57) :
    Calls Tryd.prog 48 #[.int .u8 c] w fun e w' => e = .returned (.int .i64 (c + 4)) ∧ Drawn0 w w' := by
  have a0 : decide (65 ≤ c) = false := decide_eq_false (by omega)
  have b0 : decide (c ≤ 90) = true := decide_eq_true (by omega)
  have a1 : decide (97 ≤ c) = false := decide_eq_false (by omega)
  have b1 : decide (c ≤ 122) = true := decide_eq_true (by omega)
  have a2 : decide (48 ≤ c) = true := decide_eq_true (by omega)
  have b2 : decide (c ≤ 57) = true := decide_eq_true (by omega)
  have e0 : (c == 45) = false := beq_eq_false_iff_ne.2 (by omega)
  have e1 : (c == 95) = false := beq_eq_false_iff_ne.2 (by omega)
  have w1 : IntKind.u8.wrap (c - 48) = c - 48 := by rw [IntKind.wrap_u8]; omega
  have w2 : IntKind.i64.wrap (c - 48) = c - 48 := by rw [IntKind.wrap_i64]; omega
  have w3 : IntKind.i64.wrap (c - 48 + 52) = c + 4 := by rw [IntKind.wrap_i64]; omega
  go_enter Tryd.func48, Tryd.ntmps48
  go_wp2
  go_ret
  exact ⟨rfl, Drawn0.refl _⟩
theorem six_4 (c : Int) (w : World) (h0 : 58 ≤ c) (h1 : c ≤ 64) :
    Calls Tryd.prog 48 #[.int .u8 c] w fun e w' => e = .returned (.int .i64 (-1)) ∧ Drawn0 w w' := by
  have a0 : decide (65 ≤ c) = false := decide_eq_false (by omega)
  have b0 : decide (c ≤ 90) = true := decide_eq_true (by omega)
  have a1 : decide (97 ≤ c) = false := decide_eq_false (by omega)
  have b1 : decide (c ≤ 122) = true := decide_eq_true (by omega)
  have a2 : decide (48 ≤ c) = true := decide_eq_true (by omega)
  have b2 : decide (c ≤ 57) = false := decide_eq_false (by omega)
  have e0 : (c == 45) = false := beq_eq_false_iff_ne.2 (by omega)
  have e1 : (c == 95) = false := beq_eq_false_iff_ne.2 (by omega)
  go_enter Tryd.func48, Tryd.ntmps48
  go_wp2
  go_ret
  exact ⟨rfl, Drawn0.refl _⟩
theorem six_5 (c : Int) (w : World) (h0 : 65 ≤ c) (h1 : c ≤ 90) :
    Calls Tryd.prog 48 #[.int .u8 c] w fun e w' => e = .returned (.int .i64 (c - 65)) ∧ Drawn0 w w' := by
  have a0 : decide (65 ≤ c) = true := decide_eq_true (by omega)
  have b0 : decide (c ≤ 90) = true := decide_eq_true (by omega)
  have a1 : decide (97 ≤ c) = false := decide_eq_false (by omega)
  have b1 : decide (c ≤ 122) = true := decide_eq_true (by omega)
  have a2 : decide (48 ≤ c) = true := decide_eq_true (by omega)
  have b2 : decide (c ≤ 57) = false := decide_eq_false (by omega)
  have e0 : (c == 45) = false := beq_eq_false_iff_ne.2 (by omega)
  have e1 : (c == 95) = false := beq_eq_false_iff_ne.2 (by omega)
  have w1 : IntKind.u8.wrap (c - 65) = c - 65 := by rw [IntKind.wrap_u8]; omega
  have w2 : IntKind.i64.wrap (c - 65) = c - 65 := by rw [IntKind.wrap_i64]; omega
  have w3 : IntKind.i64.wrap (c - 65 + 0) = c - 65 := by rw [IntKind.wrap_i64]; omega
  go_enter Tryd.func48, Tryd.ntmps48
  go_wp2
  go_ret
  exact ⟨rfl, Drawn0.refl _⟩
theorem six_6 (c : Int) (w : World) (h0 : 91 ≤ c) (h1 : c ≤ 94) :
    Calls Tryd.prog 48 #[.int .u8 c] w fun e w' => e = .returned (.int .i64 (-1)) ∧ Drawn0 w w' := by
  have a0 : decide (65 ≤ c) = true := decide_eq_true (by omega)
  have b0 : decide (c ≤ 90) = false := decide_eq_false (by omega)
  have a1 : decide (97 ≤ c) = false := decide_eq_false (by omega)
  have b1 : decide (c ≤ 122) = true := decide_eq_true (by omega)
  have a2 : decide (48 ≤ c) = true := decide_eq_true (by omega)
  have b2 : decide (c ≤ 57) = false := decide_eq_false (by omega)
  have e0 : (c == 45) = false := beq_eq_false_iff_ne.2 (by omega)
  have e1 : (c == 95) = false := beq_eq_false_iff_ne.2 (by omega)
  go_enter Tryd.func48, Tryd.ntmps48
  go_wp2
  go_ret
  exact ⟨rfl, Drawn0.refl _⟩
theorem six_7 (c : Int) (w : World) (h0 : 95 ≤ c) (h1 : c ≤ 95) :
    Calls Tryd.prog 48 #[.int .u8 c] w fun e w' => e = .returned (.int .i64 (63)) ∧ Drawn0 w w' := by
  have a0 : decide (65 ≤ c) = true := decide_eq_true (by omega)
  have b0 : decide (c ≤ 90) = false := decide_eq_false (by omega)
  have a1 : decide (97 ≤ c) = false := decide_eq_false (by omega)
  have b1 : decide (c ≤ 122) = true := decide_eq_true (by omega)
  have a2 : decide (48 ≤ c) = true := decide_eq_true (by omega)
  have b2 : decide (c ≤ 57) = false := decide_eq_false (by omega)
  have e0 : (c == 45) = false := beq_eq_false_iff_ne.2 (by omega)
  have e1 : (c == 95) = true := beq_iff_eq.2 (by omega)
  go_enter Tryd.func48, Tryd.ntmps48
  go_wp2
  go_ret
  exact ⟨rfl, Drawn0.refl _⟩
theorem six_8 (c : Int) (w : World) (h0 : 96 ≤ c) (h1 : c ≤ 96) :
    Calls Tryd.prog 48 #[.int .u8 c] w fun e w' => e = .returned (.int .i64 (-1)) ∧ Drawn0 w w' := by
  have a0 : decide (65 ≤ c) = true := decide_eq_true (by omega)
  have b0 : decide (c ≤ 90) = false := decide_eq_false (by omega)
  have a1 : decide (97 ≤ c) = false := decide_eq_false (by omega)
  have b1 : decide (c ≤ 122) = true := decide_eq_true (by omega)
  have a2 : decide (48 ≤ c) = true := decide_eq_true (by omega)
  have b2 : decide (c ≤ 57) = false := decide_eq_false (by omega)
  have e0 : (c == 45) = false := beq_eq_false_iff_ne.2 (by omega)
  have e1 : (c == 95) = false := beq_eq_false_iff_ne.2 (by omega)
  go_enter Tryd.func48, Tryd.ntmps48
  go_wp2
  go_ret
  exact ⟨rfl, Drawn0.refl _⟩
theorem six_9 (c : Int) (w : World) (h0 : 97 ≤ c) (h1 : c ≤ 122) :
    Calls Tryd.prog 48 #[.int .u8 c] w fun e w' => e = .returned (.int .i64 (c - 71)) ∧ Drawn0 w w' := by
  have a0 : decide (65 ≤ c) = true := decide_eq_true (by omega)
  have b0 : decide (c ≤ 90) = false := decide_eq_false (by omega)
  have a1 : decide (97 ≤ c) = true := decide_eq_true (by omega)
  have b1 : decide (c ≤ 122) = true := decide_eq_true (by omega)
  have a2 : decide (48 ≤ c) = true := decide_eq_true (by omega)
  have b2 : decide (c ≤ 57) = false := decide_eq_false (by omega)
  have e0 : (c == 45) = false := beq_eq_false_iff_ne.2 (by omega)
  have e1 : (c == 95) = false := beq_eq_false_iff_ne.2 (by omega)
  have w1 : IntKind.u8.wrap (c - 97) = c - 97 := by rw [IntKind.wrap_u8]; omega
  have w2 : IntKind.i64.wrap (c - 97) = c - 97 := by rw [IntKind.wrap_i64]; omega
  have w3 : IntKind.i64.wrap (c - 97 + 26) = c - 71 := by rw [IntKind.wrap_i64]; omega
  go_enter Tryd.func48, Tryd.ntmps48
  go_wp2
  go_ret
  exact ⟨rfl, Drawn0.refl _⟩
theorem six_10 (c : Int) (w : World) (h0 : 123 ≤ c) (h1 : c ≤ 255) :
    Calls Tryd.prog 48 #[.int .u8 c] w fun e w' => e = .returned (.int .i64 (-1)) ∧ Drawn0 w w' := by
  have a0 : decide (65 ≤ c) = true := decide_eq_true (by omega)
  have b0 : decide (c ≤ 90) = false := decide_eq_false (by omega)
  have a1 : decide (97 ≤ c) = true := decide_eq_true (by omega)
  have b1 : decide (c ≤ 122) = false := decide_eq_false (by omega)
  have a2 : decide (48 ≤ c) = true := decide_eq_true (by omega)
  have b2 : decide (c ≤ 57) = false := decide_eq_false (by omega)
  have e0 : (c == 45) = false := beq_eq_false_iff_ne.2 (by omega)
  have e1 : (c == 95) = false := beq_eq_false_iff_ne.2 (by omega)
  go_enter Tryd.func48, Tryd.ntmps48
  go_wp2
  go_ret
  exact ⟨rfl, Drawn0.refl _⟩
theorem six_calls (c : Int) (w : World) (h0 : 0 ≤ c) (h1 : c < 256) :
    Calls Tryd.prog 48 #[.int .u8 c] w fun e w' => e = .returned (.int .i64 (sixOf c)) ∧ Drawn0 w w' := by
  have hc : (0 ≤ c ∧ c ≤ 44) ∨ (45 ≤ c ∧ c ≤ 45) ∨ (46 ≤ c ∧ c ≤ 47) ∨ (48 ≤ c ∧ c ≤ 57) ∨ (58 ≤ c ∧ c ≤ 64) ∨ (65 ≤ c ∧ c ≤ 90) ∨ (91 ≤ c ∧ c ≤ 94) ∨ (95 ≤ c ∧ c ≤ 95) ∨ (96 ≤ c ∧ c ≤ 96) ∨ (97 ≤ c ∧ c ≤ 122) ∨ (123 ≤ c ∧ c ≤ 255) := by omega
  rcases hc with ⟨k0, k1⟩ | ⟨k0, k1⟩ | ⟨k0, k1⟩ | ⟨k0, k1⟩ | ⟨k0, k1⟩ | ⟨k0, k1⟩ | ⟨k0, k1⟩ | ⟨k0, k1⟩ | ⟨k0, k1⟩ | ⟨k0, k1⟩ | ⟨k0, k1⟩
  · have e : sixOf c = -1 := by
      unfold sixOf
      repeat' split
      all_goals omega
    rw [e]
    exact six_0 c w k0 k1
  · have e : sixOf c = 62 := by
      unfold sixOf
      repeat' split
      all_goals omega
    rw [e]
    exact six_1 c w k0 k1
  · have e : sixOf c = -1 := by
      unfold sixOf
      repeat' split
      all_goals omega
    rw [e]
    exact six_2 c w k0 k1
  · have e : sixOf c = c + 4 := by
      unfold sixOf
      repeat' split
      all_goals omega
    rw [e]
    exact six_3 c w k0 k1
  · have e : sixOf c = -1 := by
      unfold sixOf
      repeat' split
      all_goals omega
    rw [e]
    exact six_4 c w k0 k1
  · have e : sixOf c = c - 65 := by
      unfold sixOf
      repeat' split
      all_goals omega
    rw [e]
    exact six_5 c w k0 k1
  · have e : sixOf c = -1 := by
      unfold sixOf
      repeat' split
      all_goals omega
    rw [e]
    exact six_6 c w k0 k1
  · have e : sixOf c = 63 := by
      unfold sixOf
      repeat' split
      all_goals omega
    rw [e]
    exact six_7 c w k0 k1
  · have e : sixOf c = -1 := by
      unfold sixOf
      repeat' split
      all_goals omega
    rw [e]
    exact six_8 c w k0 k1
  · have e : sixOf c = c - 71 := by
      unfold sixOf
      repeat' split
      all_goals omega
    rw [e]
    exact six_9 c w k0 k1
  · have e : sixOf c = -1 := by
      unfold sixOf
      repeat' split
      all_goals omega
    rw [e]
    exact six_10 c w k0 k1
end Go.Proofs.YtcgenmogedndjaaDoor
namespace Go.Proofs.YtcgenmogedndjaaDoor
open Go.RowKit Go.Proofs.YtcgenmogedndjaaDoorW.PrintWords
/-- The letters, in their order. -/
def alphaS : ByteArray := ⟨#[65, 66, 67, 68, 69, 70, 71, 72, 73, 74, 75, 76, 77, 78, 79, 80, 81, 82, 83, 84, 85, 86, 87, 88, 89, 90, 97, 98, 99, 100, 101, 102, 103, 104, 105, 106, 107, 108, 109, 110, 111, 112, 113, 114, 115, 116, 117, 118, 119, 120, 121, 122, 48, 49, 50, 51, 52, 53, 54, 55, 56, 57, 45, 95]⟩
def alpha (n : Int) : Int := bt alphaS n
theorem letter_calls (n : Int) (w : World) (h0 : 0 ≤ n) (h1 : n < 64) :
    Calls Tryd.prog 58 #[.int .i64 n] w fun e w' => e = .returned (.int .u8 (alpha n)) ∧ Drawn0 w w' := by
  go_enter Tryd.func58, Tryd.ntmps58
  go_wp2
  go_ret
  exact ⟨congrArg (fun x => Ending.returned (Value.int .u8 x)) (bt_at alphaS n (by show n.toNat < 64; omega)), Drawn0.refl _⟩
theorem six_alpha : ∀ n : Fin 64, sixOf (alpha (n.val : Int)) = n.val ∧ 0 ≤ alpha (n.val : Int) ∧ alpha (n.val : Int) < 256 := by decide +kernel
theorem alpha_six : ∀ c : Fin 256, 0 ≤ sixOf (c.val : Int) → alpha (sixOf (c.val : Int)) = c.val ∧ sixOf (c.val : Int) < 64 := by decide +kernel
theorem sixOf_alpha (n : Int) (h0 : 0 ≤ n) (h1 : n < 64) : sixOf (alpha n) = n ∧ 0 ≤ alpha n ∧ alpha n < 256 := by
  have h := six_alpha ⟨n.toNat, by omega⟩
  simp only [Int.toNat_of_nonneg h0] at h
  exact h
theorem alpha_sixOf (c : Int) (h0 : 0 ≤ c) (h1 : c < 256) (h : 0 ≤ sixOf c) : alpha (sixOf c) = c ∧ sixOf c < 64 := by
  have k := alpha_six ⟨c.toNat, by omega⟩
  simp only [Int.toNat_of_nonneg h0] at k
  exact k h
end Go.Proofs.YtcgenmogedndjaaDoor
namespace Go.Proofs.YtcgenmogedndjaaDoor
open Go.RowKit Go.Proofs.YtcgenmogedndjaaDoorW.PrintWords
/-- Bytes in letters, three bytes in four letters. -/
def sp3 : List Int → List Int
  | [] => []
  | [a] => [alpha (a / 4), alpha (a % 4 * 16)]
  | [a, b] => [alpha (a / 4), alpha (a % 4 * 16 + b / 16), alpha (b % 16 * 4)]
  | a :: b :: c :: t => alpha (a / 4) :: alpha (a % 4 * 16 + b / 16) :: alpha (b % 16 * 4 + c / 64) :: alpha (c % 64) :: sp3 t
/-- Letters out of held bits: at most two. -/
def drain (held : Int) : Nat → List Int → Nat × List Int
  | m + 6, O => drain held m (O ++ [alpha (held / 2 ^ m % 64)])
  | m, O => (m, O)
def spRun : List Int → Int → Nat → List Int → List Int
  | [], h, m, O => if 0 < m then O ++ [alpha (h * 2 ^ (6 - m) % 64)] else O
  | x :: t, h, m, O => spRun t ((h * 256 + x) % 64) (drain (h * 256 + x) (m + 8) O).1 (drain (h * 256 + x) (m + 8) O).2
theorem spRun_sp3 : ∀ (l : List Int) (O : List Int) (h : Int), Bytes l → spRun l h 0 O = O ++ sp3 l
  | [], O, h, _ => by simp [spRun, sp3]
  | [a], O, h, hb => by
    have ha := hb a (by simp)
    simp [spRun, sp3, drain]
    refine ⟨congrArg alpha (by omega), congrArg alpha (by omega)⟩
  | [a, b], O, h, hb => by
    have ha := hb a (by simp)
    have hb' := hb b (by simp)
    simp [spRun, sp3, drain]
    refine ⟨congrArg alpha (by omega), congrArg alpha (by omega), congrArg alpha (by omega)⟩
  | a :: b :: c :: t, O, h, hb => by
    have ha := hb a (by simp)
    have hb' := hb b (by simp)
    have hc := hb c (by simp)
    rw [spRun, spRun, spRun]
    simp only [drain]
    rw [spRun_sp3 t _ _ (fun x hx => hb x (by simp [hx]))]
    simp [sp3]
    refine ⟨congrArg alpha (by omega), congrArg alpha (by omega), congrArg alpha (by omega), congrArg alpha (by omega)⟩
theorem sp3_length : ∀ (l : List Int), (sp3 l).length = (4 * l.length + 2) / 3
  | [] => rfl
  | [a] => by simp [sp3]
  | [a, b] => by simp [sp3]
  | a :: b :: c :: t => by
    simp only [sp3, List.length_cons, sp3_length t]
    omega
theorem sp3_Bytes : ∀ (l : List Int), Bytes l → Bytes (sp3 l)
  | [], _ => Bytes.nil
  | [a], hb => by
    have ha := hb a (by simp)
    have h1 := (sixOf_alpha (a / 4) (by omega) (by omega)).2
    have h2 := (sixOf_alpha (a % 4 * 16) (by omega) (by omega)).2
    exact Bytes.con h1.1 h1.2 (Bytes.con h2.1 h2.2 Bytes.nil)
  | [a, b], hb => by
    have ha := hb a (by simp)
    have hb' := hb b (by simp)
    have h1 := (sixOf_alpha (a / 4) (by omega) (by omega)).2
    have h2 := (sixOf_alpha (a % 4 * 16 + b / 16) (by omega) (by omega)).2
    have h3 := (sixOf_alpha (b % 16 * 4) (by omega) (by omega)).2
    exact Bytes.con h1.1 h1.2 (Bytes.con h2.1 h2.2 (Bytes.con h3.1 h3.2 Bytes.nil))
  | a :: b :: c :: t, hb => by
    have ha := hb a (by simp)
    have hb' := hb b (by simp)
    have hc := hb c (by simp)
    have h1 := (sixOf_alpha (a / 4) (by omega) (by omega)).2
    have h2 := (sixOf_alpha (a % 4 * 16 + b / 16) (by omega) (by omega)).2
    have h3 := (sixOf_alpha (b % 16 * 4 + c / 64) (by omega) (by omega)).2
    have h4 := (sixOf_alpha (c % 64) (by omega) (by omega)).2
    exact Bytes.con h1.1 h1.2 (Bytes.con h2.1 h2.2 (Bytes.con h3.1 h3.2 (Bytes.con h4.1 h4.2 (sp3_Bytes t (fun x hx => hb x (by simp [hx]))))))
/-- What letters spell, letter by letter: the bits held, how many, the bytes. -/
def unRun : List Int → Int → Nat → List Int → Option (List Int)
  | [], h, m, O => if m = 6 ∨ h ≠ 0 then none else some O
  | c :: t, h, m, O =>
    if sixOf c < 0 then none
    else if 2 ≤ m then unRun t ((h * 64 + sixOf c) % 2 ^ (m - 2)) (m - 2) (O ++ [(h * 64 + sixOf c) / 2 ^ (m - 2) % 256])
    else unRun t (h * 64 + sixOf c) (m + 6) O
theorem unRun_acc : ∀ (s : List Int) (h : Int) (m : Nat) (O : List Int), unRun s h m O = (unRun s h m []).map (O ++ ·)
  | [], h, m, O => by unfold unRun; split <;> simp
  | c :: t, h, m, O => by
    unfold unRun
    split
    · rfl
    split
    · rw [unRun_acc t _ _ (O ++ _), unRun_acc t _ _ ([] ++ _)]
      simp [Option.map_map, Function.comp_def]
    · exact unRun_acc t _ _ O
theorem unRun_spelt : ∀ (l : List Int), Bytes l → unRun (sp3 l) 0 0 [] = some l
  | [], _ => rfl
  | [a], hb => by
    have ha := hb a (by simp)
    have h1 := (sixOf_alpha (a / 4) (by omega) (by omega)).1
    have h2 := (sixOf_alpha (a % 4 * 16) (by omega) (by omega)).1
    simp [sp3, unRun, h1, h2]
    omega
  | [a, b], hb => by
    have ha := hb a (by simp)
    have hb' := hb b (by simp)
    have h1 := (sixOf_alpha (a / 4) (by omega) (by omega)).1
    have h2 := (sixOf_alpha (a % 4 * 16 + b / 16) (by omega) (by omega)).1
    have h3 := (sixOf_alpha (b % 16 * 4) (by omega) (by omega)).1
    simp [sp3, unRun, h1, h2, h3]
    omega
  | a :: b :: c :: t, hb => by
    have ha := hb a (by simp)
    have hb' := hb b (by simp)
    have hc := hb c (by simp)
    have h1 := (sixOf_alpha (a / 4) (by omega) (by omega)).1
    have h2 := (sixOf_alpha (a % 4 * 16 + b / 16) (by omega) (by omega)).1
    have h3 := (sixOf_alpha (b % 16 * 4 + c / 64) (by omega) (by omega)).1
    have h4 := (sixOf_alpha (c % 64) (by omega) (by omega)).1
    have ih := unRun_spelt t (fun x hx => hb x (by simp [hx]))
    simp [sp3, unRun, h1, h2, h3, h4, Int.emod_one]
    refine ⟨by omega, by omega, by omega, by omega, ?_⟩
    rw [unRun_acc, ih]
    simp
    omega
theorem sixOf_some {c : Int} (hc : 0 ≤ c ∧ c < 256) (h : ¬ sixOf c < 0) : ∃ A, sixOf c = A ∧ 0 ≤ A ∧ A < 64 ∧ alpha A = c := by
  have k := alpha_sixOf c hc.1 hc.2 (by omega)
  exact ⟨_, rfl, by omega, k.2, k.1⟩
theorem spelt_unRun : ∀ (s q : List Int), Bytes s → unRun s 0 0 [] = some q → sp3 q = s ∧ Bytes q
  | [], q, _, h => by
    simp [unRun] at h
    subst h
    exact ⟨rfl, Bytes.nil⟩
  | [a], q, hb, h => by
    by_cases ha : sixOf a < 0
    · simp [unRun, ha] at h
    · simp [unRun, ha] at h
  | [a, b], q, hb, h => by
    by_cases ha : sixOf a < 0
    · simp [unRun, ha] at h
    by_cases hb1 : sixOf b < 0
    · simp [unRun, ha, hb1] at h
    simp only [unRun, ha, hb1] at h
    obtain ⟨A, eA, A0, A1, kA⟩ := sixOf_some (hb a (by simp)) ha
    obtain ⟨B, eB, B0, B1, kB⟩ := sixOf_some (hb b (by simp)) hb1
    rw [eA, eB] at h
    simp at h
    obtain ⟨h1, rfl⟩ := h
    refine ⟨?_, Bytes.con (by omega) (by omega) Bytes.nil⟩
    rw [sp3, ← kA, ← kB]
    simp
    refine ⟨congrArg alpha (by omega), congrArg alpha (by omega)⟩
  | [a, b, c], q, hb, h => by
    by_cases ha : sixOf a < 0
    · simp [unRun, ha] at h
    by_cases hb1 : sixOf b < 0
    · simp [unRun, ha, hb1] at h
    by_cases hc1 : sixOf c < 0
    · simp [unRun, ha, hb1, hc1] at h
    simp only [unRun, ha, hb1, hc1] at h
    obtain ⟨A, eA, A0, A1, kA⟩ := sixOf_some (hb a (by simp)) ha
    obtain ⟨B, eB, B0, B1, kB⟩ := sixOf_some (hb b (by simp)) hb1
    obtain ⟨C, eC, C0, C1, kC⟩ := sixOf_some (hb c (by simp)) hc1
    rw [eA, eB, eC] at h
    simp at h
    obtain ⟨h1, rfl⟩ := h
    refine ⟨?_, Bytes.con (by omega) (by omega) (Bytes.con (by omega) (by omega) Bytes.nil)⟩
    rw [sp3, ← kA, ← kB, ← kC]
    simp
    refine ⟨congrArg alpha (by omega), congrArg alpha (by omega), congrArg alpha (by omega)⟩
  | a :: b :: c :: d :: t, q, hb, h => by
    by_cases ha : sixOf a < 0
    · simp [unRun, ha] at h
    by_cases hb1 : sixOf b < 0
    · simp [unRun, ha, hb1] at h
    by_cases hc1 : sixOf c < 0
    · simp [unRun, ha, hb1, hc1] at h
    by_cases hd1 : sixOf d < 0
    · simp [unRun, ha, hb1, hc1, hd1] at h
    simp only [unRun, ha, hb1, hc1, hd1] at h
    obtain ⟨A, eA, A0, A1, kA⟩ := sixOf_some (hb a (by simp)) ha
    obtain ⟨B, eB, B0, B1, kB⟩ := sixOf_some (hb b (by simp)) hb1
    obtain ⟨C, eC, C0, C1, kC⟩ := sixOf_some (hb c (by simp)) hc1
    obtain ⟨D, eD, D0, D1, kD⟩ := sixOf_some (hb d (by simp)) hd1
    rw [eA, eB, eC, eD] at h
    simp [Int.emod_one] at h
    rw [unRun_acc] at h
    simp only [Option.map_eq_some_iff] at h
    obtain ⟨q', hq, rfl⟩ := h
    have ih := spelt_unRun t q' (fun x hx => hb x (by simp [hx])) hq
    refine ⟨?_, Bytes.con (by omega) (by omega) (Bytes.con (by omega) (by omega) (Bytes.con (by omega) (by omega) ih.2))⟩
    simp only [List.cons_append, List.nil_append, sp3, ih.1]
    rw [← kA, ← kB, ← kC, ← kD]
    simp
    refine ⟨congrArg alpha (by omega), congrArg alpha (by omega), congrArg alpha (by omega), congrArg alpha (by omega)⟩
end Go.Proofs.YtcgenmogedndjaaDoor
namespace Go.Proofs.YtcgenmogedndjaaDoor
open Go.RowKit Go.Proofs.YtcgenmogedndjaaDoorW.PrintWords
structure Sec where
  id : Int
  key : List Int
structure Clm where
  client : ByteArray
  group : ByteArray
  upto : Int
/-- A claim's cells. -/
def Clm.cells (c : Clm) : Array Value := #[.string c.client, .string c.group, .int .i64 c.upto]
def Clm.none : Clm := ⟨ByteArray.empty, ByteArray.empty, 0⟩
def Sec.none : Sec := ⟨0, []⟩
def secK : Kd Sec := Kd.iso (Kd.pair (Kd.int .i64) (Kd.slice 5 (Kd.int .u8))) (fun x : Sec => (x.id, x.key))
abbrev RdS (w : World) (A : Option Addr) (n : Nat) (L : List Sec) : Prop := Kd.C secK w A n L
abbrev OwnS (w0 w : World) (v : Value) (L : List Sec) : Prop := Kd.R secK 42 w w0.heap.size (fun _ => True) v L
theorem RdS.at {w : World} {A : Option Addr} {n : Nat} {L : List Sec} (h : RdS w A n L) (i : Nat) (hi : i < n) : ∃ ad Ai ci, A = some ad ∧ w.cell? (ad.add (i * 2)) = some (.int .i64 (L.getD i Sec.none).id) ∧
    w.cell? ⟨(ad.add (i * 2)).block, (ad.add (i * 2)).off + 1, none⟩ = some (.slice Ai (L.getD i Sec.none).key.length ci) ∧ (L.getD i Sec.none).key.length ≤ ci ∧ Rd w Ai (L.getD i Sec.none).key.length (L.getD i Sec.none).key := by
  obtain ⟨ad, c, e, _, hK, hc0⟩ := Kd.C_get h Sec.none (i : Int) (by omega) (by omega)
  simp only [Int.toNat_natCast] at hK hc0
  have hc : ∀ j u, c[j]? = some u → w.cell? (ad.add (i * 2 + j)) = some u := hc0
  obtain ⟨_, _, rfl, rfl, ⟨Ai, ci, rfl, l1, g1⟩⟩ := hK
  exact ⟨ad, Ai, ci, e, hc 0 _ rfl, by rw [← add_field _ _ 1 (by omega)]; exact hc 1 _ rfl, l1, g1⟩
/-- Every key's numbers are bytes, every ID is one of 64 bits. -/
def SecOk (L : List Sec) : Prop := ∀ s ∈ L, Bytes s.key ∧ -9223372036854775808 ≤ s.id ∧ s.id ≤ 9223372036854775807
theorem SecOk.at {L : List Sec} (h : SecOk L) (i : Nat) (hi : i < L.length) : Bytes (L.getD i Sec.none).key ∧ -9223372036854775808 ≤ (L.getD i Sec.none).id ∧ (L.getD i Sec.none).id ≤ 9223372036854775807 := by
  rw [List.getD_eq_getElem?_getD, List.getElem?_eq_getElem hi]
  exact h _ (List.getElem_mem hi)
/-- May a byte stand in a name? -/
def nameCh (x : Int) : Bool := decide (x = 46 ∨ x = 45 ∨ x = 95 ∨ (48 ≤ x ∧ x ≤ 57) ∨ (97 ≤ x ∧ x ≤ 122) ∨ (65 ≤ x ∧ x ≤ 90))
def nameB (s : ByteArray) : Bool := (bytesOf s).all nameCh && decide (1 ≤ s.size ∧ s.size ≤ 24)
theorem nameB_bad {s : ByteArray} (k : Nat) (hk : k < s.size) (h : nameCh (rd (bytesOf s) k) = false) : nameB s = false := by
  have hl := bytesOf_length s
  unfold nameB
  rw [Bool.and_eq_false_iff]
  left
  rw [List.all_eq_false]
  refine ⟨rd (bytesOf s) k, ?_, by rw [h]; decide⟩
  rw [rd_get _ k (by omega)]
  exact List.getElem_mem _
theorem nameB_all {s : ByteArray} (h : ∀ k, k < s.size → nameCh (rd (bytesOf s) (k : Nat)) = true) : nameB s = decide (1 ≤ s.size ∧ s.size ≤ 24) := by
  have hl := bytesOf_length s
  unfold nameB
  have : (bytesOf s).all nameCh = true := by
    rw [List.all_eq_true]
    intro x hx
    obtain ⟨k, hk, rfl⟩ := List.getElem_of_mem hx
    rw [← rd_get _ k hk]
    exact h k (by omega)
  rw [this, Bool.true_and]
theorem nameB_size {s : ByteArray} (h : nameB s = true) : 1 ≤ s.size ∧ s.size ≤ 24 := by
  unfold nameB at h
  rw [Bool.and_eq_true, decide_eq_true_eq] at h
  exact h.2
/-- May these secrets be? -/
def rise : Int → List Sec → Bool
  | _, [] => true
  | last, s :: t => decide (last < s.id ∧ s.id ≤ 1099511627776 ∧ 16 ≤ s.key.length ∧ s.key.length ≤ 64) && rise s.id t
def checkB (L : List Sec) : Bool := decide (1 ≤ L.length ∧ L.length ≤ 8) && rise (-1) L
def checkE (L : List Sec) : Int := if checkB L = true then 0 else 102
theorem checkB_long {L : List Sec} (h : L.length = 0 ∨ 8 < L.length) : checkE L = 102 := by
  unfold checkE checkB
  rw [decide_eq_false (by omega), Bool.false_and]
  rfl
theorem checkB_eq {L : List Sec} (h : 1 ≤ L.length ∧ L.length ≤ 8) : checkB L = rise (-1) L := by
  unfold checkB
  rw [decide_eq_true h, Bool.true_and]
theorem getD_drop (L : List Sec) (k : Nat) (h : k < L.length) : L.drop k = L.getD k Sec.none :: L.drop (k + 1) := by
  rw [List.getD_eq_getElem?_getD, List.getElem?_eq_getElem h]
  exact List.drop_eq_getElem_cons h
theorem rise_step (L : List Sec) (k : Nat) (h : k < L.length) (last : Int) : rise last (L.drop k) = (decide (last < (L.getD k Sec.none).id ∧ (L.getD k Sec.none).id ≤ 1099511627776 ∧ 16 ≤ (L.getD k Sec.none).key.length ∧ (L.getD k Sec.none).key.length ≤ 64) && rise (L.getD k Sec.none).id (L.drop (k + 1))) := by
  rw [getD_drop L k h]
  rfl
end Go.Proofs.YtcgenmogedndjaaDoor
namespace Go.Proofs.YtcgenmogedndjaaDoor
/-- How many bytes a number has (1 to 8). -/
def byteLen (x : Int) : Nat :=
  if x < 256 then 1 else if x < 65536 then 2 else if x < 16777216 then 3 else if x < 4294967296 then 4
  else if x < 1099511627776 then 5 else if x < 281474976710656 then 6 else if x < 72057594037927936 then 7 else 8
/-- So many bytes of a number, the highest first. -/
def beBytes (k : Nat) (x : Int) : List Int := (List.range k).map fun t => x / 256 ^ (k - 1 - t) % 256
def numForm (x : Int) : List Int := if x ≤ 247 then [max x 0] else (247 + (byteLen x : Int)) :: beBytes (byteLen x) x
theorem beBytes_length (k : Nat) (x : Int) : (beBytes k x).length = k := by simp [beBytes]
theorem beBytes_take (k t : Nat) (x : Int) (h : t < k) : (beBytes k x).take (t + 1) = (beBytes k x).take t ++ [x / 256 ^ (k - 1 - t) % 256] := by
  rw [List.take_succ_eq_append_getElem (by rw [beBytes_length]; exact h)]
  simp [beBytes]
theorem beBytes_Bytes (k : Nat) (x : Int) : Bytes (beBytes k x) := by
  intro y hy
  unfold beBytes at hy
  obtain ⟨t, _, rfl⟩ := List.mem_map.1 hy
  omega
theorem byteLen_range (x : Int) : 1 ≤ byteLen x ∧ byteLen x ≤ 8 := by
  unfold byteLen
  repeat' split
  all_goals omega
theorem numForm_Bytes (x : Int) : Bytes (numForm x) := by
  have := byteLen_range x
  unfold numForm
  split
  · exact Bytes.con (by omega) (by omega) Bytes.nil
  · exact Bytes.con (by omega) (by omega) (beBytes_Bytes _ _)
theorem numForm_length (x : Int) : 1 ≤ (numForm x).length ∧ (numForm x).length ≤ 9 := by
  have := byteLen_range x
  unfold numForm
  split
  · simp
  · simp only [List.length_cons, beBytes_length]; omega
theorem bitLen_small : ∀ n : Fin 256, 1 ≤ n.val → 1 ≤ Lib.bitLen n.val ∧ Lib.bitLen n.val ≤ 8 := by decide +kernel
theorem bitLen_byte (x : Int) (h : 248 ≤ x) (h1 : x < 9223372036854775808) : (Lib.bitLen x.toNat + 7) / 8 = byteLen x := by
  obtain ⟨n, rfl⟩ := Int.eq_ofNat_of_zero_le (show 0 ≤ x by omega)
  rw [Int.toNat_natCast]
  have key : ∀ j, 2 ^ (8 * j) ≤ n → n < 2 ^ (8 * (j + 1)) → (Lib.bitLen n + 7) / 8 = j + 1 := by
    intro j h0 h2
    rw [Lib.bitLen_shift (8 * j) n h0 (by omega)]
    have hp : 0 < 2 ^ (8 * j) := Nat.two_pow_pos _
    have hq : n / 2 ^ (8 * j) < 256 := by
      rw [Nat.div_lt_iff_lt_mul hp]
      have : 2 ^ (8 * (j + 1)) = 256 * 2 ^ (8 * j) := by rw [Nat.mul_add, Nat.pow_add, Nat.mul_comm]
      omega
    have h1' : 1 ≤ n / 2 ^ (8 * j) := (Nat.le_div_iff_mul_le hp).2 (by omega)
    have := bitLen_small ⟨_, hq⟩ h1'
    simp only at this
    omega
  unfold byteLen
  split
  · exact key 0 (by omega) (by omega)
  split
  · exact key 1 (by omega) (by omega)
  split
  · exact key 2 (by omega) (by omega)
  split
  · exact key 3 (by omega) (by omega)
  split
  · exact key 4 (by omega) (by omega)
  split
  · exact key 5 (by omega) (by omega)
  split
  · exact key 6 (by omega) (by omega)
  · exact key 7 (by omega) (by omega)
end Go.Proofs.YtcgenmogedndjaaDoor
namespace Go.Proofs.YtcgenmogedndjaaDoor
open Go.Shelf
def lays129_ren : Go.Shelf.Ren := ⟨fun | 129 => 76 | n => n, fun | 53 => 113 | 3 => 3 | 4 => 4 | 46 => 36 | 5 => 5 | 9 => 9 | n => n, fun | n => n⟩
theorem lays129 : Go.Proofs.Lays.n129 Tryd.prog lays129_ren := {
  mixed := by kernel_rfl
  f129 := Tryd.func76.trans (congrArg some (by kernel_rfl))
  t3 := Tryd.underlying3
  a3 := Tryd.isAgg3
  z3 := Tryd.sizeOf3
  v3 := Tryd.zeroValue3
  t4 := Tryd.underlying4
  a4 := Tryd.isAgg4
  z4 := Tryd.sizeOf4
  v4 := Tryd.zeroValue4
  t5 := Tryd.underlying5
  a5 := Tryd.isAgg5
  z5 := Tryd.sizeOf5
  v5 := Tryd.zeroValue5
  t9 := Tryd.underlying9
  a9 := Tryd.isAgg9
  z9 := Tryd.sizeOf9
  v9 := Tryd.zeroValue9
  t46 := Tryd.underlying36
  a46 := Tryd.isAgg36
  z46 := Tryd.sizeOf36
  v46 := Tryd.zeroValue36
  t53 := Tryd.underlying113
  a53 := Tryd.isAgg113
  z53 := Tryd.sizeOf113
  v53 := Tryd.zeroValue113 }
theorem Len64_calls (x : Int) (w : World) (h0 : 0 ≤ x) (h1 : x ≤ 18446744073709551615) :
    Calls Tryd.prog 76 #[.int .u64 x] w fun e w' => e = .returned (.int .i64 (Lib.bitLen x.toNat)) ∧ w' = w := Any.bits_Len64 lays129 x w h0 h1
end Go.Proofs.YtcgenmogedndjaaDoor
namespace Go.Proofs.YtcgenmogedndjaaDoor
open Go.RowKit Go.Proofs.YtcgenmogedndjaaDoorW.PrintWords Go.Proofs.YtcgenmogedndjaaDoorW.PrintMore
attribute [local go_sem] max2_int max_two
set_option maxHeartbeats 1600000 in
theorem Number_small {n : Nat} (A0 : Option Addr) (c0 : Nat) (l0 : List Int) (x : Int) (w : World) (hr0 : Rd w A0 n l0) (hs0 : n ≤ 140737488351232) (hx : -9223372036854775808 ≤ x) (hsm : x ≤ 247) :
    Calls Tryd.prog 61 #[.slice A0 n c0, .int .i64 x] w fun e w' => ∃ v0_ : Value, e = .returned (v0_) ∧ Own w w' v0_ (l0 ++ numForm x) ∧ Below w.heap.size w w' := by
  have hlen := Kd.C_len hr0
  have HR := Lib.hid hr0
  clear hr0
  have HF := Lib.hid (show numForm x = [max x 0] from if_pos hsm)
  by_cases hneg : x < 0
  case' pos =>
    have hd : decide (x < 0) = true := decide_eq_true hneg
    have HM := Lib.hid (show [max x 0] = [0] by rw [Int.max_eq_right (by omega)])
  case' neg =>
    have hd : decide (x < 0) = false := decide_eq_false hneg
    have HM := Lib.hid (show [max x 0] = [x] by rw [Int.max_eq_left (by omega)])
  all_goals
    go_enter Tryd.func61, Tryd.ntmps61
    go_wp2_with (at_builtin; refine app_row (Own.nil w w) HR.out (Below.refl _ _) (by simp; omega) rfl rfl rfl rfl ?_)
    intro v1 w1 ho1 hb1 _ _
    have HO1 := Lib.hid (ho1.cast (List.nil_append l0))
    have HB1 := Lib.hid hb1
    clear ho1 hb1
    go_wp2_with (at_builtin; refine app_one HO1.out HB1.out (by omega) rfl rfl rfl rfl ?_)
    intro v2 w2 ho2 hb2 _ _
    go_wp2
    go_ret
    exact ⟨_, rfl, ho2.cast (by rw [HF.out, HM.out]), hb2⟩
set_option maxHeartbeats 1600000 in
theorem Number_big {n : Nat} (A0 : Option Addr) (c0 : Nat) (l0 : List Int) (x : Int) (w : World) (hr0 : Rd w A0 n l0) (hs0 : n ≤ 140737488351232) (hsm : 247 < x) (hx1 : x ≤ 9223372036854775807) :
    Calls Tryd.prog 61 #[.slice A0 n c0, .int .i64 x] w fun e w' => ∃ v0_ : Value, e = .returned (v0_) ∧ Own w w' v0_ (l0 ++ numForm x) ∧ Below w.heap.size w w' := by
  have hlen := Kd.C_len hr0
  have HR := Lib.hid hr0
  clear hr0
  have HF := Lib.hid (show numForm x = (247 + (byteLen x : Int)) :: beBytes (byteLen x) x from if_neg (by omega))
  have hd : decide (x < 0) = false := decide_eq_false (by omega)
  have hd2 : decide (x ≤ 247) = false := decide_eq_false (by omega)
  have hk := byteLen_range x
  have HK := Lib.hid (bitLen_byte x (by omega) (by omega))
  obtain ⟨b, hb⟩ : ∃ b : Nat, b = Lib.bitLen x.toNat := ⟨_, rfl⟩
  rw [← hb] at HK
  have hb8 : b ≤ 64 := by have := HK.out; omega
  have HBL := Lib.hid hb.symm
  clear hb
  go_enter Tryd.func61, Tryd.ntmps61
  go_wp2_with (at_builtin; refine app_row (Own.nil w w) HR.out (Below.refl _ _) (by simp; omega) rfl rfl rfl rfl ?_)
  intro v1 w1 ho1 hb1 _ _
  have HO1 := Lib.hid (ho1.cast (List.nil_append l0))
  have HB1 := Lib.hid hb1
  clear ho1 hb1
  go_wp2_with fail
  refine (Len64_calls x _ (by omega) (by omega)).mono ?_
  rintro e w' ⟨rfl, rfl⟩
  rw [HBL.out]
  go_wp2_with (at_builtin; refine app_one HO1.out HB1.out (by omega) rfl rfl rfl rfl ?_)
  intro v2 w2 ho2 hb2 _ _
  have HO2 := Lib.hid (show Own w w2 v2 (l0 ++ (247 + (byteLen x : Int)) :: (beBytes (byteLen x) x).take (byteLen x - byteLen x)) from ho2.cast (by have := HK.out; rw [show (247 : Int) + ((b : Int) + 7) / 8 = 247 + (byteLen x : Int) by omega]; simp))
  have HB2 := Lib.hid hb2
  clear ho2 hb2 HO1 HB1
  have HKi := Lib.hid (show ((b : Int) + 7) / 8 - 1 = (byteLen x : Int) - 1 by have := HK.out; omega)
  clear HK HBL
  go_wp2
  go_loopw [5, 8] (fun v i wr => ∃ j : Nat, j ≤ byteLen x ∧ i = .int .i64 ((j : Int) - 1) ∧ Hid (Own w wr v (l0 ++ (247 + (byteLen x : Int)) :: (beBytes (byteLen x) x).take (byteLen x - j))) ∧ Hid (Below w.heap.size w wr)) (fun _ i _ => (intOf i + 1).toNat)
  case atStart => exact ⟨byteLen x, Nat.le_refl _, by rw [← HKi.out], HO2, HB2⟩
  case round =>
    obtain ⟨j, hj, rfl, HO, HB⟩ := hrel
    clear HO2 HB2
    by_cases hj0 : j = 0
    · subst hj0
      go_wp2
      go_ret
      exact ⟨_, rfl, HO.out.cast (by rw [HF.out, List.take_of_length_le (by rw [beBytes_length]; omega)]), HB.out⟩
    · have HS := Lib.hid (beBytes_take (byteLen x) (byteLen x - j) x (by omega))
      go_wp2_with (at_builtin; refine app_one HO.out HB.out (by simp only [List.length_append, List.length_cons, List.length_take, beBytes_length]; omega) rfl rfl rfl rfl ?_)
      intro v3 w3 ho3 hb3 _ _
      have HO3 := Lib.hid (show Own w w3 v3 (l0 ++ (247 + (byteLen x : Int)) :: (beBytes (byteLen x) x).take (byteLen x - (j - 1))) from ho3.cast (by
        rw [show byteLen x - (j - 1) = byteLen x - j + 1 by omega, HS.out, show byteLen x - 1 - (byteLen x - j) = j - 1 by omega]
        rw [show (256 : Int) ^ (j - 1) = 2 ^ (8 * (j - 1)) by rw [show (256 : Int) = 2 ^ 8 from rfl, ← Int.pow_mul]]))
      have HB3 := Lib.hid hb3
      clear ho3 hb3 HO HB
      go_wp2
      go_roundw
      case rel => exact ⟨j - 1, by omega, by congr 1; omega, HO3, HB3⟩
      case measure => simp [intOf]; omega
theorem Number_calls {n : Nat} (A0 : Option Addr) (c0 : Nat) (l0 : List Int) (x : Int) (w : World) (hr0 : Rd w A0 n l0) (hs0 : n ≤ 140737488351232) (hx : -9223372036854775808 ≤ x) (hx1 : x ≤ 9223372036854775807) :
    Calls Tryd.prog 61 #[.slice A0 n c0, .int .i64 x] w fun e w' => ∃ v0_ : Value, e = .returned (v0_) ∧ Own w w' v0_ (l0 ++ numForm x) ∧ Below w.heap.size w w' := by
  by_cases h : x ≤ 247
  · exact Number_small A0 c0 l0 x w hr0 hs0 hx h
  · exact Number_big A0 c0 l0 x w hr0 hs0 (by omega) hx1
end Go.Proofs.YtcgenmogedndjaaDoor
namespace Go.Proofs.YtcgenmogedndjaaDoor
open Go.RowKit Go.Proofs.YtcgenmogedndjaaDoorW.PrintWords Go.Proofs.YtcgenmogedndjaaDoorW.PrintMore
def textForm (s : ByteArray) : List Int := numForm s.size ++ bytesOf s
set_option maxHeartbeats 800000 in
theorem Text_calls {n : Nat} (A0 : Option Addr) (c0 : Nat) (l0 : List Int) (s : ByteArray) (w : World) (hr0 : Rd w A0 n l0) (hs0 : n + s.size ≤ 140737488351232) :
    Calls Tryd.prog 62 #[.slice A0 n c0, .string s] w fun e w' => ∃ v0_ : Value, e = .returned (v0_) ∧ Own w w' v0_ (l0 ++ textForm s) ∧ Below w.heap.size w w' := by
  have hlen := Kd.C_len hr0
  have hf := numForm_length s.size
  go_enter Tryd.func62, Tryd.ntmps62
  go_wp2_with fail
  refine (Number_calls A0 c0 l0 _ _ hr0 (by omega) (by omega) (by omega)).mono ?_
  rintro e w1 ⟨v1, rfl, ho1, hb1⟩
  have HO1 := Lib.hid ho1
  have HB1 := Lib.hid hb1
  clear ho1 hb1 hr0
  go_wp2_with (at_builtin; refine app_str HO1.out HB1.out (by simp only [List.length_append]; omega) rfl rfl rfl rfl ?_)
  intro v2 w2 ho2 hb2 _
  go_wp2
  go_ret
  exact ⟨_, rfl, ho2.cast (by unfold textForm; first | rfl | rw [List.append_assoc]), hb2⟩
end Go.Proofs.YtcgenmogedndjaaDoor
