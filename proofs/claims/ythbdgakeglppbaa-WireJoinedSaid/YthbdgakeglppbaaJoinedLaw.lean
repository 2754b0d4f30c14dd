/- The characters of two rows, one behind the other. -/
import Derived.Test.YthbdgakeglppbaaChars
namespace Go.Proofs.Ythbdgakeglppbaa
open Go.RowKit Go.Proofs.YthbdgakeglppbaaW.PrintWords
theorem conts_app : ∀ (m : Nat) (lo hi : Int) (t b : List Int), m ≤ t.length → conts m lo hi (t ++ b) = conts m lo hi t
  | 0, _, _, _, _, _ => by simp [conts]
  | m + 1, lo, hi, [], b, h => by simp at h
  | m + 1, lo, hi, x :: t, b, h => by
    simp only [List.cons_append, conts]
    rw [conts_app m 128 191 t b (by simpa using h)]
theorem charLen_app (a b : List Int) (h : charLen a ≠ 0) : charLen (a ++ b) = charLen a := by
  cases a with
  | nil => simp [charLen] at h
  | cons c t =>
    rw [List.cons_append]
    unfold charLen at *
    simp only at *
    by_cases h0 : (longOf c).1 = 0
    · simp [h0] at h
    · by_cases hc : conts ((longOf c).1.toNat - 1) (longOf c).2.1 (longOf c).2.2 t = true
      · rw [conts_app _ _ _ _ _ (conts_length _ _ _ _ hc)]
      · simp [h0, hc] at h
theorem charLen_four (l : List Int) : charLen l ≤ 4 := by
  cases l with
  | nil => simp [charLen]
  | cons c t =>
    have := long_range c
    unfold charLen
    simp only
    repeat' split
    all_goals omega
theorem charLen_short (a b : List Int) (h : charLen a = 0) (h2 : charLen (a ++ b) ≠ 0) : a.length ≤ 3 := by
  cases a with
  | nil => simp
  | cons c t =>
    have hr := long_range c
    rw [List.cons_append] at h2
    unfold charLen at h h2
    simp only at h h2
    by_cases h0 : (longOf c).1 = 0
    · simp [h0] at h2
    · rw [if_neg h0] at h h2
      by_cases hl : (longOf c).1.toNat - 1 ≤ t.length
      · rw [conts_app _ _ _ _ _ hl] at h2
        exact absurd h h2
      · simp only [List.length_cons]
        omega
theorem charsFrom_range (l : List Int) (k : Nat) : charsFrom l k = -1 ∨ ((k : Int) ≤ charsFrom l k ∧ charsFrom l k < l.length) := by
  rw [charsFrom]
  by_cases h : k < l.length
  · rw [dif_pos h]
    by_cases h0 : charLen (l.drop k) = 0
    · rw [if_pos h0]
      omega
    · rw [if_neg h0]
      have := charsFrom_range l (k + charLen (l.drop k))
      omega
  · rw [dif_neg h]
    exact .inl rfl
termination_by l.length - k
theorem charsFrom_behind (a b : List Int) (j : Nat) : charsFrom (a ++ b) (a.length + j) = if charsFrom b j = -1 then -1 else a.length + charsFrom b j := by
  have e2 : charsFrom b j = if h : j < b.length then (if charLen (b.drop j) = 0 then (j : Int) else charsFrom b (j + charLen (b.drop j))) else -1 := by rw [charsFrom]
  rw [charsFrom]
  have hd : (a ++ b).drop (a.length + j) = b.drop j := by rw [List.drop_append, List.drop_eq_nil_of_le (by omega), List.nil_append]; congr 1; omega
  by_cases h : j < b.length
  · rw [dif_pos h] at e2
    rw [dif_pos (by rw [List.length_append]; omega), hd]
    by_cases h0 : charLen (b.drop j) = 0
    · rw [if_pos h0] at e2
      rw [if_pos h0, e2, if_neg (by omega)]
      omega
    · rw [if_neg h0] at e2
      rw [if_neg h0, Nat.add_assoc, e2]
      exact charsFrom_behind a b (j + charLen (b.drop j))
  · rw [dif_neg h] at e2
    rw [dif_neg (by rw [List.length_append]; omega), e2, if_pos rfl]
termination_by b.length - j
theorem charsFrom_whole (a b : List Int) (k : Nat) (hk : k ≤ a.length) (h : charsFrom a k = -1) : charsFrom (a ++ b) k = charsFrom (a ++ b) a.length := by
  by_cases hl : k < a.length
  · have hd : (a ++ b).drop k = a.drop k ++ b := List.drop_append_of_le_length hk
    rw [charsFrom, dif_pos hl] at h
    by_cases h0 : charLen (a.drop k) = 0
    · rw [if_pos h0] at h
      omega
    · rw [if_neg h0] at h
      have hle := charLen_le (a.drop k)
      rw [List.length_drop] at hle
      have ih := charsFrom_whole a b (k + charLen (a.drop k)) (by omega) h
      rw [charsFrom, dif_pos (by rw [List.length_append]; omega), hd, charLen_app _ _ h0, if_neg h0]
      exact ih
  · rw [show k = a.length by omega]
termination_by a.length - k
theorem charsFrom_first (a b : List Int) (k : Nat) (hk : k ≤ a.length) (h : charsFrom a k ≠ -1) :
    charsFrom (a ++ b) k = charsFrom a k ∨ ((a.length : Int) - 3 ≤ charsFrom a k ∧ (charsFrom (a ++ b) k < 0 ∨ charsFrom a k < charsFrom (a ++ b) k)) := by
  by_cases hl : k < a.length
  · have hd : (a ++ b).drop k = a.drop k ++ b := List.drop_append_of_le_length hk
    have e1 : charsFrom a k = if charLen (a.drop k) = 0 then (k : Int) else charsFrom a (k + charLen (a.drop k)) := by rw [charsFrom, dif_pos hl]
    have e2 : charsFrom (a ++ b) k = if charLen (a.drop k ++ b) = 0 then (k : Int) else charsFrom (a ++ b) (k + charLen (a.drop k ++ b)) := by rw [charsFrom, dif_pos (by rw [List.length_append]; omega), hd]
    by_cases h0 : charLen (a.drop k) = 0
    · rw [if_pos h0] at e1
      by_cases h1 : charLen (a.drop k ++ b) = 0
      · rw [if_pos h1] at e2
        exact .inl (by omega)
      · rw [if_neg h1] at e2
        have hs := charLen_short _ _ h0 h1
        rw [List.length_drop] at hs
        have hr := charsFrom_range (a ++ b) (k + charLen (a.drop k ++ b))
        rw [← e2] at hr
        exact .inr ⟨by omega, by omega⟩
    · rw [if_neg h0] at e1
      rw [charLen_app _ _ h0, if_neg h0] at e2
      have hle := charLen_le (a.drop k)
      rw [List.length_drop] at hle
      have ih := charsFrom_first a b (k + charLen (a.drop k)) (by omega) (by rw [← e1]; exact h)
      rw [← e1, ← e2] at ih
      exact ih
  · rw [charsFrom, dif_neg hl] at h
    exact absurd rfl h
termination_by a.length - k
theorem joined_first (a b : List Int) (h : 0 ≤ charsOf a) : charsOf a < a.length ∧ (charsOf (a ++ b) = charsOf a ∨ ((a.length : Int) - 3 ≤ charsOf a ∧ (charsOf (a ++ b) < 0 ∨ charsOf a < charsOf (a ++ b)))) := by
  unfold charsOf at *
  have hr := charsFrom_range a 0
  exact ⟨by omega, charsFrom_first a b 0 (Nat.zero_le _) (by omega)⟩
theorem joined_whole (a b : List Int) (h : charsOf a < 0) : charsOf (a ++ b) = if charsOf b = -1 then -1 else a.length + charsOf b := by
  unfold charsOf at *
  have hr := charsFrom_range a 0
  rw [charsFrom_whole a b 0 (Nat.zero_le _) (by omega)]
  exact charsFrom_behind a b 0
theorem chars_range (l : List Int) : charsOf l = -1 ∨ (0 ≤ charsOf l ∧ charsOf l < l.length) := by
  have := charsFrom_range l 0
  unfold charsOf
  omega
end Go.Proofs.Ythbdgakeglppbaa
