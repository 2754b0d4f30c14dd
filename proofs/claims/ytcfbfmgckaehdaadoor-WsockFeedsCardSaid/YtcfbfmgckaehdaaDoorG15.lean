/- The texts CharLaw in one. -/
import Derived.Test.YtcfbfmgckaehdaaDoorG14
namespace Go.Proofs.YtcfbfmgckaehdaaDoor
open Go.RowKit Go.Proofs.YtcfbfmgckaehdaaDoorW.PrintWords
theorem numOf_one (a : Int) (t : List Int) : numOf (a :: t) 1 = a := rfl
theorem numOf_two (a b : Int) (t : List Int) : numOf (a :: b :: t) 2 = 64 * (a % 32) + b % 64 := rfl
theorem numOf_three (a b c : Int) (t : List Int) : numOf (a :: b :: c :: t) 3 = 64 * (64 * (a % 16) + b % 64) + c % 64 := rfl
theorem numOf_four (a b c d : Int) (t : List Int) : numOf (a :: b :: c :: d :: t) 4 = 64 * (64 * (64 * (a % 8) + b % 64) + c % 64) + d % 64 := rfl
theorem badNum_iff (n : Int) : badNum n = true ↔ (1114111 < n ∨ (55296 ≤ n ∧ n < 57344)) := by simp [badNum]
theorem ok_iff (l : List Int) (k : Nat) : firstOk l k = true ↔ (¬ (1114111 < numOf l k ∨ (55296 ≤ numOf l k ∧ numOf l k < 57344)) ∧ charForm (numOf l k) = l.take k) := by
  unfold firstOk
  rw [Bool.and_eq_true, decide_eq_true_eq, Bool.not_eq_true', ← Bool.not_eq_true, badNum_iff]
theorem form_one (n a : Int) : charForm n = [a] ↔ (n < 128 ∧ n = a) := by
  unfold charForm
  repeat' split
  all_goals simp
  all_goals omega
theorem form_two (n a b : Int) : charForm n = [a, b] ↔ (128 ≤ n ∧ n < 2048 ∧ 192 + n / 64 = a ∧ 128 + n % 64 = b) := by
  unfold charForm
  repeat' split
  all_goals simp
  all_goals omega
theorem form_three (n a b c : Int) : charForm n = [a, b, c] ↔ (2048 ≤ n ∧ n < 65536 ∧ 224 + n / 4096 = a ∧ 128 + n / 64 % 64 = b ∧ 128 + n % 64 = c) := by
  unfold charForm
  repeat' split
  all_goals simp
  all_goals omega
theorem form_four (n a b c d : Int) : charForm n = [a, b, c, d] ↔ (65536 ≤ n ∧ 240 + n / 262144 = a ∧ 128 + n / 4096 % 64 = b ∧ 128 + n / 64 % 64 = c ∧ 128 + n % 64 = d) := by
  unfold charForm
  repeat' split
  all_goals simp
  all_goals omega
theorem ok_one (a : Int) (t : List Int) : firstOk (a :: t) 1 = true ↔ a < 128 := by
  rw [ok_iff, numOf_one, show (a :: t).take 1 = [a] from rfl, form_one]
  omega
theorem ok_two (a b : Int) (t : List Int) (a0 : 0 ≤ a) (a1 : a < 256) (b0 : 0 ≤ b) (b1 : b < 256) : firstOk (a :: b :: t) 2 = true ↔ (194 ≤ a ∧ a ≤ 223 ∧ 128 ≤ b ∧ b ≤ 191) := by
  rw [ok_iff, numOf_two, show (a :: b :: t).take 2 = [a, b] from rfl, form_two]
  obtain ⟨n, hn⟩ : ∃ n, n = 64 * (a % 32) + b % 64 := ⟨_, rfl⟩
  rw [← hn]
  constructor
  · intro h; omega
  · intro h; omega
theorem ok_three (a b c : Int) (t : List Int) (a0 : 0 ≤ a) (a1 : a < 256) (b0 : 0 ≤ b) (b1 : b < 256) (c0 : 0 ≤ c) (c1 : c < 256) : firstOk (a :: b :: c :: t) 3 = true ↔ (224 ≤ a ∧ a ≤ 239 ∧ 128 ≤ b ∧ b ≤ 191 ∧ 128 ≤ c ∧ c ≤ 191 ∧ (a = 224 → 160 ≤ b) ∧ (a = 237 → b ≤ 159)) := by
  rw [ok_iff, numOf_three, show (a :: b :: c :: t).take 3 = [a, b, c] from rfl, form_three]
  obtain ⟨n, hn⟩ : ∃ n, n = 64 * (64 * (a % 16) + b % 64) + c % 64 := ⟨_, rfl⟩
  rw [← hn]
  constructor
  · intro h; omega
  · intro h; omega
theorem ok_four (a b c d : Int) (t : List Int) (a0 : 0 ≤ a) (a1 : a < 256) (b0 : 0 ≤ b) (b1 : b < 256) (c0 : 0 ≤ c) (c1 : c < 256) (d0 : 0 ≤ d) (d1 : d < 256) : firstOk (a :: b :: c :: d :: t) 4 = true ↔ (240 ≤ a ∧ a ≤ 244 ∧ 128 ≤ b ∧ b ≤ 191 ∧ 128 ≤ c ∧ c ≤ 191 ∧ 128 ≤ d ∧ d ≤ 191 ∧ (a = 240 → 144 ≤ b) ∧ (a = 244 → b ≤ 143)) := by
  rw [ok_iff, numOf_four, show (a :: b :: c :: d :: t).take 4 = [a, b, c, d] from rfl, form_four]
  obtain ⟨n, hn⟩ : ∃ n, n = 64 * (64 * (64 * (a % 8) + b % 64) + c % 64) + d % 64 := ⟨_, rfl⟩
  rw [← hn]
  constructor
  · intro h; omega
  · intro h; omega
theorem charLen_of (a : Int) (t : List Int) (n : Nat) (lo hi : Int) (h : longOf a = ((n : Int), lo, hi)) : charLen (a :: t) = if n = 0 then 0 else if conts (n - 1) lo hi t then n else 0 := by
  simp only [charLen, h]
  simp
theorem charLen_cons (a : Int) (t : List Int) : charLen (a :: t) = if a < 128 then 1 else if a < 194 then 0 else if a < 224 then (if conts 1 128 191 t then 2 else 0) else if a = 224 then (if conts 2 160 191 t then 3 else 0) else if a = 237 then (if conts 2 128 159 t then 3 else 0) else if a < 240 then (if conts 2 128 191 t then 3 else 0) else if a = 240 then (if conts 3 144 191 t then 4 else 0) else if a < 244 then (if conts 3 128 191 t then 4 else 0) else if a = 244 then (if conts 3 128 143 t then 4 else 0) else 0 := by
  by_cases c0 : a < 128
  · rw [charLen_of a t 1 128 191 (by unfold longOf; repeat' split; all_goals first | rfl | omega)]
    rw [if_pos c0]
    first | rfl | (simp [conts]; done)
  by_cases c1 : a < 194
  · rw [charLen_of a t 0 0 0 (by unfold longOf; repeat' split; all_goals first | rfl | omega)]
    rw [if_neg c0, if_pos c1]
    first | rfl | (simp [conts]; done)
  by_cases c2 : a < 224
  · rw [charLen_of a t 2 128 191 (by unfold longOf; repeat' split; all_goals first | rfl | omega)]
    rw [if_neg c0, if_neg c1, if_pos c2]
    first | rfl | (simp [conts]; done)
  by_cases c3 : a = 224
  · rw [charLen_of a t 3 160 191 (by unfold longOf; repeat' split; all_goals first | rfl | omega)]
    rw [if_neg c0, if_neg c1, if_neg c2, if_pos c3]
    first | rfl | (simp [conts]; done)
  by_cases c4 : a = 237
  · rw [charLen_of a t 3 128 159 (by unfold longOf; repeat' split; all_goals first | rfl | omega)]
    rw [if_neg c0, if_neg c1, if_neg c2, if_neg c3, if_pos c4]
    first | rfl | (simp [conts]; done)
  by_cases c5 : a < 240
  · rw [charLen_of a t 3 128 191 (by unfold longOf; repeat' split; all_goals first | rfl | omega)]
    rw [if_neg c0, if_neg c1, if_neg c2, if_neg c3, if_neg c4, if_pos c5]
    first | rfl | (simp [conts]; done)
  by_cases c6 : a = 240
  · rw [charLen_of a t 4 144 191 (by unfold longOf; repeat' split; all_goals first | rfl | omega)]
    rw [if_neg c0, if_neg c1, if_neg c2, if_neg c3, if_neg c4, if_neg c5, if_pos c6]
    first | rfl | (simp [conts]; done)
  by_cases c7 : a < 244
  · rw [charLen_of a t 4 128 191 (by unfold longOf; repeat' split; all_goals first | rfl | omega)]
    rw [if_neg c0, if_neg c1, if_neg c2, if_neg c3, if_neg c4, if_neg c5, if_neg c6, if_pos c7]
    first | rfl | (simp [conts]; done)
  by_cases c8 : a = 244
  · rw [charLen_of a t 4 128 143 (by unfold longOf; repeat' split; all_goals first | rfl | omega)]
    rw [if_neg c0, if_neg c1, if_neg c2, if_neg c3, if_neg c4, if_neg c5, if_neg c6, if_neg c7, if_pos c8]
    first | rfl | (simp [conts]; done)
  rw [charLen_of a t 0 0 0 (by unfold longOf; repeat' split; all_goals first | rfl | omega)]
  rw [if_neg c0, if_neg c1, if_neg c2, if_neg c3, if_neg c4, if_neg c5, if_neg c6, if_neg c7, if_neg c8]
  rfl
set_option maxHeartbeats 4000000 in
theorem first_charLen (l : List Int) (h : Bytes l) (h0 : 0 < l.length) : firstFrom l 4 1 = charLen l := by
  match l, h, h0 with
  | [a], h, _ =>
    obtain ⟨a0, a1⟩ := h a (by simp)
    have e1 := ok_one a []
    rw [charLen_cons]
    simp only [firstFrom, List.length_cons, List.length_nil, conts]
    cases q1 : firstOk [a] 1 <;> rw [q1] at e1
    all_goals
      simp only [true_iff, Bool.false_eq_true, false_iff] at e1
      try (exfalso; omega)
    all_goals
      simp
      repeat' split
      all_goals first | rfl | omega
  | [a, b], h, _ =>
    obtain ⟨a0, a1⟩ := h a (by simp)
    obtain ⟨b0, b1⟩ := h b (by simp)
    have e1 := ok_one a [b]
    have e2 := ok_two a b [] a0 a1 b0 b1
    rw [charLen_cons]
    simp only [firstFrom, List.length_cons, List.length_nil, conts]
    cases q1 : firstOk [a, b] 1 <;> cases q2 : firstOk [a, b] 2 <;> rw [q1] at e1 <;> rw [q2] at e2
    all_goals
      simp only [true_iff, Bool.false_eq_true, false_iff] at e1 e2
      try (exfalso; omega)
    all_goals
      simp
      repeat' split
      all_goals first | rfl | omega
  | [a, b, c], h, _ =>
    obtain ⟨a0, a1⟩ := h a (by simp)
    obtain ⟨b0, b1⟩ := h b (by simp)
    obtain ⟨c0, c1⟩ := h c (by simp)
    have e1 := ok_one a [b, c]
    have e2 := ok_two a b [c] a0 a1 b0 b1
    have e3 := ok_three a b c [] a0 a1 b0 b1 c0 c1
    rw [charLen_cons]
    simp only [firstFrom, List.length_cons, List.length_nil, conts]
    cases q1 : firstOk [a, b, c] 1 <;> cases q2 : firstOk [a, b, c] 2 <;> cases q3 : firstOk [a, b, c] 3 <;> rw [q1] at e1 <;> rw [q2] at e2 <;> rw [q3] at e3
    all_goals
      simp only [true_iff, Bool.false_eq_true, false_iff] at e1 e2 e3
      try (exfalso; omega)
    all_goals
      simp
      repeat' split
      all_goals first | rfl | omega
  | a :: b :: c :: d :: t, h, _ =>
    obtain ⟨a0, a1⟩ := h a (by simp)
    obtain ⟨b0, b1⟩ := h b (by simp)
    obtain ⟨c0, c1⟩ := h c (by simp)
    obtain ⟨d0, d1⟩ := h d (by simp)
    have e1 := ok_one a (b :: c :: d :: t)
    have e2 := ok_two a b (c :: d :: t) a0 a1 b0 b1
    have e3 := ok_three a b c (d :: t) a0 a1 b0 b1 c0 c1
    have e4 := ok_four a b c d t a0 a1 b0 b1 c0 c1 d0 d1
    rw [charLen_cons]
    simp only [firstFrom, List.length_cons, conts]
    cases q1 : firstOk (a :: b :: c :: d :: t) 1 <;> cases q2 : firstOk (a :: b :: c :: d :: t) 2 <;> cases q3 : firstOk (a :: b :: c :: d :: t) 3 <;> cases q4 : firstOk (a :: b :: c :: d :: t) 4 <;> rw [q1] at e1 <;> rw [q2] at e2 <;> rw [q3] at e3 <;> rw [q4] at e4
    all_goals
      simp only [true_iff, Bool.false_eq_true, false_iff] at e1 e2 e3 e4
      try (exfalso; omega)
    all_goals
      simp
      repeat' split
      all_goals first | rfl | omega
end Go.Proofs.YtcfbfmgckaehdaaDoor
