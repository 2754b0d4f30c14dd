/- The plain law of WireOrder: of two numbers the lesser one's form is the lesser one, and no form begins another one. -/
import Derived.Test.YthbdgakeglppbaaCompare
import Derived.Test.YthbdgakeglppbaaForm
namespace Go.Proofs.Ythbdgakeglppbaa
theorem cmp_self : ∀ l : List Int, cmpBytes l l = 0
  | [] => rfl
  | a :: s => by simp only [cmpBytes, Int.lt_irrefl, if_false]; exact cmp_self s
/-- A common head falls away. -/
theorem cmp_head (a : Int) (s t : List Int) : cmpBytes (a :: s) (a :: t) = cmpBytes s t := by simp [cmpBytes]
theorem cmp_lt {a b : Int} (h : a < b) (s t : List Int) : cmpBytes (a :: s) (b :: t) = -1 := by simp [cmpBytes, h]
theorem cmp_gt {a b : Int} (h : b < a) (s t : List Int) : cmpBytes (a :: s) (b :: t) = 1 := by
  have : ¬ a < b := by omega
  simp [cmpBytes, h, this]
theorem beBytes_cons (k : Nat) (x : Int) : beBytes (k + 1) x = x / 256 ^ k % 256 :: beBytes k x := by
  unfold beBytes
  rw [List.range_succ_eq_map, List.map_cons, List.map_map]
  congr 1
  refine List.map_congr_left fun t ht => ?_
  simp only [Function.comp]
  rw [show k + 1 - 1 - (t + 1) = k - 1 - t by omega]
/-- Numbers of equally many bytes lie as their bytes lie. -/
theorem cmp_be : ∀ (k : Nat) (x y : Int), 0 ≤ x → 0 ≤ y → x / 256 ^ k = y / 256 ^ k → cmpBytes (beBytes k x) (beBytes k y) = if x < y then -1 else if y < x then 1 else 0
  | 0, x, y, _, _, h => by
    have h : x = y := by simpa using h
    subst h
    simp [beBytes, cmpBytes]
  | k + 1, x, y, hx, hy, h => by
    rw [beBytes_cons, beBytes_cons]
    have hp : (0 : Int) < 256 ^ k := Int.pow_pos (by omega)
    have e : ∀ z : Int, 0 ≤ z → z / 256 ^ (k + 1) = z / 256 ^ k / 256 := fun z _ => by
      rw [Int.pow_succ, Int.ediv_ediv_of_nonneg (Int.le_of_lt hp)]
    rw [e x hx, e y hy] at h
    have mono : ∀ a b : Int, a / 256 ^ k < b / 256 ^ k → a < b := fun a b hab => by
      apply Int.lt_of_not_ge
      intro hge
      have := Int.ediv_le_ediv hp hge
      omega
    rcases Int.lt_trichotomy (x / 256 ^ k) (y / 256 ^ k) with hlt | heq | hgt
    · rw [cmp_lt (by omega), if_pos (mono _ _ hlt)]
    · rw [heq, cmp_head, cmp_be k x y hx hy heq]
    · have := mono _ _ hgt
      rw [cmp_gt (by omega), if_neg (by omega), if_pos this]
theorem byteLen_mono {x y : Int} (h : x ≤ y) : byteLen x ≤ byteLen y := by
  unfold byteLen
  repeat' split
  all_goals omega
theorem byteLen_bound (x : Int) (h0 : 0 ≤ x) (h1 : x < 9223372036854775808) : x / 256 ^ byteLen x = 0 := by
  apply Int.ediv_eq_zero_of_lt h0
  unfold byteLen
  repeat' split
  all_goals omega
theorem form_lt (m n : Int) (h0 : 0 ≤ m) (h : m < n) (h1 : n < 9223372036854775808) : cmpBytes (numForm m) (numForm n) = -1 := by
  unfold numForm
  have r := byteLen_range n
  by_cases hn : n ≤ 247
  · rw [if_pos hn, if_pos (by omega)]
    exact cmp_lt (by omega) _ _
  rw [if_neg hn]
  by_cases hm : m ≤ 247
  · rw [if_pos hm]
    exact cmp_lt (by omega) _ _
  rw [if_neg hm]
  have hle := byteLen_mono (Int.le_of_lt h)
  rcases Nat.lt_or_ge (byteLen m) (byteLen n) with hlt | hge
  · exact cmp_lt (by omega) _ _
  · have he : byteLen m = byteLen n := by omega
    have b1 := byteLen_bound m h0 (by omega)
    have b2 := byteLen_bound n (by omega) h1
    rw [he] at b1
    rw [he, cmp_head, cmp_be _ m n h0 (by omega) (by omega), if_pos h]
theorem cmp_swap : ∀ l r : List Int, cmpBytes l r = - cmpBytes r l
  | [], [] => rfl
  | [], _ :: _ => rfl
  | _ :: _, [] => rfl
  | a :: s, b :: t => by
    simp only [cmpBytes]
    have := cmp_swap s t
    rcases Int.lt_trichotomy a b with h | h | h
    · have h2 : ¬ b < a := by omega
      simp [h, h2]
    · subst h; simpa using this
    · have h2 : ¬ a < b := by omega
      simp [h, h2]
theorem form_gt (m n : Int) (h0 : 0 ≤ n) (h : n < m) (h1 : m < 9223372036854775808) : cmpBytes (numForm m) (numForm n) = 1 := by
  rw [cmp_swap, form_lt n m h0 h h1]
  rfl
/-- How long a form is, by its first byte. -/
def formLen (l : List Int) : Nat := if l.getD 0 0 ≤ 247 then 1 else (l.getD 0 0 - 246).toNat
theorem form_len (x : Int) (h0 : 0 ≤ x) : (numForm x).length = formLen (numForm x) := by
  have r := byteLen_range x
  unfold numForm formLen
  split
  · simp; omega
  · simp only [List.length_cons, beBytes_length, List.getD_cons_zero]
    rw [if_neg (by omega)]
    omega
/-- No form begins another one. -/
theorem form_prefix (m n : Int) (h0 : 0 ≤ m) (h1 : m < 9223372036854775808) (k0 : 0 ≤ n) (k1 : n < 9223372036854775808) (hne : m ≠ n) :
    decide ((numForm n).length ≤ (numForm m).length ∧ (numForm m).take (numForm n).length = numForm n) = false := by
  apply decide_eq_false
  rintro ⟨hle, he⟩
  have hn := numForm_length n
  have hh : formLen (numForm m) = formLen (numForm n) := by
    have : (numForm m).getD 0 0 = (numForm n).getD 0 0 := by
      conv => rhs; rw [← he]
      rw [List.getD_eq_getElem?_getD, List.getD_eq_getElem?_getD, List.getElem?_take, if_pos (by omega)]
    unfold formLen
    rw [this]
  have hl : (numForm n).length = (numForm m).length := by rw [form_len m h0, form_len n k0, hh]
  rw [hl, List.take_length] at he
  have hc := cmp_self (numForm m)
  conv at hc => lhs; arg 2; rw [he]
  rcases Int.lt_trichotomy m n with h | h | h
  · rw [form_lt m n h0 h k1] at hc; cases hc
  · exact hne h
  · rw [form_gt m n k0 h h1] at hc; cases hc
end Go.Proofs.Ythbdgakeglppbaa
