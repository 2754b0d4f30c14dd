/- What is read, put again. -/
import Derived.Test.YthbdgakeglppbaaCursorNum
import Derived.Test.YthbdgakeglppbaaFormRef
namespace Go.Proofs.Ythbdgakeglppbaa
open Go.RowKit Go.Proofs.YthbdgakeglppbaaW.PrintWords
theorem beBytes_valOf : ∀ (m : Nat) (t : List Int), t.length = m → Bytes t → beBytes m (valOf t) = t
  | 0, t, h, _ => by rw [List.eq_nil_of_length_eq_zero h]; rfl
  | m + 1, t, h, hb => by
    rcases List.eq_nil_or_concat t with rfl | ⟨l, d, rfl⟩
    · simp at h
    · rw [List.concat_eq_append] at h hb ⊢
      have hd := hb d (by simp)
      rw [valOf_snoc, beBytes_succ, show (256 * valOf l + d) / 256 = valOf l by omega, show (256 * valOf l + d) % 256 = d by omega, beBytes_valOf m l (by simpa using h) (fun x hx => hb x (by simp [hx]))]
theorem byteLen_of (m : Nat) (x : Int) (h1 : 1 ≤ m) (h8 : m ≤ 8) (hlo : 256 ^ (m - 1) ≤ x) (hhi : x < 256 ^ m) : byteLen x = m := by
  have hm : m = 1 ∨ m = 2 ∨ m = 3 ∨ m = 4 ∨ m = 5 ∨ m = 6 ∨ m = 7 ∨ m = 8 := by omega
  rcases hm with rfl | rfl | rfl | rfl | rfl | rfl | rfl | rfl
  all_goals
    simp at hlo hhi
    unfold byteLen
    repeat' split
    all_goals omega
theorem numForm_read (r : List Int) (hb : Bytes r) (N : Int) (K : Nat) (h : readNum r = (N, (K : Int), 0)) : numForm N = r.take K := by
  cases r with
  | nil => simp [readNum] at h
  | cons b t =>
    have hb0 := hb b (by simp)
    by_cases h1 : b ≤ 247
    · rw [readNum_small _ _ h1] at h
      simp only [Prod.mk.injEq] at h
      obtain ⟨rfl, hK, _⟩ := h
      rw [show K = 1 by omega]
      unfold numForm
      rw [if_pos h1, Int.max_eq_left hb0.1]
      rfl
    by_cases h2 : t.length < (b - 247).toNat
    · rw [readNum_short _ _ (by omega) h2] at h
      simp at h
    by_cases h3 : valOf (t.take (b - 247).toNat) ≤ 247 ∨ valOf (t.take (b - 247).toNat) / 256 ^ ((b - 247).toNat - 1) = 0
    · rw [readNum_form _ _ (by omega) h2 h3] at h
      simp at h
    by_cases h4 : 9223372036854775808 ≤ valOf (t.take (b - 247).toNat)
    · rw [readNum_big _ _ (by omega) h2 h3 h4] at h
      simp at h
    rw [readNum_long _ _ (by omega) h2 h3 h4] at h
    simp only [Prod.mk.injEq] at h
    obtain ⟨rfl, hK, _⟩ := h
    obtain ⟨m, hm⟩ : ∃ m, m = (b - 247).toNat := ⟨_, rfl⟩
    rw [← hm] at h2 h3 h4 ⊢
    have hbt : Bytes (t.take m) := fun x hx => hb x (by simp [List.mem_of_mem_take hx])
    have hr := valOf_range (t.take m) hbt
    have hl : (t.take m).length = m := by rw [List.length_take]; omega
    rw [hl] at hr
    have hlo : (256 : Int) ^ (m - 1) ≤ valOf (t.take m) := by
      have hp : (0 : Int) < 256 ^ (m - 1) := Int.pow_pos (by decide)
      rcases Int.lt_or_le (valOf (t.take m)) (256 ^ (m - 1)) with hlt | hge
      · exact absurd (.inr (Int.ediv_eq_zero_of_lt hr.1 hlt)) h3
      · exact hge
    have hbl := byteLen_of m _ (by omega) (by omega) hlo hr.2
    unfold numForm
    rw [if_neg (by omega), hbl, beBytes_valOf m _ hl hbt, show K = m + 1 by omega, List.take_succ_cons, show (247 : Int) + m = b by omega]
end Go.Proofs.Ythbdgakeglppbaa
