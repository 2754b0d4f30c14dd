/- wire.Cursor: Number and Text, each in one contract; what is read, put again. -/
import Derived.Test.YthbdgakeglppbaaCursorRest
import Derived.Test.YthbdgakeglppbaaReadForm
namespace Go.Proofs.Ythbdgakeglppbaa
open Go.RowKit Go.Proofs.YthbdgakeglppbaaW.PrintWords
/-- The text with which bytes begin, how many bytes its form has, or why there is none. -/
def readText (r : List Int) (most : Int) : List Int × Nat × Int :=
  if (readNum r).2.2 ≠ 0 then ([], 0, (readNum r).2.2)
  else if max most 0 < (readNum r).1 then ([], 0, 4)
  else if (r.length : Int) - (readNum r).2.1 < (readNum r).1 then ([], 0, 2)
  else ((r.take ((readNum r).2.1.toNat + (readNum r).1.toNat)).drop (readNum r).2.1.toNat, (readNum r).2.1.toNat + (readNum r).1.toNat, 0)
theorem CNumber_calls {g p : Nat} {A : Option Addr} {n c : Nat} {l : List Int} {a : Nat} (w : World) (h : Cur w g p A n c l a) (hb : Bytes l) :
    Calls Try.prog 43 #[.pointer (some ⟨g, 0, none⟩)] w fun e w' => e = .returned (.tuple #[.int .i64 (readNum (l.drop a)).1, .int .i64 (readNum (l.drop a)).2.2]) ∧ Cur w' g p A n c l (a + (readNum (l.drop a)).2.1.toNat) ∧ w.grownBy w' (some p) := by
  by_cases hE : (readNum (l.drop a)).2.2 = 0
  · have hk := readNum_ok _ (hb.dp a) hE
    have hr : readNum (l.drop a) = ((readNum (l.drop a)).1, ((readNum (l.drop a)).2.1.toNat : Int), 0) := by rw [← hE, Int.toNat_of_nonneg (by omega)]
    exact (CNumber_ok w h hb (readNum (l.drop a)).1 (readNum (l.drop a)).2.1.toNat hr).mono fun e w' ⟨h1, h2, h3⟩ => ⟨by rw [h1, hE], h2, h3⟩
  · have hk := readNum_bad _ hE
    refine (CNumber_bad w h hb (readNum (l.drop a)).2.2 hE (Prod.ext hk.1 (Prod.ext hk.2 rfl))).mono fun e w' ⟨h1, h2⟩ => ⟨by rw [h1, hk.1], ?_, Lib.grownBy_below (World.grownBy.refl w (some p)) h2.below⟩
    rw [hk.2]
    exact h.below h2.below
theorem CText_calls {g p : Nat} {A : Option Addr} {n c : Nat} {l : List Int} {a : Nat} (most : Int) (w : World) (h : Cur w g p A n c l a) (hb : Bytes l) :
    Calls Try.prog 44 #[.pointer (some ⟨g, 0, none⟩), .int .i64 most] w fun e w' => e = .returned (.tuple #[.string (strOfNums (readText (l.drop a) most).1), .int .i64 (readText (l.drop a) most).2.2]) ∧ Cur w' g p A n c l (a + (readText (l.drop a) most).2.1) ∧ w.grownBy w' (some p) := by
  have hlen := Kd.C_len h.row
  have hle := h.le
  unfold readText
  by_cases hE : (readNum (l.drop a)).2.2 = 0
  · have hk := readNum_ok _ (hb.dp a) hE
    have hr : readNum (l.drop a) = ((readNum (l.drop a)).1, ((readNum (l.drop a)).2.1.toNat : Int), 0) := by rw [← hE, Int.toNat_of_nonneg (by omega)]
    rw [if_neg (by simp [hE])]
    by_cases h1 : max most 0 < (readNum (l.drop a)).1
    · rw [if_pos h1]
      exact (CText_long most w h hb _ _ hr h1).mono fun e w' ⟨h1, h2⟩ => ⟨h1, h.below h2.below, Lib.grownBy_below (World.grownBy.refl w (some p)) h2.below⟩
    rw [if_neg h1]
    have hdl : (l.drop a).length = n - a := by rw [List.length_drop, hlen]
    by_cases h2 : ((l.drop a).length : Int) - (readNum (l.drop a)).2.1 < (readNum (l.drop a)).1
    · rw [if_pos h2]
      exact (CText_short most w h hb _ _ hr h1 (by omega)).mono fun e w' ⟨h1, h2⟩ => ⟨h1, h.below h2.below, Lib.grownBy_below (World.grownBy.refl w (some p)) h2.below⟩
    rw [if_neg h2]
    refine (CText_ok most w h hb _ _ hr (readNum (l.drop a)).1.toNat (by omega) h1 (by omega)).mono fun e w' ⟨h1, h2, h3⟩ => ⟨?_, h2, h3⟩
    rw [h1, List.take_drop, List.drop_drop, ← Nat.add_assoc]
  · have hk := readNum_bad _ hE
    rw [if_pos hE]
    exact (CText_bad most w h hb (readNum (l.drop a)).2.2 hE (Prod.ext hk.1 (Prod.ext hk.2 rfl))).mono fun e w' ⟨h1, h2⟩ => ⟨h1, h.below h2.below, Lib.grownBy_below (World.grownBy.refl w (some p)) h2.below⟩
theorem strOf_size (l : List Int) : (strOfNums l).size = l.length := by
  show (strOfNums l).data.size = _
  rw [← Array.length_toList, strOfNums_data, List.length_map]
theorem textForm_read (r : List Int) (hb : Bytes r) (most : Int) (h : (readText r most).2.2 = 0) : textForm (strOfNums (readText r most).1) = r.take (readText r most).2.1 ∧ (readText r most).2.1 ≤ r.length := by
  unfold readText at h ⊢
  by_cases hE : (readNum r).2.2 = 0
  · have hk := readNum_ok _ hb hE
    have hr : readNum r = ((readNum r).1, ((readNum r).2.1.toNat : Int), 0) := by rw [← hE, Int.toNat_of_nonneg (by omega)]
    have hf := numForm_read r hb _ _ hr
    rw [if_neg (by simp [hE])] at h ⊢
    by_cases h1 : max most 0 < (readNum r).1
    · rw [if_pos h1] at h
      simp at h
    rw [if_neg h1] at h ⊢
    by_cases h2 : (r.length : Int) - (readNum r).2.1 < (readNum r).1
    · rw [if_pos h2] at h
      simp at h
    rw [if_neg h2]
    simp only
    obtain ⟨K, hK⟩ : ∃ K, K = (readNum r).2.1.toNat := ⟨_, rfl⟩
    obtain ⟨M, hM⟩ : ∃ M, M = (readNum r).1.toNat := ⟨_, rfl⟩
    rw [← hK] at hf ⊢
    rw [← hM]
    refine ⟨?_, by omega⟩
    have hl : ((r.take (K + M)).drop K).length = M := by rw [List.length_drop, List.length_take]; omega
    unfold textForm
    rw [bytes_strOf ((hb.tk _).dp _), strOf_size, hl, show (M : Int) = (readNum r).1 by omega, hf, List.drop_take, List.take_add, show K + M - K = M by omega]
  · rw [if_pos hE] at h
    exact absurd h hE
theorem readText_bad (r : List Int) (most : Int) (h : (readText r most).2.2 ≠ 0) : (readText r most).2.1 = 0 := by
  unfold readText at h ⊢
  by_cases hE : (readNum r).2.2 = 0
  · rw [if_neg (by simp [hE])] at h ⊢
    by_cases h1 : max most 0 < (readNum r).1
    · rw [if_pos h1]
    rw [if_neg h1] at h ⊢
    by_cases h2 : (r.length : Int) - (readNum r).2.1 < (readNum r).1
    · rw [if_pos h2]
    · rw [if_neg h2] at h
      exact absurd rfl h
  · rw [if_pos hE]
end Go.Proofs.Ythbdgakeglppbaa
