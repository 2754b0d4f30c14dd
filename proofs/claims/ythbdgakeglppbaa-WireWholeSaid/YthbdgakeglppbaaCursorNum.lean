/- wire.Cursor: peek in one contract; Number. -/
import Derived.Test.YthbdgakeglppbaaPeek
namespace Go.Proofs.Ythbdgakeglppbaa
open Go.RowKit Go.Proofs.YthbdgakeglppbaaW.PrintWords
theorem drop_cons (l : List Int) (a : Nat) (h : a < l.length) : l.drop a = rd l a :: l.drop (a + 1) := by
  rw [rd_get l a h]
  exact List.drop_eq_getElem_cons h
theorem readNum_small (b : Int) (t : List Int) (h : b ≤ 247) : readNum (b :: t) = (b, 1, 0) := if_pos h
theorem readNum_short (b : Int) (t : List Int) (h : 247 < b) (hs : t.length < (b - 247).toNat) : readNum (b :: t) = (0, 0, 2) := (if_neg (by omega)).trans (if_pos hs)
theorem readNum_form (b : Int) (t : List Int) (h : 247 < b) (hs : ¬ t.length < (b - 247).toNat) (hf : valOf (t.take (b - 247).toNat) ≤ 247 ∨ valOf (t.take (b - 247).toNat) / 256 ^ ((b - 247).toNat - 1) = 0) : readNum (b :: t) = (0, 0, 10) :=
  (if_neg (by omega)).trans ((if_neg hs).trans (if_pos hf))
theorem readNum_big (b : Int) (t : List Int) (h : 247 < b) (hs : ¬ t.length < (b - 247).toNat) (hf : ¬ (valOf (t.take (b - 247).toNat) ≤ 247 ∨ valOf (t.take (b - 247).toNat) / 256 ^ ((b - 247).toNat - 1) = 0)) (hb : 9223372036854775808 ≤ valOf (t.take (b - 247).toNat)) : readNum (b :: t) = (0, 0, 5) :=
  (if_neg (by omega)).trans ((if_neg hs).trans ((if_neg hf).trans (if_pos hb)))
theorem readNum_long (b : Int) (t : List Int) (h : 247 < b) (hs : ¬ t.length < (b - 247).toNat) (hf : ¬ (valOf (t.take (b - 247).toNat) ≤ 247 ∨ valOf (t.take (b - 247).toNat) / 256 ^ ((b - 247).toNat - 1) = 0)) (hb : ¬ 9223372036854775808 ≤ valOf (t.take (b - 247).toNat)) : readNum (b :: t) = (valOf (t.take (b - 247).toNat), b - 246, 0) :=
  (if_neg (by omega)).trans ((if_neg hs).trans ((if_neg hf).trans (if_neg hb)))
theorem peek_calls {g p : Nat} {A : Option Addr} {n c : Nat} {l : List Int} {a : Nat} (w : World) (h : Cur w g p A n c l a) (hb : Bytes l) :
    Calls Try.prog 64 #[.pointer (some ⟨g, 0, none⟩)] w fun e w' => e = .returned (.tuple #[.int .i64 (readNum (l.drop a)).1, .int .i64 (readNum (l.drop a)).2.1, .int .i64 (readNum (l.drop a)).2.2]) ∧ Drawn0 w w' := by
  have hlen := Kd.C_len h.row
  have hle := h.le
  by_cases ha : a = n
  · rw [List.drop_eq_nil_of_le (by omega)]
    exact peek_none w h ha
  have hd := drop_cons l a (by omega)
  obtain ⟨b0, b1⟩ := bytes_rd hb a (by omega)
  rw [hd]
  by_cases h1 : rd l a ≤ 247
  · rw [readNum_small _ _ h1]
    exact peek_one w h hb (by omega) h1
  have htl : (l.drop (a + 1)).length = n - (a + 1) := by rw [List.length_drop, hlen]
  by_cases h2 : (l.drop (a + 1)).length < (rd l a - 247).toNat
  · rw [readNum_short _ _ (by omega) h2]
    exact peek_short w h hb (by omega) (by omega) (by omega)
  obtain ⟨m, hm⟩ : ∃ m, m = (rd l a - 247).toNat := ⟨_, rfl⟩
  have hx : valOf ((l.take (a + 1 + m)).drop (a + 1)) = valOf ((l.drop (a + 1)).take m) := by rw [List.drop_take, show a + 1 + m - (a + 1) = m by omega]
  by_cases h3 : valOf ((l.drop (a + 1)).take m) ≤ 247 ∨ valOf ((l.drop (a + 1)).take m) / 256 ^ (m - 1) = 0
  · rw [readNum_form _ _ (by omega) h2 (hm ▸ h3)]
    exact peek_long w h hb m (by omega) (by omega) (by omega) (by omega) _ hx.symm _ (.inl ⟨h3, rfl⟩)
  by_cases h4 : 9223372036854775808 ≤ valOf ((l.drop (a + 1)).take m)
  · rw [readNum_big _ _ (by omega) h2 (hm ▸ h3) (hm ▸ h4)]
    exact peek_long w h hb m (by omega) (by omega) (by omega) (by omega) _ hx.symm _ (.inr (.inl ⟨h3, h4, rfl⟩))
  · rw [readNum_long _ _ (by omega) h2 (hm ▸ h3) (hm ▸ h4)]
    have := peek_long w h hb m (by omega) (by omega) (by omega) (by omega) _ hx.symm _ (.inr (.inr ⟨h3, by omega, rfl⟩))
    rw [← hm, show rd l a - 246 = (m : Int) + 1 by omega]
    exact this
/-- What a number that is read has. -/
theorem readNum_ok (r : List Int) (hb : Bytes r) (h : (readNum r).2.2 = 0) : 1 ≤ (readNum r).2.1 ∧ (readNum r).2.1 ≤ r.length ∧ 0 ≤ (readNum r).1 ∧ (readNum r).1 < 9223372036854775808 := by
  cases r with
  | nil => simp [readNum] at h
  | cons b t =>
    have hb0 := hb b (by simp)
    have hv := (valOf_range (t.take (b - 247).toNat) (fun x hx => hb x (by simp [List.mem_of_mem_take hx]))).1
    unfold readNum at h ⊢
    simp only at h ⊢
    repeat' split
    all_goals simp_all
    all_goals omega
theorem readNum_bad (r : List Int) (h : (readNum r).2.2 ≠ 0) : (readNum r).1 = 0 ∧ (readNum r).2.1 = 0 := by
  cases r with
  | nil => simp [readNum]
  | cons b t =>
    unfold readNum at h ⊢
    simp only at h ⊢
    repeat' split
    all_goals simp_all
end Go.Proofs.Ythbdgakeglppbaa
