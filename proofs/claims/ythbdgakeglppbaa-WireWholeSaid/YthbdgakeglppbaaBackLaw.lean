/- A form, read, is what was put, whatever stands behind. -/
import Derived.Test.YthbdgakeglppbaaCursorAll
import Derived.Test.YthbdgakeglppbaaTorn
namespace Go.Proofs.Ythbdgakeglppbaa
open Go.RowKit Go.Proofs.YthbdgakeglppbaaW.PrintWords
theorem valOf_beBytes : ∀ (m : Nat) (x : Int), 0 ≤ x → x < 256 ^ m → valOf (beBytes m x) = x
  | 0, x, h0, h1 => by
    have : x = 0 := by simp at h1; omega
    subst this
    rfl
  | m + 1, x, h0, h1 => by
    have h2 : x / 256 < 256 ^ m := Int.ediv_lt_of_lt_mul (by decide) (by rw [Int.pow_succ] at h1; exact h1)
    rw [beBytes_succ, valOf_snoc, valOf_beBytes m (x / 256) (by omega) h2]
    omega
theorem byteLen_pow (x : Int) (h0 : 1 ≤ x) (h1 : x < 9223372036854775808) : 256 ^ (byteLen x - 1) ≤ x ∧ x < 256 ^ byteLen x := by
  unfold byteLen
  repeat' split
  all_goals simp
  all_goals omega
theorem readNum_put (x : Int) (hx : x < 9223372036854775808) (t : List Int) : readNum (numForm x ++ t) = ((if x < 0 then 0 else x), ((numForm x).length : Int), 0) := by
  by_cases h1 : x ≤ 247
  · have e : numForm x = [max x 0] := by unfold numForm; rw [if_pos h1]
    rw [e, List.singleton_append, readNum_small _ _ (by omega)]
    have : max x 0 = if x < 0 then 0 else x := by split <;> omega
    rw [this]
    rfl
  · have e : numForm x = (247 + (byteLen x : Int)) :: beBytes (byteLen x) x := by unfold numForm; rw [if_neg h1]
    have hr := byteLen_range x
    have hp := byteLen_pow x (by omega) hx
    have hl := beBytes_length (byteLen x) x
    have hm : (247 + (byteLen x : Int) - 247).toNat = byteLen x := by omega
    have ht : (beBytes (byteLen x) x ++ t).take (247 + (byteLen x : Int) - 247).toNat = beBytes (byteLen x) x := by
      rw [hm]
      conv => lhs; rw [← hl]
      rw [hl, List.take_append_of_le_length (by omega), List.take_of_length_le (by omega)]
    have hv : valOf ((beBytes (byteLen x) x ++ t).take (247 + (byteLen x : Int) - 247).toNat) = x := by rw [ht, valOf_beBytes _ _ (by omega) hp.2]
    rw [e, List.cons_append, readNum_long _ _ (by omega) (by rw [List.length_append, hl, hm]; omega)
      (by
        rw [hv, hm]
        rintro (h | h)
        · omega
        · have hq : (0 : Int) < 256 ^ (byteLen x - 1) := Int.pow_pos (by decide)
          have : 1 ≤ x / 256 ^ (byteLen x - 1) := Int.le_ediv_of_mul_le hq (by omega)
          omega) (by rw [hv]; omega), hv, if_neg (by omega), List.length_cons, hl]
    simp
    omega
theorem readText_put (s : ByteArray) (hs : s.size < 9223372036854775808) (t : List Int) : readText (textForm s ++ t) s.size = (bytesOf s, (textForm s).length, 0) := by
  have hn := readNum_put s.size (by omega) (bytesOf s ++ t)
  rw [← List.append_assoc, if_neg (by omega)] at hn
  have e : textForm s = numForm s.size ++ bytesOf s := rfl
  unfold readText
  rw [e, hn]
  have hl := bytesOf_length s
  rw [if_neg (by simp), if_neg (by omega), if_neg (by simp only [List.length_append]; omega)]
  simp only [Int.toNat_natCast, List.length_append, hl]
  rw [List.append_assoc, List.take_append, List.take_of_length_le (by omega), Nat.add_sub_cancel_left, List.take_append_of_le_length (by omega), List.take_of_length_le (by omega), List.drop_left]
theorem unframe_put (p t : List Int) (h : p.length ≤ 65536) : unframe (frameOf p ++ t) = (p, (p.length : Int) + 7, 0) := by
  have hl := frame_length p
  have h0 : unLen (frameOf p ++ t) = p.length := by
    rw [← unLen_take (frameOf p ++ t) (frameOf p).length (by omega), List.take_left, frame_head p h]
  have hm : unMid (frameOf p ++ t) = p := by
    unfold unMid
    rw [h0, Int.toNat_natCast]
    have e : frameOf p ++ t = frameHead p.length ++ (p ++ (wordBytes (wireSum (frameHead p.length ++ p)) ++ t)) := by unfold frameOf; simp only [List.append_assoc]
    have h3 : (frameHead (p.length : Int)).length = 3 := rfl
    rw [e, Nat.add_comm, ← h3, List.take_append, List.take_of_length_le (by omega), Nat.add_sub_cancel_left, List.take_left, List.drop_left]
  unfold unframe
  rw [h0, hm, Int.toNat_natCast, List.length_append, hl, if_neg (by omega), if_neg (by omega), if_neg (by omega), if_pos (by rw [← hl, List.take_left])]
end Go.Proofs.Ythbdgakeglppbaa
