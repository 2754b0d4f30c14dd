/- The payloads of all frames with which bytes begin, and how many bytes these have, in plain words. -/
import Derived.Test.YthbdgakeglppbaaBackLaw
import Derived.Test.YthbdgakeglppbaaFrames1
namespace Go.Proofs.Ythbdgakeglppbaa
open Go.RowKit Go.Proofs.YthbdgakeglppbaaW.PrintWords
def framesF : Nat → List Int → List (List Int) × Nat
  | 0, _ => ([], 0)
  | f + 1, l => if (unframe l).2.2 = 0 then ((unframe l).1 :: (framesF f (l.drop (unframe l).2.1.toNat)).1, (unframe l).2.1.toNat + (framesF f (l.drop (unframe l).2.1.toNat)).2) else ([], 0)
def frames (l : List Int) : List (List Int) × Nat := framesF (l.length + 1) l
/-- What a frame that is found has. -/
theorem unframe_len (l : List Int) (hb : Bytes l) (h : (unframe l).2.2 = 0) : 7 ≤ (unframe l).2.1.toNat ∧ (unframe l).2.1.toNat ≤ l.length ∧ ((unframe l).2.1.toNat : Int) = (unframe l).2.1 ∧ (unframe l).1.length ≤ 65536 := by
  unfold unframe at h ⊢
  by_cases h1 : l.length < 3
  · rw [if_pos h1] at h
    simp at h
  rw [if_neg h1] at h ⊢
  have hr := unLen_range l hb (by omega)
  by_cases h2 : 65536 < unLen l
  · rw [if_pos h2] at h
    simp at h
  rw [if_neg h2] at h ⊢
  by_cases h3 : l.length < (unLen l).toNat + 7
  · rw [if_pos h3] at h
    simp at h
  rw [if_neg h3] at h ⊢
  by_cases h4 : frameOf (unMid l) = l.take ((unLen l).toNat + 7)
  · rw [if_pos h4]
    have := unMid_length l (by omega)
    simp only
    omega
  · rw [if_neg h4] at h
    simp at h
theorem framesF_fuel : ∀ (f f' : Nat) (l : List Int), Bytes l → l.length < f → l.length < f' → framesF f l = framesF f' l
  | 0, _, _, _, h, _ => absurd h (Nat.not_lt_zero _)
  | _ + 1, 0, _, _, _, h => absurd h (Nat.not_lt_zero _)
  | f + 1, f' + 1, l, hb, h, h' => by
    unfold framesF
    by_cases he : (unframe l).2.2 = 0
    · have hk := unframe_len l hb he
      rw [if_pos he, if_pos he, framesF_fuel f f' (l.drop (unframe l).2.1.toNat) (hb.dp _) (by rw [List.length_drop]; omega) (by rw [List.length_drop]; omega)]
    · rw [if_neg he, if_neg he]
theorem frames_ok (l : List Int) (hb : Bytes l) (h : (unframe l).2.2 = 0) : frames l = ((unframe l).1 :: (frames (l.drop (unframe l).2.1.toNat)).1, (unframe l).2.1.toNat + (frames (l.drop (unframe l).2.1.toNat)).2) := by
  have hk := unframe_len l hb h
  unfold frames
  rw [framesF, if_pos h, framesF_fuel l.length ((l.drop (unframe l).2.1.toNat).length + 1) (l.drop (unframe l).2.1.toNat) (hb.dp _) (by rw [List.length_drop]; omega) (by omega)]
theorem frames_bad (l : List Int) (h : (unframe l).2.2 ≠ 0) : frames l = ([], 0) := by
  unfold frames
  rw [framesF, if_neg h]
theorem frames_Bytes : ∀ (f : Nat) (l : List Int), Bytes l → ∀ p ∈ (framesF f l).1, Bytes p
  | 0, _, _ => by simp [framesF]
  | f + 1, l, hb => by
    unfold framesF
    split
    · intro p hp
      rcases List.mem_cons.1 hp with rfl | hp
      · exact unframe_Bytes l hb
      · exact frames_Bytes f _ (hb.dp _) p hp
    · simp
theorem frames_count : ∀ (f : Nat) (l : List Int), Bytes l → 7 * (framesF f l).1.length ≤ l.length ∧ (framesF f l).2 ≤ l.length
  | 0, _, _ => by simp [framesF]
  | f + 1, l, hb => by
    unfold framesF
    by_cases he : (unframe l).2.2 = 0
    · have hk := unframe_len l hb he
      have ih := frames_count f (l.drop (unframe l).2.1.toNat) (hb.dp _)
      rw [List.length_drop] at ih
      rw [if_pos he, List.length_cons]
      simp only
      omega
    · rw [if_neg he]
      simp
end Go.Proofs.Ythbdgakeglppbaa
