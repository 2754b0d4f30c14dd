/- Frames one behind the other, the last of them cut off: what is found, in plain words. -/
import Derived.Test.YthbdgakeglppbaaFramesLaw
namespace Go.Proofs.Ythbdgakeglppbaa
open Go.RowKit Go.Proofs.YthbdgakeglppbaaW.PrintWords
def flat : List (List Int) → List Int
  | [] => []
  | p :: t => frameOf p ++ flat t
theorem flat_snoc (ls : List (List Int)) (p : List Int) : flat (ls ++ [p]) = flat ls ++ frameOf p := by
  induction ls with
  | nil => simp [flat]
  | cons q t ih => rw [List.cons_append, flat, flat, ih, List.append_assoc]
theorem flat_take (ls : List (List Int)) (q : Nat) (h : q < ls.length) : flat (ls.take (q + 1)) = flat (ls.take q) ++ frameOf (ls.getD q []) := by
  rw [List.take_succ_eq_append_getElem h, flat_snoc, List.getD_eq_getElem?_getD, List.getElem?_eq_getElem h]
  rfl
theorem flat_Bytes (ls : List (List Int)) (h : ∀ p ∈ ls, Bytes p) : Bytes (flat ls) := by
  induction ls with
  | nil => exact Bytes.nil
  | cons p t ih => exact (frame_Bytes p (h p (by simp))).app (ih fun q hq => h q (by simp [hq]))
def endsOf (ls : List (List Int)) (q : Nat) : List Int := (List.range q).map fun t => ((flat (ls.take (t + 1))).length : Int)
theorem endsOf_length (ls : List (List Int)) (q : Nat) : (endsOf ls q).length = q := by simp [endsOf]
theorem endsOf_succ (ls : List (List Int)) (q : Nat) : endsOf ls (q + 1) = endsOf ls q ++ [((flat (ls.take (q + 1))).length : Int)] := by
  unfold endsOf
  rw [List.range_succ, List.map_append]
  rfl
theorem endsOf_rd (ls : List (List Int)) (q i : Nat) (h : i < q) : rd (endsOf ls q) i = (flat (ls.take (i + 1))).length := by
  rw [rd_get _ i (by rw [endsOf_length]; exact h)]
  simp [endsOf]
theorem frames_put (p t : List Int) (hp : Bytes p) (ht : Bytes t) (h : p.length ≤ 65536) : frames (frameOf p ++ t) = (p :: (frames t).1, p.length + 7 + (frames t).2) := by
  have hu := unframe_put p t h
  have hl := frame_length p
  rw [frames_ok _ ((frame_Bytes p hp).app ht) (by rw [hu]), hu]
  have e : ((p.length : Int) + 7).toNat = (frameOf p).length := by omega
  simp only [e, List.drop_left]
  rw [hl]
theorem frames_cut (p : List Int) (h : p.length ≤ 65536) (m : Nat) (hm : m < p.length + 7) : frames ((frameOf p).take m) = ([], 0) := by
  have hu := unframe_take p h m hm
  exact frames_bad _ (by rw [hu]; simp)
theorem frames_nil : frames [] = ([], 0) := by decide +kernel
theorem frames_whole : ∀ (ls : List (List Int)) (K : Nat), (∀ p ∈ ls, Bytes p ∧ p.length ≤ 65536) → K ≤ (flat ls).length →
    ∃ j, j ≤ ls.length ∧ frames ((flat ls).take K) = (ls.take j, (flat (ls.take j)).length) ∧ (flat (ls.take j)).length ≤ K ∧ (j < ls.length → K < (flat (ls.take (j + 1))).length)
  | [], K, _, hK => by
    refine ⟨0, by simp, ?_, by simp [flat], by simp⟩
    simp only [flat, List.length_nil] at hK ⊢
    rw [show K = 0 by omega]
    exact frames_nil
  | p :: t, K, h, hK => by
    have hp := h p (by simp)
    have hl := frame_length p
    by_cases hlt : K < p.length + 7
    · refine ⟨0, by simp, ?_, by simp [flat], fun _ => ?_⟩
      · rw [flat, List.take_append_of_le_length (by omega), frames_cut p hp.2 K hlt]
        simp [flat]
      · simp only [List.take_succ_cons, List.take_zero, flat, List.append_nil, hl]
        exact hlt
    · rw [flat, List.length_append, hl] at hK
      obtain ⟨j, h1, h2, h3, h4⟩ := frames_whole t (K - (p.length + 7)) (fun q hq => h q (by simp [hq])) (by omega)
      refine ⟨j + 1, by simp; omega, ?_, ?_, fun hj => ?_⟩
      · have e : (flat (p :: t)).take K = frameOf p ++ (flat t).take (K - (p.length + 7)) := by
          rw [flat, List.take_append, List.take_of_length_le (by omega), hl]
        rw [e, frames_put p _ hp.1 ((flat_Bytes t (fun q hq => (h q (by simp [hq])).1)).tk _) hp.2, h2]
        simp only [List.take_succ_cons, flat, List.length_append, hl]
      · simp only [List.take_succ_cons, flat, List.length_append, hl]
        omega
      · have := h4 (by simp at hj; omega)
        simp only [List.take_succ_cons, flat, List.length_append, hl] at this ⊢
        omega
theorem flat_mono (ls : List (List Int)) : ∀ (i j : Nat), i ≤ j → (flat (ls.take i)).length ≤ (flat (ls.take j)).length := by
  intro i j hij
  induction j with
  | zero => rw [show i = 0 by omega]; exact Nat.le_refl _
  | succ j ih =>
    by_cases h : i = j + 1
    · rw [h]; exact Nat.le_refl _
    · have h1 := ih (by omega)
      by_cases hj : j < ls.length
      · rw [flat_take ls j hj, List.length_append]
        omega
      · have e1 := List.take_of_length_le (by omega : ls.length ≤ j + 1)
        have e2 := List.take_of_length_le (by omega : ls.length ≤ j)
        rw [e1]
        rwa [e2] at h1
/-- The count that the loop finds is the one. -/
theorem frames_count_is (ls : List (List Int)) (K j : Nat) (h : ∀ p ∈ ls, Bytes p ∧ p.length ≤ 65536) (hK : K ≤ (flat ls).length) (hj : j ≤ ls.length) (h1 : ∀ i, i < j → (flat (ls.take (i + 1))).length ≤ K) (h2 : j < ls.length → K < (flat (ls.take (j + 1))).length) :
    frames ((flat ls).take K) = (ls.take j, (flat (ls.take j)).length) := by
  obtain ⟨j', k1, k2, k3, k4⟩ := frames_whole ls K h hK
  have e : j' = j := by
    rcases Nat.lt_trichotomy j' j with hlt | heq | hgt
    · have := h1 j' hlt
      have := k4 (by omega)
      omega
    · exact heq
    · have := h2 (by omega)
      have := flat_mono ls (j + 1) j' (by omega)
      omega
  rw [← e]
  exact k2
end Go.Proofs.Ythbdgakeglppbaa
