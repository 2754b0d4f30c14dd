/- What Unframe answers, in one function. -/
import Derived.Test.YthbdgakeglppbaaUnframe
namespace Go.Proofs.Ythbdgakeglppbaa
open Go.RowKit Go.Proofs.YthbdgakeglppbaaW.PrintWords
def unMid (l : List Int) : List Int := (l.take ((unLen l).toNat + 3)).drop 3
def unframe (l : List Int) : List Int × Int × Int :=
  if l.length < 3 then ([], 0, 2) else if 65536 < unLen l then ([], 0, 4) else if l.length < (unLen l).toNat + 7 then ([], 0, 2)
  else if frameOf (unMid l) = l.take ((unLen l).toNat + 7) then (unMid l, unLen l + 7, 0) else ([], 0, 11)
theorem unLen_range (l : List Int) (hb : Bytes l) (h3 : 3 ≤ l.length) : 0 ≤ unLen l ∧ unLen l < 16777216 := by
  obtain ⟨a0, a1⟩ : 0 ≤ rd l 0 ∧ rd l 0 < 256 := bytes_rd hb 0 (by omega)
  obtain ⟨b0, b1⟩ : 0 ≤ rd l 1 ∧ rd l 1 < 256 := bytes_rd hb 1 (by omega)
  obtain ⟨d0, d1⟩ : 0 ≤ rd l 2 ∧ rd l 2 < 256 := bytes_rd hb 2 (by omega)
  unfold unLen
  omega
theorem unMid_length (l : List Int) (h : (unLen l).toNat + 3 ≤ l.length) : (unMid l).length = (unLen l).toNat := by
  unfold unMid
  simp
  omega
theorem head_mid (l : List Int) (hb : Bytes l) (h3 : 3 ≤ l.length) (h : (unLen l).toNat + 3 ≤ l.length) : frameHead (unMid l).length ++ unMid l = l.take ((unLen l).toNat + 3) := by
  have hr := unLen_range l hb h3
  rw [unMid_length l h]
  unfold unMid
  match l, h3, hb with
  | a :: b :: c :: t, _, hb =>
    obtain ⟨a0, a1⟩ := hb a (by simp)
    obtain ⟨b0, b1⟩ := hb b (by simp)
    obtain ⟨c0, c1⟩ := hb c (by simp)
    have e : unLen (a :: b :: c :: t) = 65536 * a + 256 * b + c := rfl
    rw [e] at hr ⊢
    simp only [List.take_succ_cons, List.drop_succ_cons, List.drop_zero, frameHead, List.cons_append, List.nil_append, List.cons.injEq, and_true]
    refine ⟨?_, ?_, ?_⟩ <;> omega
theorem frame_iff (l : List Int) (hb : Bytes l) (h3 : 3 ≤ l.length) (h : (unLen l).toNat + 7 ≤ l.length) :
    frameOf (unMid l) = l.take ((unLen l).toNat + 7) ↔ wordBytes (wireSum (l.take ((unLen l).toNat + 3))) = (l.drop ((unLen l).toNat + 3)).take 4 := by
  unfold frameOf
  have ht : l.take ((unLen l).toNat + 7) = l.take ((unLen l).toNat + 3) ++ (l.drop ((unLen l).toNat + 3)).take 4 := List.take_add (l := l) (i := (unLen l).toNat + 3) (j := 4)
  rw [head_mid l hb h3 (by omega), ht]
  exact ⟨fun h => List.append_cancel_left h, fun h => by rw [h]⟩
theorem Unframe_calls {n : Nat} (A0 : Option Addr) (c0 : Nat) (l : List Int) (w : World) (hr0 : Rd w A0 n l) (hc0 : n ≤ c0) (hb : Bytes l) (hs0 : n ≤ 140737488351232) :
    Calls Try.prog 29 #[.slice A0 n c0] w fun e w' => ∃ v0_ : Value, e = .returned (.tuple #[v0_, .int .i64 (unframe l).2.1, .int .i64 (unframe l).2.2]) ∧ Own w w' v0_ (unframe l).1 ∧ Below w.heap.size w w' := by
  have hlen := Kd.C_len hr0
  unfold unframe
  by_cases h3 : l.length < 3
  · rw [if_pos h3]
    exact (Unframe_short3 A0 c0 w (by omega)).mono fun e w' ⟨h, k⟩ => ⟨_, h, Own.nil _ _, k⟩
  rw [if_neg h3]
  have hr := unLen_range l hb (by omega)
  have hN : unLen l = ((unLen l).toNat : Int) := by omega
  by_cases hbig : 65536 < unLen l
  · rw [if_pos hbig]
    exact (Unframe_long A0 c0 l w hr0 hc0 hb (by omega) _ hN (by omega)).mono fun e w' ⟨h, k⟩ => ⟨_, h, Own.nil _ _, k⟩
  rw [if_neg hbig]
  by_cases hsh : l.length < (unLen l).toNat + 7
  · rw [if_pos hsh]
    exact (Unframe_short A0 c0 l w hr0 hc0 hb (by omega) _ hN (by omega) (by omega)).mono fun e w' ⟨h, k⟩ => ⟨_, h, Own.nil _ _, k⟩
  rw [if_neg hsh]
  have hi := frame_iff l hb (by omega) (by omega)
  have hs := wireSum_range (l.take ((unLen l).toNat + 3))
  by_cases he : frameOf (unMid l) = l.take ((unLen l).toNat + 7)
  · rw [if_pos he]
    refine (Unframe_ok A0 c0 l w hr0 hc0 hb (by omega) _ hN (by omega) (by omega) _ rfl hs.1 hs.2 (hi.1 he)).mono fun e w' ⟨v, h, k, b⟩ => ⟨v, ?_, k, b⟩
    rw [h]
    simp only
    rw [← hN]
  · rw [if_neg he]
    exact (Unframe_sum A0 c0 l w hr0 hc0 hb (by omega) _ hN (by omega) (by omega) _ rfl hs.1 hs.2 (fun h => he (hi.2 h))).mono fun e w' ⟨h, k⟩ => ⟨_, h, Own.nil _ _, k⟩
end Go.Proofs.Ythbdgakeglppbaa
