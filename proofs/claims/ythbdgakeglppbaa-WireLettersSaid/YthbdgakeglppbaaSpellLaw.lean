/- Letters: what spelling and reading compute, in plain words, and that the one is the other turned around. -/
import Derived.Test.YthbdgakeglppbaaLetter
import Derived.Test.YthbdgakeglppbaaStr
namespace Go.Proofs.Ythbdgakeglppbaa
open Go.RowKit Go.Proofs.YthbdgakeglppbaaW.PrintWords
/-- Bytes in letters, three bytes in four letters. -/
def sp3 : List Int → List Int
  | [] => []
  | [a] => [alpha (a / 4), alpha (a % 4 * 16)]
  | [a, b] => [alpha (a / 4), alpha (a % 4 * 16 + b / 16), alpha (b % 16 * 4)]
  | a :: b :: c :: t => alpha (a / 4) :: alpha (a % 4 * 16 + b / 16) :: alpha (b % 16 * 4 + c / 64) :: alpha (c % 64) :: sp3 t
/-- Letters out of held bits: at most two. -/
def drain (held : Int) : Nat → List Int → Nat × List Int
  | m + 6, O => drain held m (O ++ [alpha (held / 2 ^ m % 64)])
  | m, O => (m, O)
def spRun : List Int → Int → Nat → List Int → List Int
  | [], h, m, O => if 0 < m then O ++ [alpha (h * 2 ^ (6 - m) % 64)] else O
  | x :: t, h, m, O => spRun t ((h * 256 + x) % 64) (drain (h * 256 + x) (m + 8) O).1 (drain (h * 256 + x) (m + 8) O).2
theorem spRun_sp3 : ∀ (l : List Int) (O : List Int) (h : Int), Bytes l → spRun l h 0 O = O ++ sp3 l
  | [], O, h, _ => by simp [spRun, sp3]
  | [a], O, h, hb => by
    have ha := hb a (by simp)
    simp [spRun, sp3, drain]
    refine ⟨congrArg alpha (by omega), congrArg alpha (by omega)⟩
  | [a, b], O, h, hb => by
    have ha := hb a (by simp)
    have hb' := hb b (by simp)
    simp [spRun, sp3, drain]
    refine ⟨congrArg alpha (by omega), congrArg alpha (by omega), congrArg alpha (by omega)⟩
  | a :: b :: c :: t, O, h, hb => by
    have ha := hb a (by simp)
    have hb' := hb b (by simp)
    have hc := hb c (by simp)
    rw [spRun, spRun, spRun]
    simp only [drain]
    rw [spRun_sp3 t _ _ (fun x hx => hb x (by simp [hx]))]
    simp [sp3]
    refine ⟨congrArg alpha (by omega), congrArg alpha (by omega), congrArg alpha (by omega), congrArg alpha (by omega)⟩
theorem sp3_length : ∀ (l : List Int), (sp3 l).length = (4 * l.length + 2) / 3
  | [] => rfl
  | [a] => by simp [sp3]
  | [a, b] => by simp [sp3]
  | a :: b :: c :: t => by
    simp only [sp3, List.length_cons, sp3_length t]
    omega
theorem sp3_Bytes : ∀ (l : List Int), Bytes l → Bytes (sp3 l)
  | [], _ => Bytes.nil
  | [a], hb => by
    have ha := hb a (by simp)
    have h1 := (sixOf_alpha (a / 4) (by omega) (by omega)).2
    have h2 := (sixOf_alpha (a % 4 * 16) (by omega) (by omega)).2
    exact Bytes.con h1.1 h1.2 (Bytes.con h2.1 h2.2 Bytes.nil)
  | [a, b], hb => by
    have ha := hb a (by simp)
    have hb' := hb b (by simp)
    have h1 := (sixOf_alpha (a / 4) (by omega) (by omega)).2
    have h2 := (sixOf_alpha (a % 4 * 16 + b / 16) (by omega) (by omega)).2
    have h3 := (sixOf_alpha (b % 16 * 4) (by omega) (by omega)).2
    exact Bytes.con h1.1 h1.2 (Bytes.con h2.1 h2.2 (Bytes.con h3.1 h3.2 Bytes.nil))
  | a :: b :: c :: t, hb => by
    have ha := hb a (by simp)
    have hb' := hb b (by simp)
    have hc := hb c (by simp)
    have h1 := (sixOf_alpha (a / 4) (by omega) (by omega)).2
    have h2 := (sixOf_alpha (a % 4 * 16 + b / 16) (by omega) (by omega)).2
    have h3 := (sixOf_alpha (b % 16 * 4 + c / 64) (by omega) (by omega)).2
    have h4 := (sixOf_alpha (c % 64) (by omega) (by omega)).2
    exact Bytes.con h1.1 h1.2 (Bytes.con h2.1 h2.2 (Bytes.con h3.1 h3.2 (Bytes.con h4.1 h4.2 (sp3_Bytes t (fun x hx => hb x (by simp [hx]))))))
/-- What letters spell, letter by letter: the bits held, how many, the bytes. -/
def unRun : List Int → Int → Nat → List Int → Option (List Int)
  | [], h, m, O => if m = 6 ∨ h ≠ 0 then none else some O
  | c :: t, h, m, O =>
    if sixOf c < 0 then none
    else if 2 ≤ m then unRun t ((h * 64 + sixOf c) % 2 ^ (m - 2)) (m - 2) (O ++ [(h * 64 + sixOf c) / 2 ^ (m - 2) % 256])
    else unRun t (h * 64 + sixOf c) (m + 6) O
theorem unRun_acc : ∀ (s : List Int) (h : Int) (m : Nat) (O : List Int), unRun s h m O = (unRun s h m []).map (O ++ ·)
  | [], h, m, O => by unfold unRun; split <;> simp
  | c :: t, h, m, O => by
    unfold unRun
    split
    · rfl
    split
    · rw [unRun_acc t _ _ (O ++ _), unRun_acc t _ _ ([] ++ _)]
      simp [Option.map_map, Function.comp_def]
    · exact unRun_acc t _ _ O
theorem unRun_spelt : ∀ (l : List Int), Bytes l → unRun (sp3 l) 0 0 [] = some l
  | [], _ => rfl
  | [a], hb => by
    have ha := hb a (by simp)
    have h1 := (sixOf_alpha (a / 4) (by omega) (by omega)).1
    have h2 := (sixOf_alpha (a % 4 * 16) (by omega) (by omega)).1
    simp [sp3, unRun, h1, h2]
    omega
  | [a, b], hb => by
    have ha := hb a (by simp)
    have hb' := hb b (by simp)
    have h1 := (sixOf_alpha (a / 4) (by omega) (by omega)).1
    have h2 := (sixOf_alpha (a % 4 * 16 + b / 16) (by omega) (by omega)).1
    have h3 := (sixOf_alpha (b % 16 * 4) (by omega) (by omega)).1
    simp [sp3, unRun, h1, h2, h3]
    omega
  | a :: b :: c :: t, hb => by
    have ha := hb a (by simp)
    have hb' := hb b (by simp)
    have hc := hb c (by simp)
    have h1 := (sixOf_alpha (a / 4) (by omega) (by omega)).1
    have h2 := (sixOf_alpha (a % 4 * 16 + b / 16) (by omega) (by omega)).1
    have h3 := (sixOf_alpha (b % 16 * 4 + c / 64) (by omega) (by omega)).1
    have h4 := (sixOf_alpha (c % 64) (by omega) (by omega)).1
    have ih := unRun_spelt t (fun x hx => hb x (by simp [hx]))
    simp [sp3, unRun, h1, h2, h3, h4, Int.emod_one]
    refine ⟨by omega, by omega, by omega, by omega, ?_⟩
    rw [unRun_acc, ih]
    simp
    omega
theorem sixOf_some {c : Int} (hc : 0 ≤ c ∧ c < 256) (h : ¬ sixOf c < 0) : ∃ A, sixOf c = A ∧ 0 ≤ A ∧ A < 64 ∧ alpha A = c := by
  have k := alpha_sixOf c hc.1 hc.2 (by omega)
  exact ⟨_, rfl, by omega, k.2, k.1⟩
theorem spelt_unRun : ∀ (s q : List Int), Bytes s → unRun s 0 0 [] = some q → sp3 q = s ∧ Bytes q
  | [], q, _, h => by
    simp [unRun] at h
    subst h
    exact ⟨rfl, Bytes.nil⟩
  | [a], q, hb, h => by
    by_cases ha : sixOf a < 0
    · simp [unRun, ha] at h
    · simp [unRun, ha] at h
  | [a, b], q, hb, h => by
    by_cases ha : sixOf a < 0
    · simp [unRun, ha] at h
    by_cases hb1 : sixOf b < 0
    · simp [unRun, ha, hb1] at h
    simp only [unRun, ha, hb1] at h
    obtain ⟨A, eA, A0, A1, kA⟩ := sixOf_some (hb a (by simp)) ha
    obtain ⟨B, eB, B0, B1, kB⟩ := sixOf_some (hb b (by simp)) hb1
    rw [eA, eB] at h
    simp at h
    obtain ⟨h1, rfl⟩ := h
    refine ⟨?_, Bytes.con (by omega) (by omega) Bytes.nil⟩
    rw [sp3, ← kA, ← kB]
    simp
    refine ⟨congrArg alpha (by omega), congrArg alpha (by omega)⟩
  | [a, b, c], q, hb, h => by
    by_cases ha : sixOf a < 0
    · simp [unRun, ha] at h
    by_cases hb1 : sixOf b < 0
    · simp [unRun, ha, hb1] at h
    by_cases hc1 : sixOf c < 0
    · simp [unRun, ha, hb1, hc1] at h
    simp only [unRun, ha, hb1, hc1] at h
    obtain ⟨A, eA, A0, A1, kA⟩ := sixOf_some (hb a (by simp)) ha
    obtain ⟨B, eB, B0, B1, kB⟩ := sixOf_some (hb b (by simp)) hb1
    obtain ⟨C, eC, C0, C1, kC⟩ := sixOf_some (hb c (by simp)) hc1
    rw [eA, eB, eC] at h
    simp at h
    obtain ⟨h1, rfl⟩ := h
    refine ⟨?_, Bytes.con (by omega) (by omega) (Bytes.con (by omega) (by omega) Bytes.nil)⟩
    rw [sp3, ← kA, ← kB, ← kC]
    simp
    refine ⟨congrArg alpha (by omega), congrArg alpha (by omega), congrArg alpha (by omega)⟩
  | a :: b :: c :: d :: t, q, hb, h => by
    by_cases ha : sixOf a < 0
    · simp [unRun, ha] at h
    by_cases hb1 : sixOf b < 0
    · simp [unRun, ha, hb1] at h
    by_cases hc1 : sixOf c < 0
    · simp [unRun, ha, hb1, hc1] at h
    by_cases hd1 : sixOf d < 0
    · simp [unRun, ha, hb1, hc1, hd1] at h
    simp only [unRun, ha, hb1, hc1, hd1] at h
    obtain ⟨A, eA, A0, A1, kA⟩ := sixOf_some (hb a (by simp)) ha
    obtain ⟨B, eB, B0, B1, kB⟩ := sixOf_some (hb b (by simp)) hb1
    obtain ⟨C, eC, C0, C1, kC⟩ := sixOf_some (hb c (by simp)) hc1
    obtain ⟨D, eD, D0, D1, kD⟩ := sixOf_some (hb d (by simp)) hd1
    rw [eA, eB, eC, eD] at h
    simp [Int.emod_one] at h
    rw [unRun_acc] at h
    simp only [Option.map_eq_some_iff] at h
    obtain ⟨q', hq, rfl⟩ := h
    have ih := spelt_unRun t q' (fun x hx => hb x (by simp [hx])) hq
    refine ⟨?_, Bytes.con (by omega) (by omega) (Bytes.con (by omega) (by omega) (Bytes.con (by omega) (by omega) ih.2))⟩
    simp only [List.cons_append, List.nil_append, sp3, ih.1]
    rw [← kA, ← kB, ← kC, ← kD]
    simp
    refine ⟨congrArg alpha (by omega), congrArg alpha (by omega), congrArg alpha (by omega), congrArg alpha (by omega)⟩
theorem unRun_more (l : List Int) (hb : Bytes l) (q : List Int) (h : unRun (sp3 l ++ [65]) 0 0 [] = some q) : l.length < q.length := by
  have k := spelt_unRun _ q ((sp3_Bytes l hb).app (Bytes.con (by omega) (by omega) Bytes.nil)) h
  have h1 := congrArg List.length k.1
  rw [List.length_append, sp3_length, sp3_length, List.length_singleton] at h1
  omega
end Go.Proofs.Ythbdgakeglppbaa
