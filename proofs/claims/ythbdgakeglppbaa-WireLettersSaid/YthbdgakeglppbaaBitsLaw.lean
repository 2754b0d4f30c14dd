/- Bits: bytes and letters bit by bit, as the reference has them, in plain words. -/
import Derived.Test.YthbdgakeglppbaaSpellLaw
import Derived.Test.YthbdgakeglppbaaCursorNum
namespace Go.Proofs.Ythbdgakeglppbaa
open Go.RowKit Go.Proofs.YthbdgakeglppbaaW.PrintWords
/-- So many bits of a number, the highest first. -/
def bitsN (k : Nat) (x : Int) : List Int := (List.range k).map fun t => x / 2 ^ (k - 1 - t) % 2
theorem bitsN_length (k : Nat) (x : Int) : (bitsN k x).length = k := by simp [bitsN]
theorem bitsN_take (k t : Nat) (x : Int) (h : t < k) : (bitsN k x).take (t + 1) = (bitsN k x).take t ++ [x / 2 ^ (k - 1 - t) % 2] := by
  rw [List.take_succ_eq_append_getElem (by rw [bitsN_length]; exact h)]
  simp [bitsN]
theorem bitsN_8 (x : Int) : bitsN 8 x = [x / 128 % 2, x / 64 % 2, x / 32 % 2, x / 16 % 2, x / 8 % 2, x / 4 % 2, x / 2 % 2, x % 2] := by
  simp [bitsN, List.range, List.range.loop]
theorem bitsN_6 (x : Int) : bitsN 6 x = [x / 32 % 2, x / 16 % 2, x / 8 % 2, x / 4 % 2, x / 2 % 2, x % 2] := by
  simp [bitsN, List.range, List.range.loop]
def Zo (l : List Int) : Prop := ∀ b ∈ l, 0 ≤ b ∧ b < 2
theorem bitsN_Zo (k : Nat) (x : Int) : Zo (bitsN k x) := by
  intro b hb
  simp only [bitsN, List.mem_map] at hb
  obtain ⟨t, _, rfl⟩ := hb
  omega
theorem Zo.app {a b : List Int} (h : Zo a) (k : Zo b) : Zo (a ++ b) := by
  intro x hx
  rcases List.mem_append.1 hx with hx | hx
  · exact h x hx
  · exact k x hx
theorem Zo.rd {l : List Int} (h : Zo l) (k : Nat) (hk : k < l.length) : 0 ≤ rd l k ∧ rd l k < 2 := by
  rw [rd_get l k hk]
  exact h _ (List.getElem_mem hk)
theorem Zo.zeros (z : Nat) : Zo (List.replicate z 0) := by
  intro b hb
  rw [List.eq_of_mem_replicate hb]
  decide
/-- All bits of bytes; all bits of letters. -/
def bits8 (l : List Int) : List Int := l.flatMap (bitsN 8)
def bits6 (s : List Int) : List Int := s.flatMap fun c => bitsN 6 (sixOf c)
theorem bits8_Zo (l : List Int) : Zo (bits8 l) := by
  intro b hb
  obtain ⟨x, _, hx⟩ := List.mem_flatMap.1 hb
  exact bitsN_Zo 8 x b hx
theorem bits6_Zo (l : List Int) : Zo (bits6 l) := by
  intro b hb
  obtain ⟨x, _, hx⟩ := List.mem_flatMap.1 hb
  exact bitsN_Zo 6 _ b hx
theorem bits8_length (l : List Int) : (bits8 l).length = 8 * l.length := by
  induction l with
  | nil => rfl
  | cons a t ih => rw [bits8, List.flatMap_cons, List.length_append, bitsN_length, List.length_cons]; have : (t.flatMap (bitsN 8)).length = 8 * t.length := ih; omega
theorem bits6_length (l : List Int) : (bits6 l).length = 6 * l.length := by
  induction l with
  | nil => rfl
  | cons a t ih => rw [bits6, List.flatMap_cons, List.length_append, bitsN_length, List.length_cons]; have : (t.flatMap (fun c => bitsN 6 (sixOf c))).length = 6 * t.length := ih; omega
theorem take_snoc (l : List Int) (k : Nat) (h : k < l.length) : l.take (k + 1) = l.take k ++ [rd l k] := by
  rw [List.take_succ_eq_append_getElem h, rd_get l k h]
theorem bits8_snoc (l : List Int) (k : Nat) (h : k < l.length) : bits8 (l.take (k + 1)) = bits8 (l.take k) ++ bitsN 8 (rd l k) := by
  rw [take_snoc l k h, bits8, List.flatMap_append]
  simp [bits8]
theorem bits6_snoc (l : List Int) (k : Nat) (h : k < l.length) : bits6 (l.take (k + 1)) = bits6 (l.take k) ++ bitsN 6 (sixOf (rd l k)) := by
  rw [take_snoc l k h, bits6, List.flatMap_append]
  simp [bits6]
/-- The number that bits write, onto one that is held. -/
def vf (n : Int) (l : List Int) : Int := l.foldl (fun n b => 2 * n + b) n
/-- Letters of six bits; bytes of eight. -/
def grp6 : List Int → List Int
  | a :: b :: c :: d :: e :: f :: t => alpha (vf 0 [a, b, c, d, e, f]) :: grp6 t
  | _ => []
def grp8 : List Int → List Int
  | a :: b :: c :: d :: e :: f :: g :: h :: t => vf 0 [a, b, c, d, e, f, g, h] :: grp8 t
  | _ => []
/-- Filled up with noughts to groups of six. -/
def padded (B : List Int) : List Int := B ++ List.replicate ((6 - B.length % 6) % 6) 0
theorem grp6_sp3 : ∀ (l : List Int), Bytes l → grp6 (padded (bits8 l)) = sp3 l
  | [], _ => rfl
  | [a], hb => by
    have ha := hb a (by simp)
    simp [padded, bits8, bitsN_8, sp3, grp6, vf, List.replicate]
    refine ⟨congrArg alpha (by omega), congrArg alpha (by omega)⟩
  | [a, b], hb => by
    have ha := hb a (by simp)
    have hb' := hb b (by simp)
    simp [padded, bits8, bitsN_8, sp3, grp6, vf, List.replicate]
    refine ⟨congrArg alpha (by omega), congrArg alpha (by omega), congrArg alpha (by omega)⟩
  | a :: b :: c :: t, hb => by
    have ha := hb a (by simp)
    have hb' := hb b (by simp)
    have hc := hb c (by simp)
    have ih := grp6_sp3 t (fun x hx => hb x (by simp [hx]))
    have e : padded (bits8 (a :: b :: c :: t)) = bitsN 8 a ++ bitsN 8 b ++ bitsN 8 c ++ padded (bits8 t) := by
      have hl : (bits8 (a :: b :: c :: t)).length % 6 = (bits8 t).length % 6 := by rw [bits8_length, bits8_length, List.length_cons, List.length_cons, List.length_cons]; omega
      unfold padded
      rw [hl]
      simp [bits8]
    rw [e]
    simp only [bitsN_8, List.cons_append, List.nil_append, grp6, ih, sp3, vf, List.foldl_cons, List.foldl_nil]
    simp
    refine ⟨congrArg alpha (by omega), congrArg alpha (by omega), congrArg alpha (by omega), congrArg alpha (by omega)⟩
theorem grp8_sp3 : ∀ (l : List Int), Bytes l → grp8 (bits6 (sp3 l)) = l
  | [], _ => rfl
  | [a], hb => by
    have ha := hb a (by simp)
    have h1 := (sixOf_alpha (a / 4) (by omega) (by omega)).1
    have h2 := (sixOf_alpha (a % 4 * 16) (by omega) (by omega)).1
    simp [bits6, sp3, h1, h2, bitsN_6, grp8, vf]
    omega
  | [a, b], hb => by
    have ha := hb a (by simp)
    have hb' := hb b (by simp)
    have h1 := (sixOf_alpha (a / 4) (by omega) (by omega)).1
    have h2 := (sixOf_alpha (a % 4 * 16 + b / 16) (by omega) (by omega)).1
    have h3 := (sixOf_alpha (b % 16 * 4) (by omega) (by omega)).1
    simp [bits6, sp3, h1, h2, h3, bitsN_6, grp8, vf]
    omega
  | a :: b :: c :: t, hb => by
    have ha := hb a (by simp)
    have hb' := hb b (by simp)
    have hc := hb c (by simp)
    have h1 := (sixOf_alpha (a / 4) (by omega) (by omega)).1
    have h2 := (sixOf_alpha (a % 4 * 16 + b / 16) (by omega) (by omega)).1
    have h3 := (sixOf_alpha (b % 16 * 4 + c / 64) (by omega) (by omega)).1
    have h4 := (sixOf_alpha (c % 64) (by omega) (by omega)).1
    have ih := grp8_sp3 t (fun x hx => hb x (by simp [hx]))
    have e : bits6 (sp3 (a :: b :: c :: t)) = bitsN 6 (a / 4) ++ bitsN 6 (a % 4 * 16 + b / 16) ++ bitsN 6 (b % 16 * 4 + c / 64) ++ bitsN 6 (c % 64) ++ bits6 (sp3 t) := by
      simp [bits6, sp3, h1, h2, h3, h4]
    rw [e]
    simp only [bitsN_6, List.cons_append, List.nil_append, grp8, ih, vf, List.foldl_cons, List.foldl_nil]
    simp
    omega
theorem grp8_Bytes : ∀ (l : List Int), Zo l → Bytes (grp8 l)
  | a :: b :: c :: d :: e :: f :: g :: h :: t, hz => by
    have ha := hz a (by simp)
    have hb := hz b (by simp)
    have hc := hz c (by simp)
    have hd := hz d (by simp)
    have he := hz e (by simp)
    have hf := hz f (by simp)
    have hg := hz g (by simp)
    have hh := hz h (by simp)
    simp only [grp8, vf, List.foldl_cons, List.foldl_nil]
    exact Bytes.con (by omega) (by omega) (grp8_Bytes t (fun x hx => hz x (by simp [hx])))
  | [], _ | [_], _ | [_, _], _ | [_, _, _], _ | [_, _, _, _], _ | [_, _, _, _, _], _ | [_, _, _, _, _, _], _ | [_, _, _, _, _, _, _], _ => Bytes.nil
theorem unRun_letters : ∀ (s : List Int) (h : Int) (m : Nat) (O q : List Int), unRun s h m O = some q → ∀ c ∈ s, 0 ≤ sixOf c
  | [], _, _, _, _, _ => by simp
  | c :: t, h, m, O, q, hq => by
    unfold unRun at hq
    split at hq
    · simp at hq
    rename_i hc
    intro x hx
    rcases List.mem_cons.1 hx with rfl | hx
    · omega
    split at hq
    · exact unRun_letters t _ _ _ _ hq x hx
    · exact unRun_letters t _ _ _ _ hq x hx
/-- What the reference does at the end is what letters spell. -/
theorem unRun_ref (s : List Int) (hb : Bytes s) : unRun s 0 0 [] = if sp3 (grp8 (bits6 s)) = s then some (grp8 (bits6 s)) else none := by
  have hB := grp8_Bytes (bits6 s) (bits6_Zo s)
  by_cases h : sp3 (grp8 (bits6 s)) = s
  · rw [if_pos h]
    have := unRun_spelt _ hB
    rw [h] at this
    exact this
  · rw [if_neg h]
    cases hr : unRun s 0 0 [] with
    | none => rfl
    | some q =>
      have k := spelt_unRun s q hb hr
      have e := grp8_sp3 q k.2
      rw [k.1] at e
      rw [e] at h
      exact absurd k.1 h
theorem unRun_bad (s : List Int) (c : Int) (hc : c ∈ s) (h : sixOf c < 0) : unRun s 0 0 [] = none := by
  cases hr : unRun s 0 0 [] with
  | none => rfl
  | some q =>
    have := unRun_letters s _ _ _ q hr c hc
    omega
end Go.Proofs.Ythbdgakeglppbaa
