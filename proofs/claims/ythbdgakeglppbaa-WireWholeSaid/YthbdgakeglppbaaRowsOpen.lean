/- Rows of bytes that came in, as they are read. -/
import Derived.Test.YthbdgakeglppbaaRows2
import Derived.Deep.Matrix
namespace Go.Proofs.Ythbdgakeglppbaa
open Go.RowKit Go.Proofs.YthbdgakeglppbaaW.PrintWords
theorem RdL.mk {w : World} {x : Addr} {len cap base : Nat} {A : Nat → Option Addr} {L C : Nat → Nat} {Z : Nat → List Int} (hl : len ≤ cap) (hm : cap ≤ maxLen)
    (hx : ∀ r, r < cap → w.cell? (x.add r) = some (.slice (A r) (L r) (C r)) ∧ L r ≤ C r ∧ C r ≤ maxLen ∧ (Z r).length = C r ∧ (∀ n ∈ Z r, (Lit.int .u8 n).wf = true) ∧ (A r = none → C r = 0) ∧
        ∀ a', A r = some a' → base ≤ a'.block ∧ ∀ c, c < C r → w.cell? (a'.add c) = some (.int .u8 ((Z r).getD c 0))) : RdL w (some x) len ((List.range len).map fun r => (Z r).take (L r)) := by
  simp only [maxLen] at hm hx
  refine ⟨by simp, by omega, fun _ => ⟨x, rfl, fun j p hj => ?_⟩⟩
  rw [List.getElem?_map] at hj
  have hjl : j < len := by
    rcases Nat.lt_or_ge j len with h | h
    · exact h
    · rw [List.getElem?_eq_none (by simpa using h)] at hj
      cases hj
  rw [List.getElem?_range hjl] at hj
  simp only [Option.map_some, Option.some.injEq] at hj
  subst hj
  obtain ⟨h1, h2, h3, h4, _, h6, h7⟩ := hx j (by omega)
  have hpl : ((Z j).take (L j)).length = L j := by rw [List.length_take]; omega
  refine ⟨[.slice (A j) (L j) (C j)], rfl, ⟨A j, C j, by rw [hpl], by rw [hpl]; exact h2, ?_⟩, fun i u hu => ?_⟩
  · rw [hpl]
    cases hA : A j with
    | none =>
      have := h6 hA
      have h0 : L j = 0 := by omega
      rw [h0]
      exact Rd.empty _ _
    | some a' =>
      refine Rd.mk hpl (by omega) fun c hc => ?_
      rw [(h7 a' hA).2 c (by omega)]
      congr 2
      unfold rd
      simp only [Int.toNat_natCast, List.getD_eq_getElem?_getD, List.getElem?_take]
      rw [if_pos hc]
  · match i, hu with
    | 0, hu =>
      simp only [List.getElem?_cons_zero, Option.some.injEq] at hu
      subst hu
      rw [show j * (Kd.slice 5 (Kd.int .u8)).sz + 0 = j from Nat.mul_one j]
      exact h1
theorem rows_Bytes {cap len : Nat} {L : Nat → Nat} {Z : Nat → List Int} (hl : len ≤ cap) (hx : ∀ r, r < cap → ∀ n ∈ Z r, (Lit.int .u8 n).wf = true) : ∀ p ∈ (List.range len).map fun r => (Z r).take (L r), Bytes p := by
  intro p hp
  obtain ⟨r, hr, rfl⟩ := List.mem_map.1 hp
  intro y hy
  have h1 := hx r (by have := List.mem_range.1 hr; omega) y (List.mem_of_mem_take hy)
  simp [Lit.wf, IntKind.min, IntKind.max, IntKind.signed, IntKind.bits] at h1
  omega
end Go.Proofs.Ythbdgakeglppbaa
