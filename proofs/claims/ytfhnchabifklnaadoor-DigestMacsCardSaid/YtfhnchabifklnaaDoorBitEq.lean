/- What the program and the reference say differently of bits is the same. -/
import Derived.Test.YtfhnchabifklnaaDoorSched
namespace Go.Proofs.YtfhnchabifklnaaDoor
open Go.RowKit Go.Proofs.YtfhnchabifklnaaDoorW.PrintWords
theorem ch_nat (b c d : Nat) (hb : b < 4294967296) : (b &&& c) ||| ((4294967295 - b) &&& d) = (b &&& c) ^^^ ((4294967295 - b) &&& d) := by
  apply Nat.eq_of_testBit_eq
  intro i
  have hn : (4294967295 - b).testBit i = (decide (i < 32) && !b.testBit i) := by
    have := Nat.testBit_two_pow_sub_succ (n := 32) (x := b) hb i
    rwa [show 2 ^ 32 - (b + 1) = 4294967295 - b by omega] at this
  simp only [Nat.testBit_or, Nat.testBit_and, Nat.testBit_xor, hn]
  cases b.testBit i <;> cases c.testBit i <;> cases d.testBit i <;> cases decide (i < 32) <;> rfl
theorem maj_nat (b c d : Nat) : (b &&& c) ||| (b &&& d) ||| (c &&& d) = (b &&& c) ^^^ (b &&& d) ^^^ (c &&& d) := by
  apply Nat.eq_of_testBit_eq
  intro i
  simp only [Nat.testBit_or, Nat.testBit_and, Nat.testBit_xor]
  cases b.testBit i <;> cases c.testBit i <;> cases d.testBit i <;> rfl
theorem nat_and (a b : Nat) (ha : a < 4294967296) : a &&& b < 4294967296 := Nat.lt_of_le_of_lt Nat.and_le_left ha
theorem ch_eq (b c d : Int) (b0 : 0 ≤ b) (b1 : b < 4294967296) (c0 : 0 ≤ c) (c1 : c < 4294967296) (d0 : 0 ≤ d) (d1 : d < 4294967296) : orr (an b c) (an (no b) d) = xr (an b c) (an (no b) d) := by
  obtain ⟨x, rfl⟩ := Int.eq_ofNat_of_zero_le b0
  obtain ⟨y, rfl⟩ := Int.eq_ofNat_of_zero_le c0
  obtain ⟨z, rfl⟩ := Int.eq_ofNat_of_zero_le d0
  have e : no (x : Int) = ((4294967295 - x : Nat) : Int) := by unfold no; omega
  rw [e]
  unfold orr an xr
  rw [and_u32 x y (by omega) (by omega), and_u32 (4294967295 - x) z (by omega) (by omega), or_u32 _ _ (nat_and _ _ (by omega)) (nat_and _ _ (by omega)), xor_u32 _ _ (nat_and _ _ (by omega)) (nat_and _ _ (by omega)), ch_nat x y z (by omega)]
theorem maj_eq (b c d : Int) (b0 : 0 ≤ b) (b1 : b < 4294967296) (c0 : 0 ≤ c) (c1 : c < 4294967296) (d0 : 0 ≤ d) (d1 : d < 4294967296) : orr (orr (an b c) (an b d)) (an c d) = xr (xr (an b c) (an b d)) (an c d) := by
  obtain ⟨x, rfl⟩ := Int.eq_ofNat_of_zero_le b0
  obtain ⟨y, rfl⟩ := Int.eq_ofNat_of_zero_le c0
  obtain ⟨z, rfl⟩ := Int.eq_ofNat_of_zero_le d0
  have o1 : (x &&& y) ||| (x &&& z) < 2 ^ 32 := Nat.or_lt_two_pow (nat_and _ _ (by omega)) (nat_and _ _ (by omega))
  have o2 : (x &&& y) ^^^ (x &&& z) < 2 ^ 32 := Nat.xor_lt_two_pow (nat_and _ _ (by omega)) (nat_and _ _ (by omega))
  unfold orr an xr
  rw [and_u32 x y (by omega) (by omega), and_u32 x z (by omega) (by omega), and_u32 y z (by omega) (by omega), or_u32 (x &&& y) (x &&& z) (nat_and _ _ (by omega)) (nat_and _ _ (by omega)), or_u32 _ _ (by omega) (nat_and _ _ (by omega)),
    xor_u32 (x &&& y) (x &&& z) (nat_and _ _ (by omega)) (nat_and _ _ (by omega)), xor_u32 _ _ (by omega) (nat_and _ _ (by omega)), maj_nat]
end Go.Proofs.YtfhnchabifklnaaDoor
