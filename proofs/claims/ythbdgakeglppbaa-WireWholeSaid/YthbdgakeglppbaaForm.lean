/- A number's form, as lists. -/
import Derived.Test.YthbdgakeglppbaaStr
import Derived.Lib.BitFns
namespace Go.Proofs.Ythbdgakeglppbaa
/-- How many bytes a number has (1 to 8). -/
def byteLen (x : Int) : Nat :=
  if x < 256 then 1 else if x < 65536 then 2 else if x < 16777216 then 3 else if x < 4294967296 then 4
  else if x < 1099511627776 then 5 else if x < 281474976710656 then 6 else if x < 72057594037927936 then 7 else 8
/-- So many bytes of a number, the highest first. -/
def beBytes (k : Nat) (x : Int) : List Int := (List.range k).map fun t => x / 256 ^ (k - 1 - t) % 256
def numForm (x : Int) : List Int := if x ≤ 247 then [max x 0] else (247 + (byteLen x : Int)) :: beBytes (byteLen x) x
theorem beBytes_length (k : Nat) (x : Int) : (beBytes k x).length = k := by simp [beBytes]
theorem beBytes_take (k t : Nat) (x : Int) (h : t < k) : (beBytes k x).take (t + 1) = (beBytes k x).take t ++ [x / 256 ^ (k - 1 - t) % 256] := by
  rw [List.take_succ_eq_append_getElem (by rw [beBytes_length]; exact h)]
  simp [beBytes]
theorem beBytes_Bytes (k : Nat) (x : Int) : Bytes (beBytes k x) := by
  intro y hy
  unfold beBytes at hy
  obtain ⟨t, _, rfl⟩ := List.mem_map.1 hy
  omega
theorem byteLen_range (x : Int) : 1 ≤ byteLen x ∧ byteLen x ≤ 8 := by
  unfold byteLen
  repeat' split
  all_goals omega
theorem numForm_Bytes (x : Int) : Bytes (numForm x) := by
  have := byteLen_range x
  unfold numForm
  split
  · exact Bytes.con (by omega) (by omega) Bytes.nil
  · exact Bytes.con (by omega) (by omega) (beBytes_Bytes _ _)
theorem numForm_length (x : Int) : 1 ≤ (numForm x).length ∧ (numForm x).length ≤ 9 := by
  have := byteLen_range x
  unfold numForm
  split
  · simp
  · simp only [List.length_cons, beBytes_length]; omega
theorem bitLen_small : ∀ n : Fin 256, 1 ≤ n.val → 1 ≤ Lib.bitLen n.val ∧ Lib.bitLen n.val ≤ 8 := by decide +kernel
theorem bitLen_byte (x : Int) (h : 248 ≤ x) (h1 : x < 9223372036854775808) : (Lib.bitLen x.toNat + 7) / 8 = byteLen x := by
  obtain ⟨n, rfl⟩ := Int.eq_ofNat_of_zero_le (show 0 ≤ x by omega)
  rw [Int.toNat_natCast]
  have key : ∀ j, 2 ^ (8 * j) ≤ n → n < 2 ^ (8 * (j + 1)) → (Lib.bitLen n + 7) / 8 = j + 1 := by
    intro j h0 h2
    rw [Lib.bitLen_shift (8 * j) n h0 (by omega)]
    have hp : 0 < 2 ^ (8 * j) := Nat.two_pow_pos _
    have hq : n / 2 ^ (8 * j) < 256 := by
      rw [Nat.div_lt_iff_lt_mul hp]
      have : 2 ^ (8 * (j + 1)) = 256 * 2 ^ (8 * j) := by rw [Nat.mul_add, Nat.pow_add, Nat.mul_comm]
      omega
    have h1' : 1 ≤ n / 2 ^ (8 * j) := (Nat.le_div_iff_mul_le hp).2 (by omega)
    have := bitLen_small ⟨_, hq⟩ h1'
    simp only at this
    omega
  unfold byteLen
  split
  · exact key 0 (by omega) (by omega)
  split
  · exact key 1 (by omega) (by omega)
  split
  · exact key 2 (by omega) (by omega)
  split
  · exact key 3 (by omega) (by omega)
  split
  · exact key 4 (by omega) (by omega)
  split
  · exact key 5 (by omega) (by omega)
  split
  · exact key 6 (by omega) (by omega)
  · exact key 7 (by omega) (by omega)
end Go.Proofs.Ythbdgakeglppbaa
