/- math/bits.RotateLeft32 and what turns by it. -/
import Derived.Test.YtfhnchabifklnaaDoorApp
import Derived.Test.YtfhnchabifklnaaDoorBits
import Derived.Test.YtfhnchabifklnaaDoorInts
namespace Go.Proofs.YtfhnchabifklnaaDoor
open Go.RowKit Go.Proofs.YtfhnchabifklnaaDoorW.PrintWords
/-- A word turned left. -/
def rotl (x : Int) (s : Nat) : Int := x * 2 ^ s % 4294967296 + x / 2 ^ (32 - s)
theorem rotl_range (x : Int) (x0 : 0 ≤ x) (x1 : x < 4294967296) (s : Nat) (hs : s < 32) : 0 ≤ rotl x s ∧ rotl x s < 4294967296 := by
  have hp : (2 : Int) ^ s * 2 ^ (32 - s) = 4294967296 := by rw [← Int.pow_add, show s + (32 - s) = 32 by omega]; rfl
  have hs0 : (0 : Int) < 2 ^ s := Int.pow_pos (by decide)
  have ht0 : (0 : Int) < 2 ^ (32 - s) := Int.pow_pos (by decide)
  have h1 : x / 2 ^ (32 - s) < 2 ^ s := Int.ediv_lt_of_lt_mul ht0 (by rw [hp]; exact x1)
  have h2 : 0 ≤ x / 2 ^ (32 - s) := Int.ediv_nonneg x0 (Int.le_of_lt ht0)
  have h3 : x * 2 ^ s % 4294967296 = (x % 2 ^ (32 - s)) * 2 ^ s := by
    rw [← hp, Int.mul_comm x, Int.mul_emod_mul_of_pos _ _ hs0, Int.mul_comm]
  unfold rotl
  rw [h3]
  have h4 : 0 ≤ x % 2 ^ (32 - s) := Int.emod_nonneg _ (by omega)
  have h5 : x % 2 ^ (32 - s) < 2 ^ (32 - s) := Int.emod_lt_of_pos _ ht0
  have h6 : (x % 2 ^ (32 - s)) * 2 ^ s ≤ (2 ^ (32 - s) - 1) * 2 ^ s := Int.mul_le_mul_of_nonneg_right (by omega) (Int.le_of_lt hs0)
  have h7 : (2 ^ (32 - s) - 1 : Int) * 2 ^ s = 4294967296 - 2 ^ s := by rw [Int.sub_mul, Int.mul_comm, hp, Int.one_mul]
  have h8 : 0 ≤ (x % 2 ^ (32 - s)) * 2 ^ s := Int.mul_nonneg h4 (Int.le_of_lt hs0)
  omega
theorem rotl_or (x : Int) (x0 : 0 ≤ x) (x1 : x < 4294967296) (s : Nat) (hs : s < 32) : bits .or .u32 (x * 2 ^ s % 4294967296) (x / 2 ^ (32 - s)) = rotl x s := by
  have hp : (2 : Int) ^ s * 2 ^ (32 - s) = 4294967296 := by rw [← Int.pow_add, show s + (32 - s) = 32 by omega]; rfl
  have hs0 : (0 : Int) < 2 ^ s := Int.pow_pos (by decide)
  have ht0 : (0 : Int) < 2 ^ (32 - s) := Int.pow_pos (by decide)
  have h1 : x / 2 ^ (32 - s) < 2 ^ s := Int.ediv_lt_of_lt_mul ht0 (by rw [hp]; exact x1)
  have h2 : 0 ≤ x / 2 ^ (32 - s) := Int.ediv_nonneg x0 (Int.le_of_lt ht0)
  have h3 : x * 2 ^ s % 4294967296 = (x % 2 ^ (32 - s)) * 2 ^ s := by
    rw [← hp, Int.mul_comm x, Int.mul_emod_mul_of_pos _ _ hs0, Int.mul_comm]
  have hr := rotl_range x x0 x1 s hs
  have h8 : 0 ≤ x * 2 ^ s % 4294967296 ∧ x * 2 ^ s % 4294967296 < 4294967296 := ⟨Int.emod_nonneg _ (by decide), Int.emod_lt_of_pos _ (by decide)⟩
  exact bits_join .u32 32 (by decide) wraps_u32 s (x * 2 ^ s % 4294967296) (x / 2 ^ (32 - s)) h8.1 (by rw [h3]; exact Int.mul_emod_left _ _) h8.2 h2 h1 (by unfold rotl at hr; omega)
theorem and_31 (k : Int) : bits .and .u64 (IntKind.u64.wrap k) 31 = k % 32 := by
  have hr := u64_wrap_range k
  rw [u64_wrap] at hr ⊢
  obtain ⟨a, ha⟩ := Int.eq_ofNat_of_zero_le hr.1
  rw [ha]
  have h := (bits_nat .u64 64 (by decide) (fun n h₀ h₁ => by rw [IntKind.wrap_u64]; omega) a 31 (by omega) (by omega)).1
  have e : a &&& 31 = a % 32 := Nat.and_two_pow_sub_one_eq_mod a 5
  rw [e] at h
  exact h.trans (by omega)
set_option maxHeartbeats 800000 in
theorem rot_calls (x k : Int) (w : World) (x0 : 0 ≤ x) (x1 : x < 4294967296) (s : Nat) (hs : s < 32) (hk : k % 32 = s) :
    Calls Tryd.prog 28 #[.int .u32 x, .int .i64 k] w fun e w' => e = .returned (.int .u32 (rotl x s)) ∧ Drawn0 w w' := by
  have hA : bits .and .u64 (IntKind.u64.wrap k) 31 = s := by rw [and_31, hk]
  have hB : IntKind.u64.wrap (32 - (s : Int)) = 32 - s := u64_id (by omega) (by omega)
  have hC : IntKind.u32.wrap (x * 2 ^ min s 32) = x * 2 ^ s % 4294967296 := by rw [Nat.min_eq_left (by omega), IntKind.wrap_u32]
  have hD : x / 2 ^ min (32 - (s : Int)).toNat 32 = x / 2 ^ (32 - s) := by rw [show (32 - (s : Int)).toNat = 32 - s by omega, Nat.min_eq_left (by omega)]
  have hO := rotl_or x x0 x1 s hs
  have hs1 : (0 : Int) ≤ 32 - (s : Int) := by omega
  clear hk x0 x1
  go_enter Tryd.func28, Tryd.ntmps28
  go_wp2
  go_ret
  exact ⟨rfl, Drawn0.refl _⟩
end Go.Proofs.YtfhnchabifklnaaDoor
