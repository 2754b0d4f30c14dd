/- The texts Sha1 in one. -/
import Derived.Test.YtcgenmogedndjaaDoorG02
import Derived.Test.YtcgenmogedndjaaDoorG05
import Derived.Test.YtcgenmogedndjaaDoorG06
import Derived.Deep.CutBlock
namespace Go.Proofs.YtcgenmogedndjaaDoor
open Go.RowKit Go.Proofs.YtcgenmogedndjaaDoorW.PrintWords
def St5.l (s : St5) : List Int := [s.a, s.b, s.c, s.d, s.e]
def St5.ok (s : St5) : Prop := Ws s.l
theorem padSha_bytes (l : List Int) (h : Bytes l) : Bytes (padSha l) := by
  intro x hx
  unfold padSha be4 at hx
  simp only [List.mem_append, List.mem_cons, List.mem_replicate, List.not_mem_nil, or_false] at hx
  rcases hx with ((hx | rfl | ⟨_, rfl⟩) | rfl | rfl | rfl | rfl) | rfl | rfl | rfl | rfl
  · exact h x hx
  all_goals omega
theorem no_nat (b : Nat) (hb : b < 4294967296) : 4294967295 ^^^ b = 4294967295 - b := by
  apply Nat.eq_of_testBit_eq
  intro i
  have hn : (4294967295 - b).testBit i = (decide (i < 32) && !b.testBit i) := by
    have := Nat.testBit_two_pow_sub_succ (n := 32) (x := b) hb i
    rwa [show 2 ^ 32 - (b + 1) = 4294967295 - b by omega] at this
  have h1 : (4294967295 : Nat).testBit i = decide (i < 32) := by
    rw [show (4294967295 : Nat) = 2 ^ 32 - 1 by rfl, Nat.testBit_two_pow_sub_one]
  have h2 : b.testBit i = true → i < 32 := fun h => by
    refine Nat.lt_of_not_le fun hle => ?_
    rw [Nat.testBit_lt_two_pow (Nat.lt_of_lt_of_le hb (Nat.pow_le_pow_right (n := 2) (by decide) hle))] at h
    cases h
  rw [Nat.testBit_xor, hn, h1]
  cases hb' : b.testBit i <;> cases hd : decide (i < 32) <;> simp_all
theorem no_eq (q : Int) (q0 : 0 ≤ q) (q1 : q < 4294967296) : bits .xor .u32 IntKind.u32.max q = no q := by
  obtain ⟨x, rfl⟩ := Int.eq_ofNat_of_zero_le q0
  have e : IntKind.u32.max = ((4294967295 : Nat) : Int) := rfl
  rw [e, xor_u32 _ _ (by omega) (by omega), no_nat x (by omega)]
  unfold no
  omega
abbrev ad_ (x y : Int) : Int := (x + y) % 4294967296
theorem size_alloc (w : World) (o : Obj) : (w.alloc o).heap.size = w.heap.size + 1 := Array.size_push _
end Go.Proofs.YtcgenmogedndjaaDoor
