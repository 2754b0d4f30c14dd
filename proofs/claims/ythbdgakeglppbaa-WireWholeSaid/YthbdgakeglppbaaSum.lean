/- wire.Sum: what the function computes. -/
import Derived.Test.YthbdgakeglppbaaBase
namespace Go.Proofs.Ythbdgakeglppbaa
open Go.RowKit Go.Proofs.YthbdgakeglppbaaW.PrintWords
/-- One bit's step, as the walk spells it. -/
def sumBit (c : Int) : Int := bits BinOp.xor IntKind.u32 (c / 2) (bits BinOp.and IntKind.u32 2197175160 (-(bits BinOp.and IntKind.u32 c 1) % 4294967296))
def sumByte (c x : Int) : Int := iter sumBit 8 (bits BinOp.xor IntKind.u32 c (x % 4294967296))
def sumBytes (l : List Int) : Int := l.foldl sumByte 4294967295
def wireSum (l : List Int) : Int := bits .xor .u32 4294967295 (sumBytes l)
def wire_Sum.f (l : List Int) : Option Int := some (wireSum l)
theorem sumBytes_snoc (l : List Int) (k : Nat) (h : k < l.length) : sumBytes (l.take (k + 1)) = sumByte (sumBytes (l.take k)) (rd l k) := by
  rw [List.take_succ_eq_append_getElem h]
  unfold sumBytes rd
  rw [List.foldl_append]
  simp [List.getD_eq_getElem?_getD, h]
set_option maxHeartbeats 400000 in
theorem wire_Sum.calls {n : Nat} (A0 : Option Addr) (c0 : Nat) (l0 : List Int) (r : Int) (w : World) (hr0 : Kd.C (Kd.int .u8) w A0 n l0) (_hc0 : n ≤ c0) (h : wire_Sum.f l0 = some r) :
    Calls Try.prog 18 #[.slice A0 n c0] w fun e w' => e = .returned (.int .u32 r) ∧ Drawn0 w w' := by
  obtain rfl := Option.some.inj h
  clear h
  obtain rfl : n = l0.length := (Kd.C_len hr0).symm
  have hm0 := Kd.C_max hr0
  have HR := Lib.hid hr0
  clear hr0
  go_enter Try.func18, Try.ntmps18
  go_wp2
  go_loop [3, 5, 8] (fun c _ i => ∃ (k : Nat), k ≤ l0.length ∧ i = .int .i64 k ∧ c = .int .u32 (sumBytes (l0.take k))) (fun _ _ i => l0.length - (intOf i).toNat)
  case atStart => exact ⟨0, Nat.zero_le _, rfl, rfl⟩
  case round =>
    obtain ⟨k, hk, rfl, rfl⟩ := hrel
    by_cases hlt : k < l0.length
    · obtain ⟨ad, rfl, hx⟩ := Kd.at_int HR.out k (by omega) (by omega)
      rw [show ((k : Int)).toNat = k from rfl] at hx
      have HS := Lib.hid (sumBytes_snoc l0 k hlt)
      go_wp2
      go_loop [3, 16] (fun c i => ∃ (j : Nat), j ≤ 8 ∧ i = .int .i64 j ∧ c = .int .u32 (iter sumBit j (bits BinOp.xor IntKind.u32 (sumBytes (List.take k l0)) (rd l0 ↑k % 4294967296)))) (fun _ i => 8 - (intOf i).toNat)
      case atStart => exact ⟨0, Nat.zero_le _, rfl, rfl⟩
      case round =>
        obtain ⟨j, hj, rfl, rfl⟩ := hrel
        by_cases hj8 : j < 8
        · generalize hc : iter sumBit j (bits BinOp.xor IntKind.u32 (sumBytes (List.take k l0)) (rd l0 ↑k % 4294967296)) = c
          have HC := Lib.hid hc
          clear hc
          go_wp2
          go_round
          case rel => exact ⟨j + 1, by omega, by go_num, by rw [iter_succ, HC.out]; rfl⟩
          case measure => simp [intOf]; omega
        · obtain rfl : j = 8 := by omega
          go_wp2
          go_round
          case rel => exact ⟨k + 1, by omega, by go_num, by rw [HS.out]; rfl⟩
          case measure => simp [intOf]; omega
    · obtain rfl : k = l0.length := by omega
      have HT := Lib.hid (List.take_length (l := l0))
      go_wp2
      go_ret
      exact ⟨rfl, Drawn0.refl _⟩
end Go.Proofs.Ythbdgakeglppbaa
