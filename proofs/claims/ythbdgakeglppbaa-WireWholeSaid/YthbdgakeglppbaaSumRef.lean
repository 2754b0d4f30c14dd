/- blotterref01.Sum computes the same sum as wire.Sum. -/
import Derived.Test.YthbdgakeglppbaaBits
import Derived.Test.YthbdgakeglppbaaSum
namespace Go.Proofs.Ythbdgakeglppbaa
open Go.RowKit Go.Proofs.YthbdgakeglppbaaW.PrintWords
theorem sumBit_nat (c : Nat) (h : c < 4294967296) : sumBit c = if c % 2 = 1 then (((c / 2) ^^^ 2197175160 : Nat) : Int) else ((c / 2 : Nat) : Int) := by
  have h1 : bits BinOp.and IntKind.u32 (c : Int) 1 = ((c % 2 : Nat) : Int) := by
    have := bits_mask .u32 32 (by decide) wraps_u32 1 (by decide) (c : Int) (by omega) (by omega)
    simpa using this
  unfold sumBit
  rw [h1, show (c : Int) / 2 = ((c / 2 : Nat) : Int) by simp]
  by_cases hc : c % 2 = 1
  · rw [if_pos hc, hc]
    rw [show (-((1 : Nat) : Int)) % 4294967296 = ((4294967295 : Nat) : Int) from rfl, show (2197175160 : Int) = ((2197175160 : Nat) : Int) from rfl, and_u32 _ _ (by decide) (by decide), xor_u32 _ _ (by omega) (by decide)]
    rfl
  · rw [if_neg hc, show c % 2 = 0 by omega]
    rw [show (-((0 : Nat) : Int)) % 4294967296 = ((0 : Nat) : Int) from rfl, show (2197175160 : Int) = ((2197175160 : Nat) : Int) from rfl, and_u32 _ _ (by decide) (by decide), xor_u32 _ _ (by omega) (by decide)]
    simp
theorem sumBit_range (c : Int) (h0 : 0 ≤ c) (h1 : c < 4294967296) : 0 ≤ sumBit c ∧ sumBit c < 4294967296 := by
  obtain ⟨n, rfl⟩ := Int.eq_ofNat_of_zero_le h0
  rw [sumBit_nat n (by omega)]
  split
  · have := Nat.xor_lt_two_pow (x := n / 2) (y := 2197175160) (n := 32) (by omega) (by decide)
    omega
  · omega
/-- The reference's step. -/
theorem sumBit_ref (c : Int) (h0 : 0 ≤ c) (h1 : c < 4294967296) : sumBit c = if c % 2 = 1 then bits .xor .i64 (c / 2) 2197175160 else c / 2 := by
  obtain ⟨n, rfl⟩ := Int.eq_ofNat_of_zero_le h0
  rw [sumBit_nat n (by omega), show (n : Int) / 2 = ((n / 2 : Nat) : Int) by simp, show (2197175160 : Int) = ((2197175160 : Nat) : Int) from rfl, xor_i64 _ _ (by omega) (by decide)]
  by_cases h : n % 2 = 1
  · rw [if_pos h, if_pos (by omega)]
  · rw [if_neg h, if_neg (by omega)]
theorem iter_range (n : Nat) (c : Int) (h0 : 0 ≤ c) (h1 : c < 4294967296) : 0 ≤ iter sumBit n c ∧ iter sumBit n c < 4294967296 := by
  induction n generalizing c with
  | zero => exact ⟨h0, h1⟩
  | succ n ih => exact ih _ (sumBit_range c h0 h1).1 (sumBit_range c h0 h1).2
theorem sumBytes_range (l : List Int) : 0 ≤ sumBytes l ∧ sumBytes l < 4294967296 := by
  unfold sumBytes
  have key : ∀ (l : List Int) (c : Int), 0 ≤ c → c < 4294967296 → 0 ≤ l.foldl sumByte c ∧ l.foldl sumByte c < 4294967296 := by
    intro l
    induction l with
    | nil => exact fun c h0 h1 => ⟨h0, h1⟩
    | cons x l ih =>
      intro c h0 h1
      have hb := bits_within .xor .u32 c (x % 4294967296)
      have e1 : IntKind.u32.min = 0 := rfl
      have e2 : IntKind.u32.max = 4294967295 := rfl
      have := iter_range 8 (bits BinOp.xor IntKind.u32 c (x % 4294967296)) (by omega) (by omega)
      exact ih _ this.1 this.2
  exact key l _ (by decide) (by decide)
theorem xor_agree (c x : Int) (h0 : 0 ≤ c) (h1 : c < 4294967296) (hx0 : 0 ≤ x) (hx1 : x < 256) : bits .xor .i64 c x = bits .xor .u32 c (x % 4294967296) := by
  obtain ⟨n, rfl⟩ := Int.eq_ofNat_of_zero_le h0
  obtain ⟨m, rfl⟩ := Int.eq_ofNat_of_zero_le hx0
  rw [show ((m : Nat) : Int) % 4294967296 = (m : Int) by omega, xor_i64 _ _ (by omega) (by omega), xor_u32 _ _ (by omega) (by omega)]
theorem last_agree (c : Int) (h0 : 0 ≤ c) (h1 : c < 4294967296) : bits .xor .i64 c 4294967295 % 4294967296 = bits .xor .u32 4294967295 c := by
  obtain ⟨n, rfl⟩ := Int.eq_ofNat_of_zero_le h0
  rw [show (4294967295 : Int) = ((4294967295 : Nat) : Int) from rfl, xor_i64 _ _ (by omega) (by omega), xor_u32 _ _ (by omega) (by omega), Nat.xor_comm]
  have := Nat.xor_lt_two_pow (x := 4294967295) (y := n) (n := 32) (by decide) (by omega)
  omega
set_option maxHeartbeats 800000 in
theorem SumRef_calls {n : Nat} (A0 : Option Addr) (c0 : Nat) (l0 : List Int) (w : World) (hr0 : Kd.C (Kd.int .u8) w A0 n l0) (hb0 : Bytes l0) :
    Calls Try.prog 19 #[.slice A0 n c0] w fun e w' => e = .returned (.int .u32 (wireSum l0)) ∧ Drawn0 w w' := by
  obtain rfl : n = l0.length := (Kd.C_len hr0).symm
  have hm0 := Kd.C_max hr0
  have HR := Lib.hid hr0
  have HBY := Lib.hid hb0
  clear hr0 hb0
  go_enter Try.func19, Try.ntmps19
  go_wp2
  go_loop [3, 6, 9] (fun c _ i => ∃ (k : Nat), k ≤ l0.length ∧ i = .int .i64 k ∧ c = .int .i64 (sumBytes (l0.take k))) (fun _ _ i => l0.length - (intOf i).toNat)
  case atStart => exact ⟨0, Nat.zero_le _, rfl, rfl⟩
  case round =>
    obtain ⟨k, hk, rfl, rfl⟩ := hrel
    by_cases hlt : k < l0.length
    · obtain ⟨ad, rfl, hx⟩ := Kd.at_int HR.out k (by omega) (by omega)
      rw [show ((k : Int)).toNat = k from rfl] at hx
      have HS := Lib.hid (sumBytes_snoc l0 k hlt)
      obtain ⟨x0, x1⟩ := bytes_rd HBY.out k hlt
      obtain ⟨r0, r1⟩ := sumBytes_range (l0.take k)
      have HX := Lib.hid (xor_agree _ _ r0 r1 x0 x1)
      have HW := bits_within .xor .u32 (sumBytes (l0.take k)) (rd l0 k % 4294967296)
      have e1 : IntKind.u32.min = 0 := rfl
      have e2 : IntKind.u32.max = 4294967295 := rfl
      have HI := Lib.hid fun j => iter_range j _ (show 0 ≤ bits .xor .u32 (sumBytes (l0.take k)) (rd l0 k % 4294967296) by omega) (by omega)
      clear HW e1 e2
      go_wp2
      go_loop [3, 17] (fun c i => ∃ (j : Nat), j ≤ 8 ∧ i = .int .i64 j ∧ c = .int .i64 (iter sumBit j (bits BinOp.xor IntKind.u32 (sumBytes (List.take k l0)) (rd l0 ↑k % 4294967296)))) (fun _ i => 8 - (intOf i).toNat)
      case atStart => exact ⟨0, Nat.zero_le _, rfl, by first | rfl | (rw [← HX.out]; rfl)⟩
      case round =>
        obtain ⟨j, hj, rfl, rfl⟩ := hrel
        have HIj := HI.out j
        by_cases hj8 : j < 8
        · generalize hc : iter sumBit j (bits BinOp.xor IntKind.u32 (sumBytes (List.take k l0)) (rd l0 ↑k % 4294967296)) = c at HIj
          have HC := Lib.hid hc
          clear hc
          obtain ⟨c0', c1'⟩ := HIj
          have HS2 := Lib.hid (sumBit_ref c c0' c1')
          by_cases hodd : c % 2 = 1
          · have hod := beq_iff_eq.2 hodd
            have HO := Lib.hid hodd
            clear hodd
            go_wp2
            go_round
            case rel => exact ⟨j + 1, by omega, by go_num, by rw [iter_succ, HC.out, HS2.out, if_pos HO.out]⟩
            case measure => simp [intOf]; omega
          · have hod := beq_eq_false_iff_ne.2 hodd
            have HO := Lib.hid hodd
            clear hodd
            go_wp2
            go_round
            case rel => exact ⟨j + 1, by omega, by go_num, by rw [iter_succ, HC.out, HS2.out, if_neg HO.out]⟩
            case measure => simp [intOf]; omega
        · obtain rfl : j = 8 := by omega
          go_wp2
          go_round
          case rel => exact ⟨k + 1, by omega, by go_num, by rw [HS.out]; rfl⟩
          case measure => simp [intOf]; omega
    · obtain rfl : k = l0.length := by omega
      have HT := Lib.hid (List.take_length (l := l0))
      have HL := Lib.hid (last_agree _ (sumBytes_range l0).1 (sumBytes_range l0).2)
      go_wp2
      go_ret
      exact ⟨ret_int HL.out, Drawn0.refl _⟩
end Go.Proofs.Ythbdgakeglppbaa
