/- digest.Same, slices.Equal of bytes: whether two lists are the same. -/
import Derived.Test.YtfhnchabifklnaaDoorTurn
namespace Go.Proofs.YtfhnchabifklnaaDoor
open Go.RowKit Go.Proofs.YtfhnchabifklnaaDoorW.PrintWords
theorem take_snoc' (l : List Int) (k : Nat) (h : k < l.length) : l.take (k + 1) = l.take k ++ [rd l k] := by
  rw [List.take_succ_eq_append_getElem h, rd_get l k h]
theorem take_step (l m : List Int) (k : Nat) (h : k < l.length) (h' : k < m.length) : l.take (k + 1) = m.take (k + 1) ↔ l.take k = m.take k ∧ rd l k = rd m k := by
  rw [take_snoc' l k h, take_snoc' m k h']
  constructor
  · intro e
    have e' := List.append_inj e (by rw [List.length_take, List.length_take]; omega)
    exact ⟨e'.1, by simpa using e'.2⟩
  · rintro ⟨e1, e2⟩
    rw [e1, e2]
theorem xor8_zero (a b : Int) (a0 : 0 ≤ a) (a1 : a < 256) (b0 : 0 ≤ b) (b1 : b < 256) : (0 ≤ bits .xor .u8 a b ∧ bits .xor .u8 a b < 256) ∧ (bits .xor .u8 a b = 0 ↔ a = b) := by
  obtain ⟨x, rfl⟩ := Int.eq_ofNat_of_zero_le a0
  obtain ⟨y, rfl⟩ := Int.eq_ofNat_of_zero_le b0
  have h := xor_u8 x y (by omega) (by omega)
  have hl : x ^^^ y < 2 ^ 8 := Nat.xor_lt_two_pow (by omega) (by omega)
  rw [h]
  refine ⟨by omega, ?_⟩
  have hx : x ^^^ y = 0 ↔ x = y := by
    constructor
    · intro h0
      have := congrArg (· ^^^ y) h0
      simpa [Nat.xor_assoc] using this
    · rintro rfl
      exact Nat.xor_self x
  omega
theorem or8_zero (a b : Int) (a0 : 0 ≤ a) (a1 : a < 256) (b0 : 0 ≤ b) (b1 : b < 256) : (0 ≤ bits .or .u8 a b ∧ bits .or .u8 a b < 256) ∧ (bits .or .u8 a b = 0 ↔ a = 0 ∧ b = 0) := by
  obtain ⟨x, rfl⟩ := Int.eq_ofNat_of_zero_le a0
  obtain ⟨y, rfl⟩ := Int.eq_ofNat_of_zero_le b0
  have h := or_u8 x y (by omega) (by omega)
  have hl : x ||| y < 2 ^ 8 := Nat.or_lt_two_pow (by omega) (by omega)
  rw [h]
  refine ⟨by omega, ?_⟩
  rw [show (((x ||| y : Nat) : Int) = 0 ↔ x ||| y = 0) from by omega, Nat.or_eq_zero_iff]
  omega
set_option maxHeartbeats 1600000 in
theorem Same_calls {n m : Nat} (A0 : Option Addr) (c0 : Nat) (l0 : List Int) (A1 : Option Addr) (c1 : Nat) (l1 : List Int) (w : World) (hr0 : Rd w A0 n l0) (hr1 : Rd w A1 m l1) (hb0 : Bytes l0) (hb1 : Bytes l1) :
    Calls Tryd.prog 21 #[.slice A0 n c0, .slice A1 m c1] w fun e w' => e = .returned (.bool (decide (l0 = l1))) ∧ Drawn0 w w' := by
  have hl0 := Kd.C_len hr0
  have hl1 := Kd.C_len hr1
  have hmx := Kd.C_max hr0
  by_cases hnm : n = m
  · subst hnm
    have HR0 := Lib.hid hr0
    have HR1 := Lib.hid hr1
    have HY0 := Lib.hid hb0
    have HY1 := Lib.hid hb1
    have HL0 := Lib.hid hl0
    have HL1 := Lib.hid hl1
    clear hr0 hr1 hb0 hb1 hl0 hl1
    go_enter Tryd.func21, Tryd.ntmps21
    go_wp2
    go_loopw [5, 14] (fun x i wr => ∃ (k : Nat) (y : Int), k ≤ n ∧ i = .int .i64 k ∧ x = .int .u8 y ∧ 0 ≤ y ∧ y < 256 ∧ Hid (y = 0 ↔ l0.take k = l1.take k) ∧ Hid (Drawn0 w wr)) (fun _ i _ => n - (intOf i).toNat)
    case atStart => exact ⟨0, 0, by omega, rfl, rfl, by omega, by omega, Lib.hid (by simp), Lib.hid (Drawn0.refl _)⟩
    case round =>
      obtain ⟨k, y, hk, rfl, rfl, y0, y1, HE, HD⟩ := hrel
      by_cases hkn : k < n
      · have dkn : decide ((k : Int) < n) = true := decide_eq_true (by omega)
        obtain ⟨ad0, rfl, hc0⟩ := Rd.cells (Kd.C_below HR0.out HD.out.below) (by omega)
        obtain ⟨ad1, rfl, hc1⟩ := Rd.cells (Kd.C_below HR1.out HD.out.below) (by omega)
        have x0 := hc0 k hkn
        have x1 := hc1 k hkn
        obtain ⟨p0, p1⟩ := bytes_rd HY0.out k (by rw [HL0.out]; exact hkn)
        obtain ⟨q0, q1⟩ := bytes_rd HY1.out k (by rw [HL1.out]; exact hkn)
        have HT := Lib.hid (take_step l0 l1 k (by rw [HL0.out]; exact hkn) (by rw [HL1.out]; exact hkn))
        obtain ⟨p, hp⟩ : ∃ p, p = rd l0 k := ⟨_, rfl⟩
        obtain ⟨q, hq⟩ : ∃ q, q = rd l1 k := ⟨_, rfl⟩
        rw [← hp] at x0 p0 p1 HT
        rw [← hq] at x1 q0 q1 HT
        have hx := xor8_zero p q p0 p1 q0 q1
        obtain ⟨X, hX⟩ : ∃ X, bits .xor .u8 p q = X := ⟨_, rfl⟩
        rw [hX] at hx
        have ho := or8_zero y X y0 y1 hx.1.1 hx.1.2
        obtain ⟨Z, hZ⟩ : ∃ Z, bits .or .u8 y X = Z := ⟨_, rfl⟩
        rw [hZ] at ho
        have HE2 := Lib.hid (show Z = 0 ↔ l0.take (k + 1) = l1.take (k + 1) by rw [ho.2, hx.2, HT.out, HE.out])
        have hzr := ho.1
        have ik : (k : Int) < n := by omega
        clear hc0 hc1 hp hq hx ho
        go_wp2_with fail
        go_quiet (fail)
        go_wp2
        go_roundw
        case rel => exact ⟨k + 1, Z, by omega, by go_num, rfl, hzr.1, hzr.2, HE2, Lib.hid (HD.out.step _)⟩
        case measure => simp [intOf]; omega
      · obtain rfl : k = n := by omega
        have dkn : decide ((k : Int) < k) = false := decide_eq_false (by omega)
        have hE : y = 0 ↔ l0 = l1 := by
          have := HE.out
          rwa [List.take_of_length_le (by rw [HL0.out]; exact Nat.le_refl _), List.take_of_length_le (by rw [HL1.out]; exact Nat.le_refl _)] at this
        have HQ := Lib.hid (show (y == 0) = decide (l0 = l1) by rw [Bool.eq_iff_iff, beq_iff_eq, decide_eq_true_iff]; exact hE)
        clear hE
        go_wp2
        go_ret
        exact ⟨congrArg (fun b => Ending.returned (Value.bool b)) HQ.out, HD.out⟩
  · have hne : l0 ≠ l1 := fun h => hnm (by rw [← hl0, ← hl1, h])
    have HN := Lib.hid (show decide (l0 = l1) = false from decide_eq_false hne)
    have d1 : ((n : Int) == m) = false := beq_eq_false_iff_ne.2 (by omega)
    have d2 : ((n : Int) != m) = true := by rw [bne, d1]; rfl
    have d3 : (n == m) = false := beq_eq_false_iff_ne.2 hnm
    have d4 : (n != m) = true := by rw [bne, d3]; rfl
    clear hnm hne hl0 hl1
    go_enter Tryd.func21, Tryd.ntmps21
    go_wp2
    go_ret
    exact ⟨by rw [HN.out]; rfl, Drawn0.refl _⟩
end Go.Proofs.YtfhnchabifklnaaDoor
