/- slices.Equal of bytes. -/
import Derived.Test.YtfhnchabifklnaaDoorSame
namespace Go.Proofs.YtfhnchabifklnaaDoor
open Go.RowKit Go.Proofs.YtfhnchabifklnaaDoorW.PrintWords
set_option maxHeartbeats 1600000 in
theorem SEqual_calls {n m : Nat} (A0 : Option Addr) (c0 : Nat) (l0 : List Int) (A1 : Option Addr) (c1 : Nat) (l1 : List Int) (w : World) (hr0 : Rd w A0 n l0) (hr1 : Rd w A1 m l1) (_hb0 : Bytes l0) (_hb1 : Bytes l1) :
    Calls Tryd.prog 14 #[.slice A0 n c0, .slice A1 m c1] w fun e w' => e = .returned (.bool (decide (l0 = l1))) ∧ Drawn0 w w' := by
  have hl0 := Kd.C_len hr0
  have hl1 := Kd.C_len hr1
  have hmx := Kd.C_max hr0
  by_cases hnm : n = m
  · subst hnm
    have HR0 := Lib.hid hr0
    have HR1 := Lib.hid hr1
    have HL0 := Lib.hid hl0
    have HL1 := Lib.hid hl1
    clear hr0 hr1 hl0 hl1
    go_enter Tryd.func14, Tryd.ntmps14
    go_wp2
    go_loopw [13] (fun i wr => ∃ k : Nat, k ≤ n ∧ i = .int .i64 k ∧ Hid (l0.take k = l1.take k) ∧ Hid (Drawn0 w wr)) (fun i _ => n - (intOf i).toNat)
    case atStart => exact ⟨0, by omega, rfl, Lib.hid (by simp), Lib.hid (Drawn0.refl _)⟩
    case round =>
      obtain ⟨k, hk, rfl, HE, HD⟩ := hrel
      by_cases hkn : k < n
      · have dkn : decide ((k : Int) < n) = true := decide_eq_true (by omega)
        obtain ⟨ad0, rfl, hc0⟩ := Rd.cells (Kd.C_below HR0.out HD.out.below) (by omega)
        obtain ⟨ad1, rfl, hc1⟩ := Rd.cells (Kd.C_below HR1.out HD.out.below) (by omega)
        have x0 := hc0 k hkn
        have x1 := hc1 k hkn
        have HT := Lib.hid (take_step l0 l1 k (by rw [HL0.out]; exact hkn) (by rw [HL1.out]; exact hkn))
        obtain ⟨p, hp⟩ : ∃ p, p = rd l0 k := ⟨_, rfl⟩
        obtain ⟨q, hq⟩ : ∃ q, q = rd l1 k := ⟨_, rfl⟩
        rw [← hp] at x0 HT
        rw [← hq] at x1 HT
        have HPQ := Lib.hid (show l0 = l1 → p = q from fun h => by rw [hp, hq, h])
        have ik : (k : Int) < n := by omega
        clear hc0 hc1 hp hq
        by_cases hpq : p = q
        · have d1 : (p == q) = true := beq_iff_eq.2 hpq
          have d2 : (p != q) = false := by rw [bne, d1]; rfl
          have HE2 := Lib.hid (show l0.take (k + 1) = l1.take (k + 1) from HT.out.2 ⟨HE.out, hpq⟩)
          clear hpq
          go_wp2_with fail
          go_quiet (fail)
          go_wp2
          go_roundw
          case rel => exact ⟨k + 1, by omega, by go_num, HE2, Lib.hid (HD.out.step _)⟩
          case measure => simp [intOf]; omega
        · have d1 : (p == q) = false := beq_eq_false_iff_ne.2 hpq
          have d2 : (p != q) = true := by rw [bne, d1]; rfl
          have HN := Lib.hid (show decide (l0 = l1) = false from decide_eq_false (fun h => hpq (HPQ.out h)))
          clear hpq
          go_wp2_with fail
          go_quiet (fail)
          go_wp2
          go_ret
          exact ⟨by rw [HN.out]; rfl, HD.out.step _⟩
      · obtain rfl : k = n := by omega
        have dkn : decide ((k : Int) < k) = false := decide_eq_false (by omega)
        have HN := Lib.hid (show decide (l0 = l1) = true from decide_eq_true (by
          have := HE.out
          rwa [List.take_of_length_le (by rw [HL0.out]; exact Nat.le_refl _), List.take_of_length_le (by rw [HL1.out]; exact Nat.le_refl _)] at this))
        go_wp2
        go_ret
        exact ⟨by rw [HN.out]; rfl, HD.out⟩
  · have hne : l0 ≠ l1 := fun h => hnm (by rw [← hl0, ← hl1, h])
    have HN := Lib.hid (show decide (l0 = l1) = false from decide_eq_false hne)
    have d1 : ((n : Int) == m) = false := beq_eq_false_iff_ne.2 (by omega)
    have d2 : ((n : Int) != m) = true := by rw [bne, d1]; rfl
    have d3 : (n == m) = false := beq_eq_false_iff_ne.2 hnm
    have d4 : (n != m) = true := by rw [bne, d3]; rfl
    clear hnm hne hl0 hl1
    go_enter Tryd.func14, Tryd.ntmps14
    go_wp2
    go_ret
    exact ⟨by rw [HN.out]; rfl, Drawn0.refl _⟩
end Go.Proofs.YtfhnchabifklnaaDoor
