/- The texts CharsRef in one. -/
import Derived.Test.YtcfbfmgckaehdaaDoorG15
namespace Go.Proofs.YtcfbfmgckaehdaaDoor
open Go.RowKit Go.Proofs.YtcfbfmgckaehdaaDoorW.PrintWords
set_option maxHeartbeats 800000 in
theorem CharsRef_calls {n : Nat} (A0 : Option Addr) (c0 : Nat) (l0 : List Int) (w : World) (hr0 : Rd w A0 n l0) (hc0 : n ≤ c0) (hb0 : Bytes l0) :
    Calls Tryd.prog 48 #[.slice A0 n c0] w fun e w' => e = .returned (.int .i64 (charsOf l0)) ∧ Below w.heap.size w w' := by
  have hlen := Kd.C_len hr0
  have hmx := Kd.C_max hr0
  have HR := Lib.hid hr0
  have HBY := Lib.hid hb0
  have HLEN := Lib.hid hlen
  clear hr0 hb0 hlen
  go_enter Tryd.func48, Tryd.ntmps48
  go_wp2
  go_loopw [3] (fun i wr => ∃ k : Nat, k ≤ n ∧ i = .int .i64 k ∧ Hid (charsFrom l0 k = charsOf l0) ∧ Hid (Below w.heap.size w wr)) (fun i _ => n - (intOf i).toNat)
  case atStart => exact ⟨0, Nat.zero_le _, rfl, Lib.hid rfl, Lib.hid (Below.refl _ _)⟩
  case round =>
    obtain ⟨k, hk, rfl, HCF, HB⟩ := hrel
    by_cases hlt : k < n
    · have HRW := Lib.hid (Kd.C_below HR.out HB.out)
      have hd : decide ((k : Int) < n) = true := decide_eq_true (by omega)
      have HST := Lib.hid (show charsOf l0 = if charLen (l0.drop k) = 0 then (k : Int) else charsFrom l0 (k + charLen (l0.drop k)) by rw [← HCF.out, charsFrom, dif_pos (by rw [HLEN.out]; exact hlt)])
      have hle : charLen (l0.drop k) ≤ n - k := by have := charLen_le (l0.drop k); rw [List.length_drop, HLEN.out] at this; exact this
      have HFC := Lib.hid (first_charLen (l0.drop k) (HBY.out.dp k) (by rw [List.length_drop, HLEN.out]; omega))
      obtain ⟨L, hL⟩ : ∃ L, L = charLen (l0.drop k) := ⟨_, rfl⟩
      rw [← hL] at hle HFC HST
      clear hL
      obtain ⟨ad, rfl, _⟩ := Rd.cells HR.out (by omega)
      have HD := Lib.hid (show ∀ x : Addr, x = ad.add k → Rd wr (some x) (n - k) (l0.drop k) from fun x hx => by
        have := Rd.mid HRW.out k n hk (Nat.le_refl _) (fun _ => hx)
        rwa [List.take_of_length_le (by rw [HLEN.out]; exact Nat.le_refl _)] at this)
      go_wp2_with fail
      refine (first_calls _ _ (l0.drop k) _ (HD.out _ rfl) (by omega) (HBY.out.dp k) (by omega)).mono ?_
      rintro e w1 ⟨rfl, hb1⟩
      rw [HFC.out]
      have HB1 := Lib.hid (below_step HB.out hb1)
      clear hb1
      by_cases hL0 : L = 0
      · subst hL0
        have HE := Lib.hid (show charsOf l0 = k by rw [HST.out, if_pos rfl])
        go_wp2
        go_ret
        exact ⟨ret_int HE.out.symm, HB1.out⟩
      have hz : ((L : Int) == 0) = false := beq_eq_false_iff_ne.2 (by omega)
      have HN := Lib.hid (show charsFrom l0 (k + L) = charsOf l0 by rw [HST.out, if_neg hL0])
      go_wp2
      go_roundw
      case rel => exact ⟨k + L, by omega, by go_num, HN, HB1⟩
      case measure => simp [intOf]; omega
    · obtain rfl : k = n := by omega
      have HE := Lib.hid (show charsOf l0 = -1 by rw [← HCF.out, charsFrom, dif_neg (by rw [HLEN.out]; omega)])
      go_wp2
      go_ret
      exact ⟨ret_int HE.out.symm, HB.out⟩
end Go.Proofs.YtcfbfmgckaehdaaDoor
