/- The texts Long, Chars, CursorNum in one. -/
import Derived.Test.YtcfbfmgckaehdaaDoorG01
import Derived.Test.YtcfbfmgckaehdaaDoorG02
import Derived.Test.YtcfbfmgckaehdaaDoorG04
import Derived.Test.YtcfbfmgckaehdaaDoorG06
namespace Go.Proofs.YtcfbfmgckaehdaaDoor
open Go.RowKit Go.Proofs.YtcfbfmgckaehdaaDoorW.PrintWords
/-- How many bytes, and the least and the greatest second one. -/
def longOf (c : Int) : Int × Int × Int :=
  if c < 128 then (1, 128, 191) else if c < 194 then (0, 0, 0) else if c < 224 then (2, 128, 191) else if c = 224 then (3, 160, 191) else if c = 237 then (3, 128, 159)
  else if c < 240 then (3, 128, 191) else if c = 240 then (4, 144, 191) else if c < 244 then (4, 128, 191) else if c = 244 then (4, 128, 143) else (0, 0, 0)
theorem long_0 (c : Int) (w : World) (h0 : 0 ≤ c) (h1 : c ≤ 127) :
    Calls Tryd.prog 49 #[.int .u8 c] w fun e w' => e = .returned (.tuple #[.int .i64 1, .int .u8 128, .int .u8 191]) ∧ Drawn0 w w' := by
  have d0 : decide (c < 128) = true := decide_eq_true (by omega)
  have d1 : decide (194 ≤ c) = false := decide_eq_false (by omega)
  have d2 : decide (c ≤ 223) = true := decide_eq_true (by omega)
  have d3 : (c == 224) = false := beq_eq_false_iff_ne.2 (by omega)
  have d4 : (c == 237) = false := beq_eq_false_iff_ne.2 (by omega)
  have d5 : decide (225 ≤ c) = false := decide_eq_false (by omega)
  have d6 : decide (c ≤ 239) = true := decide_eq_true (by omega)
  have d7 : (c == 240) = false := beq_eq_false_iff_ne.2 (by omega)
  have d8 : (c == 244) = false := beq_eq_false_iff_ne.2 (by omega)
  have d9 : decide (241 ≤ c) = false := decide_eq_false (by omega)
  have d10 : decide (c ≤ 243) = true := decide_eq_true (by omega)
  go_enter Tryd.func49, Tryd.ntmps49
  go_wp2
  go_ret3
  exact ⟨rfl, Drawn0.refl _⟩
theorem long_1 (c : Int) (w : World) (h0 : 128 ≤ c) (h1 : c ≤ 193) :
    Calls Tryd.prog 49 #[.int .u8 c] w fun e w' => e = .returned (.tuple #[.int .i64 0, .int .u8 0, .int .u8 0]) ∧ Drawn0 w w' := by
  have d0 : decide (c < 128) = false := decide_eq_false (by omega)
  have d1 : decide (194 ≤ c) = false := decide_eq_false (by omega)
  have d2 : decide (c ≤ 223) = true := decide_eq_true (by omega)
  have d3 : (c == 224) = false := beq_eq_false_iff_ne.2 (by omega)
  have d4 : (c == 237) = false := beq_eq_false_iff_ne.2 (by omega)
  have d5 : decide (225 ≤ c) = false := decide_eq_false (by omega)
  have d6 : decide (c ≤ 239) = true := decide_eq_true (by omega)
  have d7 : (c == 240) = false := beq_eq_false_iff_ne.2 (by omega)
  have d8 : (c == 244) = false := beq_eq_false_iff_ne.2 (by omega)
  have d9 : decide (241 ≤ c) = false := decide_eq_false (by omega)
  have d10 : decide (c ≤ 243) = true := decide_eq_true (by omega)
  go_enter Tryd.func49, Tryd.ntmps49
  go_wp2
  go_ret3
  exact ⟨rfl, Drawn0.refl _⟩
theorem long_2 (c : Int) (w : World) (h0 : 194 ≤ c) (h1 : c ≤ 223) :
    Calls Tryd.prog 49 #[.int .u8 c] w fun e w' => e = .returned (.tuple #[.int .i64 2, .int .u8 128, .int .u8 191]) ∧ Drawn0 w w' := by
  have d0 : decide (c < 128) = false := decide_eq_false (by omega)
  have d1 : decide (194 ≤ c) = true := decide_eq_true (by omega)
  have d2 : decide (c ≤ 223) = true := decide_eq_true (by omega)
  have d3 : (c == 224) = false := beq_eq_false_iff_ne.2 (by omega)
  have d4 : (c == 237) = false := beq_eq_false_iff_ne.2 (by omega)
  have d5 : decide (225 ≤ c) = false := decide_eq_false (by omega)
  have d6 : decide (c ≤ 239) = true := decide_eq_true (by omega)
  have d7 : (c == 240) = false := beq_eq_false_iff_ne.2 (by omega)
  have d8 : (c == 244) = false := beq_eq_false_iff_ne.2 (by omega)
  have d9 : decide (241 ≤ c) = false := decide_eq_false (by omega)
  have d10 : decide (c ≤ 243) = true := decide_eq_true (by omega)
  go_enter Tryd.func49, Tryd.ntmps49
  go_wp2
  go_ret3
  exact ⟨rfl, Drawn0.refl _⟩
theorem long_3 (c : Int) (w : World) (h0 : c = 224) :
    Calls Tryd.prog 49 #[.int .u8 c] w fun e w' => e = .returned (.tuple #[.int .i64 3, .int .u8 160, .int .u8 191]) ∧ Drawn0 w w' := by
  subst h0
  go_enter Tryd.func49, Tryd.ntmps49
  go_wp2
  go_ret3
  exact ⟨rfl, Drawn0.refl _⟩
theorem long_4 (c : Int) (w : World) (h0 : 225 ≤ c) (h1 : c ≤ 236) :
    Calls Tryd.prog 49 #[.int .u8 c] w fun e w' => e = .returned (.tuple #[.int .i64 3, .int .u8 128, .int .u8 191]) ∧ Drawn0 w w' := by
  have d0 : decide (c < 128) = false := decide_eq_false (by omega)
  have d1 : decide (194 ≤ c) = true := decide_eq_true (by omega)
  have d2 : decide (c ≤ 223) = false := decide_eq_false (by omega)
  have d3 : (c == 224) = false := beq_eq_false_iff_ne.2 (by omega)
  have d4 : (c == 237) = false := beq_eq_false_iff_ne.2 (by omega)
  have d5 : decide (225 ≤ c) = true := decide_eq_true (by omega)
  have d6 : decide (c ≤ 239) = true := decide_eq_true (by omega)
  have d7 : (c == 240) = false := beq_eq_false_iff_ne.2 (by omega)
  have d8 : (c == 244) = false := beq_eq_false_iff_ne.2 (by omega)
  have d9 : decide (241 ≤ c) = false := decide_eq_false (by omega)
  have d10 : decide (c ≤ 243) = true := decide_eq_true (by omega)
  go_enter Tryd.func49, Tryd.ntmps49
  go_wp2
  go_ret3
  exact ⟨rfl, Drawn0.refl _⟩
theorem long_5 (c : Int) (w : World) (h0 : c = 237) :
    Calls Tryd.prog 49 #[.int .u8 c] w fun e w' => e = .returned (.tuple #[.int .i64 3, .int .u8 128, .int .u8 159]) ∧ Drawn0 w w' := by
  subst h0
  go_enter Tryd.func49, Tryd.ntmps49
  go_wp2
  go_ret3
  exact ⟨rfl, Drawn0.refl _⟩
theorem long_6 (c : Int) (w : World) (h0 : 238 ≤ c) (h1 : c ≤ 239) :
    Calls Tryd.prog 49 #[.int .u8 c] w fun e w' => e = .returned (.tuple #[.int .i64 3, .int .u8 128, .int .u8 191]) ∧ Drawn0 w w' := by
  have d0 : decide (c < 128) = false := decide_eq_false (by omega)
  have d1 : decide (194 ≤ c) = true := decide_eq_true (by omega)
  have d2 : decide (c ≤ 223) = false := decide_eq_false (by omega)
  have d3 : (c == 224) = false := beq_eq_false_iff_ne.2 (by omega)
  have d4 : (c == 237) = false := beq_eq_false_iff_ne.2 (by omega)
  have d5 : decide (225 ≤ c) = true := decide_eq_true (by omega)
  have d6 : decide (c ≤ 239) = true := decide_eq_true (by omega)
  have d7 : (c == 240) = false := beq_eq_false_iff_ne.2 (by omega)
  have d8 : (c == 244) = false := beq_eq_false_iff_ne.2 (by omega)
  have d9 : decide (241 ≤ c) = false := decide_eq_false (by omega)
  have d10 : decide (c ≤ 243) = true := decide_eq_true (by omega)
  go_enter Tryd.func49, Tryd.ntmps49
  go_wp2
  go_ret3
  exact ⟨rfl, Drawn0.refl _⟩
theorem long_7 (c : Int) (w : World) (h0 : c = 240) :
    Calls Tryd.prog 49 #[.int .u8 c] w fun e w' => e = .returned (.tuple #[.int .i64 4, .int .u8 144, .int .u8 191]) ∧ Drawn0 w w' := by
  subst h0
  go_enter Tryd.func49, Tryd.ntmps49
  go_wp2
  go_ret3
  exact ⟨rfl, Drawn0.refl _⟩
theorem long_8 (c : Int) (w : World) (h0 : 241 ≤ c) (h1 : c ≤ 243) :
    Calls Tryd.prog 49 #[.int .u8 c] w fun e w' => e = .returned (.tuple #[.int .i64 4, .int .u8 128, .int .u8 191]) ∧ Drawn0 w w' := by
  have d0 : decide (c < 128) = false := decide_eq_false (by omega)
  have d1 : decide (194 ≤ c) = true := decide_eq_true (by omega)
  have d2 : decide (c ≤ 223) = false := decide_eq_false (by omega)
  have d3 : (c == 224) = false := beq_eq_false_iff_ne.2 (by omega)
  have d4 : (c == 237) = false := beq_eq_false_iff_ne.2 (by omega)
  have d5 : decide (225 ≤ c) = true := decide_eq_true (by omega)
  have d6 : decide (c ≤ 239) = false := decide_eq_false (by omega)
  have d7 : (c == 240) = false := beq_eq_false_iff_ne.2 (by omega)
  have d8 : (c == 244) = false := beq_eq_false_iff_ne.2 (by omega)
  have d9 : decide (241 ≤ c) = true := decide_eq_true (by omega)
  have d10 : decide (c ≤ 243) = true := decide_eq_true (by omega)
  go_enter Tryd.func49, Tryd.ntmps49
  go_wp2
  go_ret3
  exact ⟨rfl, Drawn0.refl _⟩
theorem long_9 (c : Int) (w : World) (h0 : c = 244) :
    Calls Tryd.prog 49 #[.int .u8 c] w fun e w' => e = .returned (.tuple #[.int .i64 4, .int .u8 128, .int .u8 143]) ∧ Drawn0 w w' := by
  subst h0
  go_enter Tryd.func49, Tryd.ntmps49
  go_wp2
  go_ret3
  exact ⟨rfl, Drawn0.refl _⟩
theorem long_10 (c : Int) (w : World) (h0 : 245 ≤ c) (h1 : c ≤ 255) :
    Calls Tryd.prog 49 #[.int .u8 c] w fun e w' => e = .returned (.tuple #[.int .i64 0, .int .u8 0, .int .u8 0]) ∧ Drawn0 w w' := by
  have d0 : decide (c < 128) = false := decide_eq_false (by omega)
  have d1 : decide (194 ≤ c) = true := decide_eq_true (by omega)
  have d2 : decide (c ≤ 223) = false := decide_eq_false (by omega)
  have d3 : (c == 224) = false := beq_eq_false_iff_ne.2 (by omega)
  have d4 : (c == 237) = false := beq_eq_false_iff_ne.2 (by omega)
  have d5 : decide (225 ≤ c) = true := decide_eq_true (by omega)
  have d6 : decide (c ≤ 239) = false := decide_eq_false (by omega)
  have d7 : (c == 240) = false := beq_eq_false_iff_ne.2 (by omega)
  have d8 : (c == 244) = false := beq_eq_false_iff_ne.2 (by omega)
  have d9 : decide (241 ≤ c) = true := decide_eq_true (by omega)
  have d10 : decide (c ≤ 243) = false := decide_eq_false (by omega)
  go_enter Tryd.func49, Tryd.ntmps49
  go_wp2
  go_ret3
  exact ⟨rfl, Drawn0.refl _⟩
theorem long_calls (c : Int) (w : World) (h0 : 0 ≤ c) (h1 : c < 256) :
    Calls Tryd.prog 49 #[.int .u8 c] w fun e w' => e = .returned (.tuple #[.int .i64 (longOf c).1, .int .u8 (longOf c).2.1, .int .u8 (longOf c).2.2]) ∧ Drawn0 w w' := by
  unfold longOf
  repeat' split
  · exact long_0 c w (by omega) (by omega)
  · exact long_1 c w (by omega) (by omega)
  · exact long_2 c w (by omega) (by omega)
  · exact long_3 c w (by omega)
  · exact long_5 c w (by omega)
  · by_cases hx : c < 237
    · exact long_4 c w (by omega) (by omega)
    · exact long_6 c w (by omega) (by omega)
  · exact long_7 c w (by omega)
  · exact long_8 c w (by omega) (by omega)
  · exact long_9 c w (by omega)
  · exact long_10 c w (by omega) (by omega)
end Go.Proofs.YtcfbfmgckaehdaaDoor
namespace Go.Proofs.YtcfbfmgckaehdaaDoor
open Go.RowKit Go.Proofs.YtcfbfmgckaehdaaDoorW.PrintWords
/-- So many bytes that go on, the first of them between two bounds. -/
def conts : Nat → Int → Int → List Int → Bool
  | 0, _, _, _ => true
  | _ + 1, _, _, [] => false
  | n + 1, lo, hi, x :: t => decide (lo ≤ x ∧ x ≤ hi) && conts n 128 191 t
/-- How many bytes the character has with which a list begins; 0: there is none. -/
def charLen : List Int → Nat
  | [] => 0
  | c :: t => if (longOf c).1 = 0 then 0 else if conts ((longOf c).1.toNat - 1) (longOf c).2.1 (longOf c).2.2 t then (longOf c).1.toNat else 0
theorem conts_length : ∀ (n : Nat) (lo hi : Int) (t : List Int), conts n lo hi t = true → n ≤ t.length
  | 0, _, _, _, _ => Nat.zero_le _
  | _ + 1, _, _, [], h => by simp [conts] at h
  | n + 1, lo, hi, x :: t, h => by
    simp only [conts, Bool.and_eq_true] at h
    have := conts_length n _ _ t h.2
    simp only [List.length_cons]; omega
theorem long_range (c : Int) : 0 ≤ (longOf c).1 ∧ (longOf c).1 ≤ 4 := by
  unfold longOf
  repeat' split
  all_goals omega
theorem charLen_le (l : List Int) : charLen l ≤ l.length := by
  cases l with
  | nil => simp [charLen]
  | cons c t =>
    have := long_range c
    by_cases h0 : (longOf c).1 = 0
    · simp [charLen, h0]
    · by_cases h : conts ((longOf c).1.toNat - 1) (longOf c).2.1 (longOf c).2.2 t = true
      · have := conts_length _ _ _ _ h
        simp only [charLen, if_neg h0, if_pos h, List.length_cons]
        omega
      · simp [charLen, h0, h]
def charsFrom (l : List Int) (at' : Nat) : Int :=
  if h : at' < l.length then (if charLen (l.drop at') = 0 then (at' : Int) else charsFrom l (at' + charLen (l.drop at'))) else -1
termination_by l.length - at'
/-- The place of the first byte with which no character begins; -1: there is none. -/
def charsOf (l : List Int) : Int := charsFrom l 0
set_option maxHeartbeats 400000 in
theorem Chars_calls {n : Nat} (A0 : Option Addr) (c0 : Nat) (l0 : List Int) (w : World) (hr0 : Rd w A0 n l0) (hb0 : Bytes l0) :
    Calls Tryd.prog 24 #[.slice A0 n c0] w fun e w' => e = .returned (.int .i64 (charsOf l0)) ∧ Drawn0 w w' := by
  have hlen := Kd.C_len hr0
  have hm0 := Kd.C_max hr0
  have HR := Lib.hid hr0
  have HBY := Lib.hid hb0
  have HLEN := Lib.hid hlen
  clear hr0 hb0 hlen
  go_enter Tryd.func24, Tryd.ntmps24
  go_wp2
  go_loopw [3] (fun i wr => ∃ k : Nat, k ≤ n ∧ i = .int .i64 k ∧ Hid (charsFrom l0 k = charsOf l0) ∧ Hid (Drawn0 w wr)) (fun i _ => n - (intOf i).toNat)
  case atStart => exact ⟨0, Nat.zero_le _, rfl, Lib.hid rfl, Lib.hid (Drawn0.refl _)⟩
  case round =>
    obtain ⟨k, hk, rfl, HCF, HDR⟩ := hrel
    by_cases hlt : k < n
    · have HRW := Lib.hid (Kd.C_below HR.out HDR.out.below)
      obtain ⟨ad, rfl, hx⟩ := Kd.at_int HRW.out k (by omega) (by omega)
      rw [show ((k : Int)).toNat = k from rfl] at hx
      obtain ⟨x0, x1⟩ := bytes_rd HBY.out k (by rw [HLEN.out]; exact hlt)
      have hcons : l0.drop k = rd l0 k :: l0.drop (k + 1) := by rw [rd_get l0 k (by rw [HLEN.out]; exact hlt)]; exact List.drop_eq_getElem_cons _
      have htl : (l0.drop (k + 1)).length = n - (k + 1) := by rw [List.length_drop, HLEN.out]
      obtain ⟨t, ht⟩ : ∃ t, t = l0.drop (k + 1) := ⟨_, rfl⟩
      rw [← ht] at hcons htl
      have HT := Lib.hid ht
      have HTL := Lib.hid htl
      have hlr := long_range (rd l0 k)
      have hCL : charLen (l0.drop k) = if (longOf (rd l0 k)).1 = 0 then 0 else if conts ((longOf (rd l0 k)).1.toNat - 1) (longOf (rd l0 k)).2.1 (longOf (rd l0 k)).2.2 t then (longOf (rd l0 k)).1.toNat else 0 := by rw [hcons]; rfl
      have HST := Lib.hid (show charsOf l0 = if charLen (l0.drop k) = 0 then (k : Int) else charsFrom l0 (k + charLen (l0.drop k)) by rw [← HCF.out, charsFrom, dif_pos (by rw [HLEN.out]; exact hlt)])
      clear ht hcons htl
      go_wp2_with fail
      refine (long_calls _ _ x0 x1).mono ?_
      rintro e w1 ⟨rfl, hd1⟩
      obtain ⟨L, hL⟩ : ∃ L, L = longOf (rd l0 k) := ⟨_, rfl⟩
      rw [← hL] at hlr hCL
      rw [← hL]
      clear hL
      obtain ⟨m', lo, hi⟩ := L
      simp only at hlr hCL ⊢
      obtain ⟨m, rfl⟩ := Int.eq_ofNat_of_zero_le hlr.1
      rw [Int.toNat_natCast] at hCL
      have hm4 : m ≤ 4 := by omega
      have HCL := Lib.hid hCL
      have HD1 := Lib.hid (Drawn0.trans HDR.out hd1)
      clear hCL hlr hd1 HDR HRW hx
      by_cases hm0 : m = 0
      · subst hm0
        have HE := Lib.hid (show charsOf l0 = k by rw [HST.out, if_pos (by rw [HCL.out]; rfl)])
        go_wp2
        go_ret
        exact ⟨ret_int HE.out.symm, HD1.out⟩
      have hz : ((m : Int) == 0) = false := beq_eq_false_iff_ne.2 (by omega)
      by_cases hbig : n - k < m
      · have hz2 : decide ((n : Int) - k < m) = true := decide_eq_true (by omega)
        have HE := Lib.hid (show charsOf l0 = k by
          rw [HST.out, if_pos]
          rw [HCL.out, if_neg (by omega), if_neg]
          intro h
          have := conts_length _ _ _ _ h
          have := HTL.out
          omega)
        go_wp2
        go_ret
        exact ⟨ret_int HE.out.symm, HD1.out⟩
      have hz2 : decide ((n : Int) - k < m) = false := decide_eq_false (by omega)
      go_wp2_with fail
      obtain ⟨w1', hw1'⟩ : ∃ w1' : World, w1' = w1 := ⟨_, rfl⟩
      go_loopw [5, 6, 7] (fun a b i wr => ∃ (j : Nat) (p q : Int), 1 ≤ j ∧ j ≤ m ∧ a = .int .u8 p ∧ b = .int .u8 q ∧ i = .int .i64 j ∧ Hid (conts (m - 1) lo hi t = conts (m - j) p q (t.drop (j - 1))) ∧ Hid (Drawn0 w wr)) (fun _ _ i _ => m - (intOf i).toNat)
      case atStart => exact ⟨1, lo, hi, by omega, by omega, rfl, rfl, rfl, Lib.hid rfl, HD1⟩
      case round =>
        obtain ⟨j, p, q, hj1, hjm, rfl, rfl, rfl, HC, HD⟩ := hrel
        by_cases hj : j < m
        · have hkn : k + j < n := by omega
          have HRW := Lib.hid (Kd.C_below HR.out HD.out.below)
          obtain ⟨ad', e, hx⟩ := Kd.at_int HRW.out ((k + j : Nat) : Int) (by omega) (by omega)
          cases e
          rw [show (((k + j : Nat) : Int)).toNat = k + j from rfl] at hx
          have hdrop : t.drop (j - 1) = rd l0 ((k + j : Nat) : Int) :: t.drop j := by
            rw [HT.out, List.drop_drop, List.drop_drop, show k + 1 + (j - 1) = k + j by omega, rd_get l0 (k + j) (by rw [HLEN.out]; exact hkn), show k + 1 + j = k + j + 1 by omega]
            exact List.drop_eq_getElem_cons _
          have hstep : conts (m - j) p q (t.drop (j - 1)) = (decide (p ≤ rd l0 ((k + j : Nat) : Int) ∧ rd l0 ((k + j : Nat) : Int) ≤ q) && conts (m - (j + 1)) 128 191 (t.drop j)) := by
            rw [hdrop, show m - j = (m - (j + 1)) + 1 by omega]
            rfl
          obtain ⟨x, hxx⟩ : ∃ x, x = rd l0 ((k + j : Nat) : Int) := ⟨_, rfl⟩
          rw [← hxx] at hx hstep
          have HSTEP := Lib.hid hstep
          have hi1 : (k : Int) + j < n := by omega
          clear hdrop hstep hxx HRW
          have hj1' : j - 1 + 1 = j := by omega
          by_cases hlo : x < p
          · have d1 : decide (x < p) = true := decide_eq_true hlo
            have HE := Lib.hid (show charsOf l0 = k by
              rw [HST.out, if_pos]
              rw [HCL.out, if_neg (by omega), if_neg]
              rw [HC.out, HSTEP.out, decide_eq_false (by omega)]
              simp)
            go_wp2
            go_ret
            exact ⟨ret_int HE.out.symm, HD.out⟩
          by_cases hhi : q < x
          · have d1 : decide (x < p) = false := decide_eq_false hlo
            have d2 : decide (q < x) = true := decide_eq_true hhi
            have HE := Lib.hid (show charsOf l0 = k by
              rw [HST.out, if_pos]
              rw [HCL.out, if_neg (by omega), if_neg]
              rw [HC.out, HSTEP.out, decide_eq_false (by omega)]
              simp)
            go_wp2
            go_ret
            exact ⟨ret_int HE.out.symm, HD.out⟩
          have d1 : decide (x < p) = false := decide_eq_false hlo
          have d2 : decide (q < x) = false := decide_eq_false hhi
          have HN := Lib.hid (show conts (m - 1) lo hi t = conts (m - (j + 1)) 128 191 (t.drop (j + 1 - 1)) by
              rw [HC.out, HSTEP.out, decide_eq_true (by omega)]
              simp)
          go_wp2
          go_roundw
          case rel => exact ⟨j + 1, 128, 191, by omega, by omega, rfl, rfl, by go_num, HN, HD⟩
          case measure => simp [intOf]; omega
        · obtain rfl : j = m := by omega
          have hck : charLen (l0.drop k) = j := by
            rw [HCL.out, if_neg (by omega), HC.out, Nat.sub_self]
            rfl
          have HNX := Lib.hid (show charsFrom l0 (k + j) = charsOf l0 by rw [HST.out, hck, if_neg (by omega)])
          clear hck
          go_wp2
          go_roundw
          case rel => exact ⟨k + j, by omega, by go_num, HNX, HD⟩
          case measure => simp [intOf]; omega
    · obtain rfl : k = n := by omega
      have HE := Lib.hid (show charsOf l0 = -1 by rw [← HCF.out, charsFrom, dif_neg (by rw [HLEN.out]; omega)])
      go_wp2
      go_ret
      exact ⟨ret_int HE.out.symm, HDR.out⟩
end Go.Proofs.YtcfbfmgckaehdaaDoor
namespace Go.Proofs.YtcfbfmgckaehdaaDoor
open Go.RowKit Go.Proofs.YtcfbfmgckaehdaaDoorW.PrintWords
theorem drop_cons (l : List Int) (a : Nat) (h : a < l.length) : l.drop a = rd l a :: l.drop (a + 1) := by
  rw [rd_get l a h]
  exact List.drop_eq_getElem_cons h
end Go.Proofs.YtcfbfmgckaehdaaDoor
