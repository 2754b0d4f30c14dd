/- The texts Long, Chars, CursorNum, Unspell, AuthSigned, UnframeRef, IndexByte, WsAccept in one. -/
import Derived.Test.YtcfbfmgckaehdaaDoorProg
import Derived.Test.YtcfbfmgckaehdaaDoorG01
import Derived.Test.YtcfbfmgckaehdaaDoorG02
import Derived.Test.YtcfbfmgckaehdaaDoorG03
import Derived.Test.YtcfbfmgckaehdaaDoorG06
import Derived.Test.YtcfbfmgckaehdaaDoorG07
import Derived.Test.YtcfbfmgckaehdaaDoorG10
import Derived.Laws.MakeOwn
import Derived.Lib.BitFns
import Derived.Shelf.Strconv.Itoa0
import Derived.StillTailTactics
import Derived.Lib.Bytealg
import Derived.Lib.IndexBytes
namespace Go.Proofs.YtcfbfmgckaehdaaDoor
open Go.RowKit Go.Proofs.YtcfbfmgckaehdaaDoorW.PrintWords
/-- How many bytes, and the least and the greatest second one. -/
def longOf (c : Int) : Int × Int × Int :=
  if c < 128 then (1, 128, 191) else if c < 194 then (0, 0, 0) else if c < 224 then (2, 128, 191) else if c = 224 then (3, 160, 191) else if c = 237 then (3, 128, 159)
  else if c < 240 then (3, 128, 191) else if c = 240 then (4, 144, 191) else if c < 244 then (4, 128, 191) else if c = 244 then (4, 128, 143) else (0, 0, 0)
theorem long_0 (c : Int) (w : World) (h0 : 0 ≤ c) (h1 : c ≤ 127) :
    Calls Tryd.prog 49 #[.int .u8 c] w fun e w' => e = .returned (.tuple #[.int .i64 1, .int .u8 128, .int .u8 191]) ∧ Drawn0 w w' := by
  have d0 : decide (c < 128) = true := decide_eq_true (by omega)
  have d1 : decide (194 ≤ c) = false := decide_eq_false (by omega)
  have d2 : decide (c ≤ 223) = true := decide_eq_true (by omega)
  have d3 : (c == 224) = false := beq_eq_false_iff_ne.2 (by omega)
  have d4 : (c == 237) = false := beq_eq_false_iff_ne.2 (by omega)
  have d5 : decide (225 ≤ c) = false := decide_eq_false (by omega)
  have d6 : decide (c ≤ 239) = true := decide_eq_true (by omega)
  have d7 : (c == 240) = false := beq_eq_false_iff_ne.2 (by omega)
  have d8 : (c == 244) = false := beq_eq_false_iff_ne.2 (by omega)
  have d9 : decide (241 ≤ c) = false := decide_eq_false (by omega)
  have d10 : decide (c ≤ 243) = true := decide_eq_true (by omega)
  go_enter Tryd.func49, Tryd.ntmps49
  go_wp2
  go_ret3
  exact ⟨rfl, Drawn0.refl _⟩
theorem long_1 (c : Int) (w : World) (h0 : 128 ≤ c) (h1 : c ≤ 193) :
    Calls Tryd.prog 49 #[.int .u8 c] w fun e w' => e = .returned (.tuple #[.int .i64 0, .int .u8 0, .int .u8 0]) ∧ Drawn0 w w' := by
  have d0 : decide (c < 128) = false := decide_eq_false (by omega)
  have d1 : decide (194 ≤ c) = false := decide_eq_false (by omega)
  have d2 : decide (c ≤ 223) = true := decide_eq_true (by omega)
  have d3 : (c == 224) = false := beq_eq_false_iff_ne.2 (by omega)
  have d4 : (c == 237) = false := beq_eq_false_iff_ne.2 (by omega)
  have d5 : decide (225 ≤ c) = false := decide_eq_false (by omega)
  have d6 : decide (c ≤ 239) = true := decide_eq_true (by omega)
  have d7 : (c == 240) = false := beq_eq_false_iff_ne.2 (by omega)
  have d8 : (c == 244) = false := beq_eq_false_iff_ne.2 (by omega)
  have d9 : decide (241 ≤ c) = false := decide_eq_false (by omega)
  have d10 : decide (c ≤ 243) = true := decide_eq_true (by omega)
  go_enter Tryd.func49, Tryd.ntmps49
  go_wp2
  go_ret3
  exact ⟨rfl, Drawn0.refl _⟩
theorem long_2 (c : Int) (w : World) (h0 : 194 ≤ c) (h1 : c ≤ 223) :
    Calls Tryd.prog 49 #[.int .u8 c] w fun e w' => e = .returned (.tuple #[.int .i64 2, .int .u8 128, .int .u8 191]) ∧ Drawn0 w w' := by
  have d0 : decide (c < 128) = false := decide_eq_false (by omega)
  have d1 : decide (194 ≤ c) = true := decide_eq_true (by omega)
  have d2 : decide (c ≤ 223) = true := decide_eq_true (by omega)
  have d3 : (c == 224) = false := beq_eq_false_iff_ne.2 (by omega)
  have d4 : (c == 237) = false := beq_eq_false_iff_ne.2 (by omega)
  have d5 : decide (225 ≤ c) = false := decide_eq_false (by omega)
  have d6 : decide (c ≤ 239) = true := decide_eq_true (by omega)
  have d7 : (c == 240) = false := beq_eq_false_iff_ne.2 (by omega)
  have d8 : (c == 244) = false := beq_eq_false_iff_ne.2 (by omega)
  have d9 : decide (241 ≤ c) = false := decide_eq_false (by omega)
  have d10 : decide (c ≤ 243) = true := decide_eq_true (by omega)
  go_enter Tryd.func49, Tryd.ntmps49
  go_wp2
  go_ret3
  exact ⟨rfl, Drawn0.refl _⟩
theorem long_3 (c : Int) (w : World) (h0 : c = 224) :
    Calls Tryd.prog 49 #[.int .u8 c] w fun e w' => e = .returned (.tuple #[.int .i64 3, .int .u8 160, .int .u8 191]) ∧ Drawn0 w w' := by
  subst h0
  go_enter Tryd.func49, Tryd.ntmps49
  go_wp2
  go_ret3
  exact ⟨rfl, Drawn0.refl _⟩
theorem long_4 (c : Int) (w : World) (h0 : 225 ≤ c) (h1 : c ≤ 236) :
    Calls Tryd.prog 49 #[.int .u8 c] w fun e w' => e = .returned (.tuple #[.int .i64 3, .int .u8 128, .int .u8 191]) ∧ Drawn0 w w' := by
  have d0 : decide (c < 128) = false := decide_eq_false (by omega)
  have d1 : decide (194 ≤ c) = true := decide_eq_true (by omega)
  have d2 : decide (c ≤ 223) = false := decide_eq_false (by omega)
  have d3 : (c == 224) = false := beq_eq_false_iff_ne.2 (by omega)
  have d4 : (c == 237) = false := beq_eq_false_iff_ne.2 (by omega)
  have d5 : decide (225 ≤ c) = true := decide_eq_true (by omega)
  have d6 : decide (c ≤ 239) = true := decide_eq_true (by omega)
  have d7 : (c == 240) = false := beq_eq_false_iff_ne.2 (by omega)
  have d8 : (c == 244) = false := beq_eq_false_iff_ne.2 (by omega)
  have d9 : decide (241 ≤ c) = false := decide_eq_false (by omega)
  have d10 : decide (c ≤ 243) = true := decide_eq_true (by omega)
  go_enter Tryd.func49, Tryd.ntmps49
  go_wp2
  go_ret3
  exact ⟨rfl, Drawn0.refl _⟩
theorem long_5 (c : Int) (w : World) (h0 : c = 237) :
    Calls Tryd.prog 49 #[.int .u8 c] w fun e w' => e = .returned (.tuple #[.int .i64 3, .int .u8 128, .int .u8 159]) ∧ Drawn0 w w' := by
  subst h0
  go_enter Tryd.func49, Tryd.ntmps49
  go_wp2
  go_ret3
  exact ⟨rfl, Drawn0.refl _⟩
theorem long_6 (c : Int) (w : World) (h0 : 238 ≤ c) (h1 : c ≤ 239) :
    Calls Tryd.prog 49 #[.int .u8 c] w fun e w' => e = .returned (.tuple #[.int .i64 3, .int .u8 128, .int .u8 191]) ∧ Drawn0 w w' := by
  have d0 : decide (c < 128) = false := decide_eq_false (by omega)
  have d1 : decide (194 ≤ c) = true := decide_eq_true (by omega)
  have d2 : decide (c ≤ 223) = false := decide_eq_false (by omega)
  have d3 : (c == 224) = false := beq_eq_false_iff_ne.2 (by omega)
  have d4 : (c == 237) = false := beq_eq_false_iff_ne.2 (by omega)
  have d5 : decide (225 ≤ c) = true := decide_eq_true (by omega)
  have d6 : decide (c ≤ 239) = true := decide_eq_true (by omega)
  have d7 : (c == 240) = false := beq_eq_false_iff_ne.2 (by omega)
  have d8 : (c == 244) = false := beq_eq_false_iff_ne.2 (by omega)
  have d9 : decide (241 ≤ c) = false := decide_eq_false (by omega)
  have d10 : decide (c ≤ 243) = true := decide_eq_true (by omega)
  go_enter Tryd.func49, Tryd.ntmps49
  go_wp2
  go_ret3
  exact ⟨rfl, Drawn0.refl _⟩
theorem long_7 (c : Int) (w : World) (h0 : c = 240) :
    Calls Tryd.prog 49 #[.int .u8 c] w fun e w' => e = .returned (.tuple #[.int .i64 4, .int .u8 144, .int .u8 191]) ∧ Drawn0 w w' := by
  subst h0
  go_enter Tryd.func49, Tryd.ntmps49
  go_wp2
  go_ret3
  exact ⟨rfl, Drawn0.refl _⟩
theorem long_8 (c : Int) (w : World) (h0 : 241 ≤ c) (h1 : c ≤ 243) :
    Calls Tryd.prog 49 #[.int .u8 c] w fun e w' => e = .returned (.tuple #[.int .i64 4, .int .u8 128, .int .u8 191]) ∧ Drawn0 w w' := by
  have d0 : decide (c < 128) = false := decide_eq_false (by omega)
  have d1 : decide (194 ≤ c) = true := decide_eq_true (by omega)
  have d2 : decide (c ≤ 223) = false := decide_eq_false (by omega)
  have d3 : (c == 224) = false := beq_eq_false_iff_ne.2 (by omega)
  have d4 : (c == 237) = false := beq_eq_false_iff_ne.2 (by omega)
  have d5 : decide (225 ≤ c) = true := decide_eq_true (by omega)
  have d6 : decide (c ≤ 239) = false := decide_eq_false (by omega)
  have d7 : (c == 240) = false := beq_eq_false_iff_ne.2 (by omega)
  have d8 : (c == 244) = false := beq_eq_false_iff_ne.2 (by omega)
  have d9 : decide (241 ≤ c) = true := decide_eq_true (by omega)
  have d10 : decide (c ≤ 243) = true := decide_eq_true (by omega)
  go_enter Tryd.func49, Tryd.ntmps49
  go_wp2
  go_ret3
  exact ⟨rfl, Drawn0.refl _⟩
theorem long_9 (c : Int) (w : World) (h0 : c = 244) :
    Calls Tryd.prog 49 #[.int .u8 c] w fun e w' => e = .returned (.tuple #[.int .i64 4, .int .u8 128, .int .u8 143]) ∧ Drawn0 w w' := by
  subst h0
  go_enter Tryd.func49, Tryd.ntmps49
  go_wp2
  go_ret3
  exact ⟨rfl, Drawn0.refl _⟩
theorem long_10 (c : Int) (w : World) (h0 : 245 ≤ c) (h1 : c ≤ 255) :
    Calls Tryd.prog 49 #[.int .u8 c] w fun e w' => e = .returned (.tuple #[.int .i64 0, .int .u8 0, .int .u8 0]) ∧ Drawn0 w w' := by
  have d0 : decide (c < 128) = false := decide_eq_false (by omega)
  have d1 : decide (194 ≤ c) = true := decide_eq_true (by omega)
  have d2 : decide (c ≤ 223) = false := decide_eq_false (by omega)
  have d3 : (c == 224) = false := beq_eq_false_iff_ne.2 (by omega)
  have d4 : (c == 237) = false := beq_eq_false_iff_ne.2 (by omega)
  have d5 : decide (225 ≤ c) = true := decide_eq_true (by omega)
  have d6 : decide (c ≤ 239) = false := decide_eq_false (by omega)
  have d7 : (c == 240) = false := beq_eq_false_iff_ne.2 (by omega)
  have d8 : (c == 244) = false := beq_eq_false_iff_ne.2 (by omega)
  have d9 : decide (241 ≤ c) = true := decide_eq_true (by omega)
  have d10 : decide (c ≤ 243) = false := decide_eq_false (by omega)
  go_enter Tryd.func49, Tryd.ntmps49
  go_wp2
  go_ret3
  exact ⟨rfl, Drawn0.refl _⟩
theorem long_calls (c : Int) (w : World) (h0 : 0 ≤ c) (h1 : c < 256) :
    Calls Tryd.prog 49 #[.int .u8 c] w fun e w' => e = .returned (.tuple #[.int .i64 (longOf c).1, .int .u8 (longOf c).2.1, .int .u8 (longOf c).2.2]) ∧ Drawn0 w w' := by
  unfold longOf
  repeat' split
  · exact long_0 c w (by omega) (by omega)
  · exact long_1 c w (by omega) (by omega)
  · exact long_2 c w (by omega) (by omega)
  · exact long_3 c w (by omega)
  · exact long_5 c w (by omega)
  · by_cases hx : c < 237
    · exact long_4 c w (by omega) (by omega)
    · exact long_6 c w (by omega) (by omega)
  · exact long_7 c w (by omega)
  · exact long_8 c w (by omega) (by omega)
  · exact long_9 c w (by omega)
  · exact long_10 c w (by omega) (by omega)
end Go.Proofs.YtcfbfmgckaehdaaDoor
namespace Go.Proofs.YtcfbfmgckaehdaaDoor
open Go.RowKit Go.Proofs.YtcfbfmgckaehdaaDoorW.PrintWords
/-- So many bytes that go on, the first of them between two bounds. -/
def conts : Nat → Int → Int → List Int → Bool
  | 0, _, _, _ => true
  | _ + 1, _, _, [] => false
  | n + 1, lo, hi, x :: t => decide (lo ≤ x ∧ x ≤ hi) && conts n 128 191 t
/-- How many bytes the character has with which a list begins; 0: there is none. -/
def charLen : List Int → Nat
  | [] => 0
  | c :: t => if (longOf c).1 = 0 then 0 else if conts ((longOf c).1.toNat - 1) (longOf c).2.1 (longOf c).2.2 t then (longOf c).1.toNat else 0
theorem conts_length : ∀ (n : Nat) (lo hi : Int) (t : List Int), conts n lo hi t = true → n ≤ t.length
  | 0, _, _, _, _ => Nat.zero_le _
  | _ + 1, _, _, [], h => by simp [conts] at h
  | n + 1, lo, hi, x :: t, h => by
    simp only [conts, Bool.and_eq_true] at h
    have := conts_length n _ _ t h.2
    simp only [List.length_cons]; omega
theorem long_range (c : Int) : 0 ≤ (longOf c).1 ∧ (longOf c).1 ≤ 4 := by
  unfold longOf
  repeat' split
  all_goals omega
def charsFrom (l : List Int) (at' : Nat) : Int :=
  if h : at' < l.length then (if charLen (l.drop at') = 0 then (at' : Int) else charsFrom l (at' + charLen (l.drop at'))) else -1
termination_by l.length - at'
/-- The place of the first byte with which no character begins; -1: there is none. -/
def charsOf (l : List Int) : Int := charsFrom l 0
set_option maxHeartbeats 400000 in
theorem Chars_calls {n : Nat} (A0 : Option Addr) (c0 : Nat) (l0 : List Int) (w : World) (hr0 : Rd w A0 n l0) (hb0 : Bytes l0) :
    Calls Tryd.prog 24 #[.slice A0 n c0] w fun e w' => e = .returned (.int .i64 (charsOf l0)) ∧ Drawn0 w w' := by
  have hlen := Kd.C_len hr0
  have hm0 := Kd.C_max hr0
  have HR := Lib.hid hr0
  have HBY := Lib.hid hb0
  have HLEN := Lib.hid hlen
  clear hr0 hb0 hlen
  go_enter Tryd.func24, Tryd.ntmps24
  go_wp2
  go_loopw [3] (fun i wr => ∃ k : Nat, k ≤ n ∧ i = .int .i64 k ∧ Hid (charsFrom l0 k = charsOf l0) ∧ Hid (Drawn0 w wr)) (fun i _ => n - (intOf i).toNat)
  case atStart => exact ⟨0, Nat.zero_le _, rfl, Lib.hid rfl, Lib.hid (Drawn0.refl _)⟩
  case round =>
    obtain ⟨k, hk, rfl, HCF, HDR⟩ := hrel
    by_cases hlt : k < n
    · have HRW := Lib.hid (Kd.C_below HR.out HDR.out.below)
      obtain ⟨ad, rfl, hx⟩ := Kd.at_int HRW.out k (by omega) (by omega)
      rw [show ((k : Int)).toNat = k from rfl] at hx
      obtain ⟨x0, x1⟩ := bytes_rd HBY.out k (by rw [HLEN.out]; exact hlt)
      have hcons : l0.drop k = rd l0 k :: l0.drop (k + 1) := by rw [rd_get l0 k (by rw [HLEN.out]; exact hlt)]; exact List.drop_eq_getElem_cons _
      have htl : (l0.drop (k + 1)).length = n - (k + 1) := by rw [List.length_drop, HLEN.out]
      obtain ⟨t, ht⟩ : ∃ t, t = l0.drop (k + 1) := ⟨_, rfl⟩
      rw [← ht] at hcons htl
      have HT := Lib.hid ht
      have HTL := Lib.hid htl
      have hlr := long_range (rd l0 k)
      have hCL : charLen (l0.drop k) = if (longOf (rd l0 k)).1 = 0 then 0 else if conts ((longOf (rd l0 k)).1.toNat - 1) (longOf (rd l0 k)).2.1 (longOf (rd l0 k)).2.2 t then (longOf (rd l0 k)).1.toNat else 0 := by rw [hcons]; rfl
      have HST := Lib.hid (show charsOf l0 = if charLen (l0.drop k) = 0 then (k : Int) else charsFrom l0 (k + charLen (l0.drop k)) by rw [← HCF.out, charsFrom, dif_pos (by rw [HLEN.out]; exact hlt)])
      clear ht hcons htl
      go_wp2_with fail
      refine (long_calls _ _ x0 x1).mono ?_
      rintro e w1 ⟨rfl, hd1⟩
      obtain ⟨L, hL⟩ : ∃ L, L = longOf (rd l0 k) := ⟨_, rfl⟩
      rw [← hL] at hlr hCL
      rw [← hL]
      clear hL
      obtain ⟨m', lo, hi⟩ := L
      simp only at hlr hCL ⊢
      obtain ⟨m, rfl⟩ := Int.eq_ofNat_of_zero_le hlr.1
      rw [Int.toNat_natCast] at hCL
      have hm4 : m ≤ 4 := by omega
      have HCL := Lib.hid hCL
      have HD1 := Lib.hid (Drawn0.trans HDR.out hd1)
      clear hCL hlr hd1 HDR HRW hx
      by_cases hm0 : m = 0
      · subst hm0
        have HE := Lib.hid (show charsOf l0 = k by rw [HST.out, if_pos (by rw [HCL.out]; rfl)])
        go_wp2
        go_ret
        exact ⟨ret_int HE.out.symm, HD1.out⟩
      have hz : ((m : Int) == 0) = false := beq_eq_false_iff_ne.2 (by omega)
      by_cases hbig : n - k < m
      · have hz2 : decide ((n : Int) - k < m) = true := decide_eq_true (by omega)
        have HE := Lib.hid (show charsOf l0 = k by
          rw [HST.out, if_pos]
          rw [HCL.out, if_neg (by omega), if_neg]
          intro h
          have := conts_length _ _ _ _ h
          have := HTL.out
          omega)
        go_wp2
        go_ret
        exact ⟨ret_int HE.out.symm, HD1.out⟩
      have hz2 : decide ((n : Int) - k < m) = false := decide_eq_false (by omega)
      go_wp2_with fail
      obtain ⟨w1', hw1'⟩ : ∃ w1' : World, w1' = w1 := ⟨_, rfl⟩
      go_loopw [5, 6, 7] (fun a b i wr => ∃ (j : Nat) (p q : Int), 1 ≤ j ∧ j ≤ m ∧ a = .int .u8 p ∧ b = .int .u8 q ∧ i = .int .i64 j ∧ Hid (conts (m - 1) lo hi t = conts (m - j) p q (t.drop (j - 1))) ∧ Hid (Drawn0 w wr)) (fun _ _ i _ => m - (intOf i).toNat)
      case atStart => exact ⟨1, lo, hi, by omega, by omega, rfl, rfl, rfl, Lib.hid rfl, HD1⟩
      case round =>
        obtain ⟨j, p, q, hj1, hjm, rfl, rfl, rfl, HC, HD⟩ := hrel
        by_cases hj : j < m
        · have hkn : k + j < n := by omega
          have HRW := Lib.hid (Kd.C_below HR.out HD.out.below)
          obtain ⟨ad', e, hx⟩ := Kd.at_int HRW.out ((k + j : Nat) : Int) (by omega) (by omega)
          cases e
          rw [show (((k + j : Nat) : Int)).toNat = k + j from rfl] at hx
          have hdrop : t.drop (j - 1) = rd l0 ((k + j : Nat) : Int) :: t.drop j := by
            rw [HT.out, List.drop_drop, List.drop_drop, show k + 1 + (j - 1) = k + j by omega, rd_get l0 (k + j) (by rw [HLEN.out]; exact hkn), show k + 1 + j = k + j + 1 by omega]
            exact List.drop_eq_getElem_cons _
          have hstep : conts (m - j) p q (t.drop (j - 1)) = (decide (p ≤ rd l0 ((k + j : Nat) : Int) ∧ rd l0 ((k + j : Nat) : Int) ≤ q) && conts (m - (j + 1)) 128 191 (t.drop j)) := by
            rw [hdrop, show m - j = (m - (j + 1)) + 1 by omega]
            rfl
          obtain ⟨x, hxx⟩ : ∃ x, x = rd l0 ((k + j : Nat) : Int) := ⟨_, rfl⟩
          rw [← hxx] at hx hstep
          have HSTEP := Lib.hid hstep
          have hi1 : (k : Int) + j < n := by omega
          clear hdrop hstep hxx HRW
          have hj1' : j - 1 + 1 = j := by omega
          by_cases hlo : x < p
          · have d1 : decide (x < p) = true := decide_eq_true hlo
            have HE := Lib.hid (show charsOf l0 = k by
              rw [HST.out, if_pos]
              rw [HCL.out, if_neg (by omega), if_neg]
              rw [HC.out, HSTEP.out, decide_eq_false (by omega)]
              simp)
            go_wp2
            go_ret
            exact ⟨ret_int HE.out.symm, HD.out⟩
          by_cases hhi : q < x
          · have d1 : decide (x < p) = false := decide_eq_false hlo
            have d2 : decide (q < x) = true := decide_eq_true hhi
            have HE := Lib.hid (show charsOf l0 = k by
              rw [HST.out, if_pos]
              rw [HCL.out, if_neg (by omega), if_neg]
              rw [HC.out, HSTEP.out, decide_eq_false (by omega)]
              simp)
            go_wp2
            go_ret
            exact ⟨ret_int HE.out.symm, HD.out⟩
          have d1 : decide (x < p) = false := decide_eq_false hlo
          have d2 : decide (q < x) = false := decide_eq_false hhi
          have HN := Lib.hid (show conts (m - 1) lo hi t = conts (m - (j + 1)) 128 191 (t.drop (j + 1 - 1)) by
              rw [HC.out, HSTEP.out, decide_eq_true (by omega)]
              simp)
          go_wp2
          go_roundw
          case rel => exact ⟨j + 1, 128, 191, by omega, by omega, rfl, rfl, by go_num, HN, HD⟩
          case measure => simp [intOf]; omega
        · obtain rfl : j = m := by omega
          have hck : charLen (l0.drop k) = j := by
            rw [HCL.out, if_neg (by omega), HC.out, Nat.sub_self]
            rfl
          have HNX := Lib.hid (show charsFrom l0 (k + j) = charsOf l0 by rw [HST.out, hck, if_neg (by omega)])
          clear hck
          go_wp2
          go_roundw
          case rel => exact ⟨k + j, by omega, by go_num, HNX, HD⟩
          case measure => simp [intOf]; omega
    · obtain rfl : k = n := by omega
      have HE := Lib.hid (show charsOf l0 = -1 by rw [← HCF.out, charsFrom, dif_neg (by rw [HLEN.out]; omega)])
      go_wp2
      go_ret
      exact ⟨ret_int HE.out.symm, HDR.out⟩
end Go.Proofs.YtcfbfmgckaehdaaDoor
namespace Go.Proofs.YtcfbfmgckaehdaaDoor
open Go.RowKit Go.Proofs.YtcfbfmgckaehdaaDoorW.PrintWords
theorem drop_cons (l : List Int) (a : Nat) (h : a < l.length) : l.drop a = rd l a :: l.drop (a + 1) := by
  rw [rd_get l a h]
  exact List.drop_eq_getElem_cons h
end Go.Proofs.YtcfbfmgckaehdaaDoor
namespace Go.Proofs.YtcfbfmgckaehdaaDoor
open Go.RowKit Go.Proofs.YtcfbfmgckaehdaaDoorW.PrintWords
theorem or_shl6 (x d : Int) (x0 : 0 ≤ x) (x1 : x < 36028797018963968) (d0 : 0 ≤ d) (d1 : d < 64) : bits .or .i64 (x * 64) d = x * 64 + d :=
  bits_join .i64 63 (by decide) wraps_i64 6 (x * 64) d (by omega) (by omega) (by omega) (by omega) (by omega) (by omega)
theorem and_mask (j : Nat) (hj : j ≤ 32) (x : Int) (h0 : 0 ≤ x) (h1 : x < 9223372036854775808) (m : Int) (hm : m = 2 ^ j - 1) : bits .and .i64 x m = x % 2 ^ j := by
  obtain ⟨k, rfl⟩ := Int.eq_ofNat_of_zero_le h0
  have h2 : (2 : Nat) ^ j ≤ 2 ^ 32 := Nat.pow_le_pow_right (by decide) hj
  have h3 : 1 ≤ (2 : Nat) ^ j := Nat.one_le_two_pow
  have h := and_i64 k (2 ^ j - 1) (by omega) (by omega)
  rw [Nat.and_two_pow_sub_one_eq_mod] at h
  have e : m = ((2 ^ j - 1 : Nat) : Int) := by rw [hm, Int.ofNat_sub h3]; simp
  rw [e, h]
  simp
theorem str_reads (W : World) (s : ByteArray) (hs : s.size ≤ 9223372036854775807) : Rd (Lib.bytesWorld W 5 s) (some ⟨W.heap.size, 0, none⟩) s.size (bytesOf s) :=
  Kd.C_of_reads (d := (0 : Int)) (h1 := fun _ => rfl) (bytes_reads W 5 s hs)
set_option maxHeartbeats 1600000 in
theorem Unspell_calls (s : ByteArray) (w : World) (hs : s.size ≤ 35184372088832) :
    Calls Tryd.prog 62 #[.string s] w fun e w' => ∃ v0_ : Value, e = .returned (.tuple #[v0_, .bool (unRun (bytesOf s) 0 0 []).isSome]) ∧ Own w w' v0_ ((unRun (bytesOf s) 0 0 []).getD []) ∧ Below w.heap.size w w' := by
  obtain ⟨R, hR⟩ : ∃ R, R = unRun (bytesOf s) 0 0 [] := ⟨_, rfl⟩
  rw [← hR]
  have HRR := Lib.hid hR
  have HY := Lib.hid (Bytes_bytesOf s)
  have HL := Lib.hid (bytesOf_length s)
  clear hR
  have kb := fun W => print_bytes (P := Tryd.prog) 9 22 5 Tryd.underlying9 Tryd.underlying22 Tryd.underlying5 s W
  go_enter Tryd.func62, Tryd.ntmps62
  go_wp2
  have hr0 := str_reads w s (by omega)
  have hb0 : Below w.heap.size w (Lib.bytesWorld w 5 s) := bytes_below (Below.refl _ _) (Nat.le_refl _) _ _
  obtain ⟨c0, hc0⟩ : ∃ c0, c0 = grownCap w s.size 0 5 := ⟨_, rfl⟩
  rw [← hc0]
  obtain ⟨w0, hw0⟩ : ∃ w0, w0 = Lib.bytesWorld w 5 s := ⟨_, rfl⟩
  rw [← hw0] at hr0 hb0 ⊢
  have HR := Lib.hid hr0
  have HB0 := Lib.hid hb0
  obtain ⟨ad, had⟩ : ∃ ad : Addr, ad = ⟨w.heap.size, 0, none⟩ := ⟨_, rfl⟩
  rw [← had] at HR ⊢
  clear hc0 hr0 hb0 kb had hw0
  go_loopw [4, 5, 6, 13] (fun v hd mn i wr => ∃ (k : Nat) (h : Int) (m : Nat) (O : List Int), k ≤ s.size ∧ i = .int .i64 k ∧ hd = .int .i64 h ∧ mn = .int .i64 m ∧ (m = 0 ∨ m = 2 ∨ m = 4 ∨ m = 6) ∧ ((m = 0 → h = 0) ∧ (m = 2 → h < 4) ∧ (m = 4 → h < 16) ∧ 0 ≤ h ∧ h < 64) ∧ Hid (unRun ((bytesOf s).drop k) h m O = R) ∧ Hid (Own w0 wr v O) ∧ Hid (Below w0.heap.size w0 wr) ∧ O.length ≤ k) (fun _ _ _ i _ => s.size - (intOf i).toNat)
  case atStart => exact ⟨0, 0, 0, [], by omega, rfl, rfl, rfl, by omega, by omega, Lib.hid (by rw [List.drop_zero, HRR.out]), Lib.hid (Own.nil w0 w0), Lib.hid (Below.refl _ _), by simp⟩
  case round =>
    obtain ⟨k, h, m, O, hk, rfl, rfl, rfl, hm, hh, HS, HO, HB, hOl⟩ := hrel
    by_cases hkn : k < s.size
    · have dkn : decide ((k : Int) < s.size) = true := decide_eq_true (by omega)
      obtain ⟨x, hx⟩ : ∃ x, x = rd (bytesOf s) k := ⟨_, rfl⟩
      obtain ⟨x0, x1⟩ := bytes_rd HY.out k (by rw [HL.out]; exact hkn)
      rw [← hx] at x0 x1
      have HDR := Lib.hid (show (bytesOf s).drop k = x :: (bytesOf s).drop (k + 1) by rw [hx]; exact drop_cons _ k (by rw [HL.out]; exact hkn))
      obtain ⟨ad', e, hcell⟩ := Rd.cells (Kd.C_below HR.out HB.out) (by omega)
      cases e
      have hxc := hcell k hkn
      rw [← hx] at hxc
      clear hcell hx
      have hx6 : sixOf x < 64 := by
        by_cases h6 : 0 ≤ sixOf x
        · exact (alpha_sixOf x x0 x1 h6).2
        · omega
      obtain ⟨y, hy⟩ : ∃ y, y = sixOf x := ⟨_, rfl⟩
      rw [← hy] at hx6
      have HYE := Lib.hid hy
      clear hy
      by_cases hy0 : y < 0
      · have dy : decide (y < 0) = true := decide_eq_true hy0
        have HE := Lib.hid (show R = none by rw [← HS.out, HDR.out, unRun, if_pos (by rw [← HYE.out]; exact hy0)])
        go_wp2_with fail
        refine (six_calls x _ x0 x1).mono ?_
        rintro e w1 ⟨rfl, hd1⟩
        have HB1 := Lib.hid (below_step HB.out hd1.below)
        rw [← HYE.out]
        clear hd1
        go_wp2
        go_ret2
        exact ⟨_, by rw [HE.out]; rfl, by rw [HE.out]; exact Own.nil _ _, below_step HB0.out HB1.out⟩
      · have dy : decide (y < 0) = false := decide_eq_false hy0
        have y0 : 0 ≤ y := by omega
        have y1 := hx6
        rcases hm with rfl | rfl | rfl | rfl
        · obtain rfl : h = 0 := hh.1 rfl
          have hor : bits .or .i64 0 y = y := by have := or_shl6 0 y (by omega) (by omega) y0 y1; rwa [Int.zero_mul, Int.zero_add] at this
          have HS2 := Lib.hid (show unRun ((bytesOf s).drop (k + 1)) y 6 O = R by rw [← HS.out, HDR.out, unRun, if_neg (by rw [← HYE.out]; omega), if_neg (by omega), ← HYE.out]; simp)
          go_wp2_with fail
          refine (six_calls x _ x0 x1).mono ?_
          rintro e w1 ⟨rfl, hd1⟩
          have HB1 := Lib.hid (below_step HB.out hd1.below)
          have HO1 := Lib.hid (HO.out.below hd1.below)
          rw [← HYE.out]
          clear hd1
          go_wp2
          go_roundw
          case rel => exact ⟨k + 1, y, 6, O, by omega, by go_num, by go_num, rfl, by omega, by omega, HS2, HO1, HB1, by omega⟩
          case measure => simp [intOf]; omega
        · have hor : bits .or .i64 (h * 64) y = h * 64 + y := or_shl6 h y (by omega) (by omega) y0 y1
          have hwh : IntKind.i64.wrap (h * 64) = h * 64 := wrap_id (by omega) (by omega)
          obtain ⟨Hh, hH⟩ : ∃ Hh, Hh = h * 64 + y := ⟨_, rfl⟩
          rw [← hH] at hor
          have hH0 : 0 ≤ Hh ∧ Hh < 4096 := by omega
          have hand : bits .and .i64 Hh 0 = Hh % 1 := and_mask 0 (by omega) Hh (by omega) (by omega) 0 (by decide)
          have hu8 : IntKind.u8.wrap (Hh) = Hh % 256 := by rw [IntKind.wrap_u8]
          have HS2 := Lib.hid (show unRun ((bytesOf s).drop (k + 1)) (Hh % 1) 0 (O ++ [Hh % 256]) = R by rw [← HS.out, HDR.out, unRun, if_neg (by rw [← HYE.out]; omega), if_pos (by omega), ← HYE.out, ← hH]; simp)
          clear hH
          go_wp2_with fail
          refine (six_calls x _ x0 x1).mono ?_
          rintro e w1 ⟨rfl, hd1⟩
          have HB1 := Lib.hid (below_step HB.out hd1.below)
          have HO1 := Lib.hid (HO.out.below hd1.below)
          rw [← HYE.out]
          clear hd1
          go_wp2_with (at_builtin; refine app_one HO1.out HB1.out (by omega) rfl rfl rfl rfl ?_)
          intro v3 w3 ho3 hb3 _ _
          have HO3 := Lib.hid (ho3.cast (show _ = O ++ [Hh % 256] from by first | rfl | rw [hu8]))
          have HB3 := Lib.hid hb3
          clear ho3 hb3
          go_wp2
          go_roundw
          case rel => exact ⟨k + 1, Hh % 1, 0, O ++ [Hh % 256], by omega, by go_num, by first | rfl | go_num, rfl, by omega, by omega, HS2, HO3, HB3, by simp; omega⟩
          case measure => simp [intOf]; omega
        · have hor : bits .or .i64 (h * 64) y = h * 64 + y := or_shl6 h y (by omega) (by omega) y0 y1
          have hwh : IntKind.i64.wrap (h * 64) = h * 64 := wrap_id (by omega) (by omega)
          obtain ⟨Hh, hH⟩ : ∃ Hh, Hh = h * 64 + y := ⟨_, rfl⟩
          rw [← hH] at hor
          have hH0 : 0 ≤ Hh ∧ Hh < 4096 := by omega
          have hand : bits .and .i64 Hh 3 = Hh % 4 := and_mask 2 (by omega) Hh (by omega) (by omega) 3 (by decide)
          have hu8 : IntKind.u8.wrap (Hh / 4) = Hh / 4 % 256 := by rw [IntKind.wrap_u8]
          have HS2 := Lib.hid (show unRun ((bytesOf s).drop (k + 1)) (Hh % 4) 2 (O ++ [Hh / 4 % 256]) = R by rw [← HS.out, HDR.out, unRun, if_neg (by rw [← HYE.out]; omega), if_pos (by omega), ← HYE.out, ← hH]; simp)
          clear hH
          go_wp2_with fail
          refine (six_calls x _ x0 x1).mono ?_
          rintro e w1 ⟨rfl, hd1⟩
          have HB1 := Lib.hid (below_step HB.out hd1.below)
          have HO1 := Lib.hid (HO.out.below hd1.below)
          rw [← HYE.out]
          clear hd1
          go_wp2_with (at_builtin; refine app_one HO1.out HB1.out (by omega) rfl rfl rfl rfl ?_)
          intro v3 w3 ho3 hb3 _ _
          have HO3 := Lib.hid (ho3.cast (show _ = O ++ [Hh / 4 % 256] from by first | rfl | rw [hu8]))
          have HB3 := Lib.hid hb3
          clear ho3 hb3
          go_wp2
          go_roundw
          case rel => exact ⟨k + 1, Hh % 4, 2, O ++ [Hh / 4 % 256], by omega, by go_num, by first | rfl | go_num, rfl, by omega, by omega, HS2, HO3, HB3, by simp; omega⟩
          case measure => simp [intOf]; omega
        · have hor : bits .or .i64 (h * 64) y = h * 64 + y := or_shl6 h y (by omega) (by omega) y0 y1
          have hwh : IntKind.i64.wrap (h * 64) = h * 64 := wrap_id (by omega) (by omega)
          obtain ⟨Hh, hH⟩ : ∃ Hh, Hh = h * 64 + y := ⟨_, rfl⟩
          rw [← hH] at hor
          have hH0 : 0 ≤ Hh ∧ Hh < 4096 := by omega
          have hand : bits .and .i64 Hh 15 = Hh % 16 := and_mask 4 (by omega) Hh (by omega) (by omega) 15 (by decide)
          have hu8 : IntKind.u8.wrap (Hh / 16) = Hh / 16 % 256 := by rw [IntKind.wrap_u8]
          have HS2 := Lib.hid (show unRun ((bytesOf s).drop (k + 1)) (Hh % 16) 4 (O ++ [Hh / 16 % 256]) = R by rw [← HS.out, HDR.out, unRun, if_neg (by rw [← HYE.out]; omega), if_pos (by omega), ← HYE.out, ← hH]; simp)
          clear hH
          go_wp2_with fail
          refine (six_calls x _ x0 x1).mono ?_
          rintro e w1 ⟨rfl, hd1⟩
          have HB1 := Lib.hid (below_step HB.out hd1.below)
          have HO1 := Lib.hid (HO.out.below hd1.below)
          rw [← HYE.out]
          clear hd1
          go_wp2_with (at_builtin; refine app_one HO1.out HB1.out (by omega) rfl rfl rfl rfl ?_)
          intro v3 w3 ho3 hb3 _ _
          have HO3 := Lib.hid (ho3.cast (show _ = O ++ [Hh / 16 % 256] from by first | rfl | rw [hu8]))
          have HB3 := Lib.hid hb3
          clear ho3 hb3
          go_wp2
          go_roundw
          case rel => exact ⟨k + 1, Hh % 16, 4, O ++ [Hh / 16 % 256], by omega, by go_num, by first | rfl | go_num, rfl, by omega, by omega, HS2, HO3, HB3, by simp; omega⟩
          case measure => simp [intOf]; omega
    · obtain rfl : k = s.size := by omega
      have dkn : decide ((s.size : Int) < s.size) = false := decide_eq_false (by omega)
      have HD := Lib.hid (show (bytesOf s).drop s.size = [] from List.drop_of_length_le (by rw [HL.out]; exact Nat.le_refl _))
      by_cases hne : m = 6 ∨ h ≠ 0
      · have HE := Lib.hid (show R = none by rw [← HS.out, HD.out, unRun, if_pos hne])
        by_cases h6 : m = 6
        case' pos =>
          have d6 : ((m : Int) == 6) = true := beq_iff_eq.2 (by omega)
        case' neg =>
          have d6 : ((m : Int) == 6) = false := beq_eq_false_iff_ne.2 (by omega)
          have d7 : (h == 0) = false := beq_eq_false_iff_ne.2 (by omega)
          have d8 : (h != 0) = true := by rw [bne, d7]; rfl
        all_goals
          clear hm hh hne h6
          go_wp2
          go_ret2
          exact ⟨_, by rw [HE.out]; rfl, by rw [HE.out]; exact Own.nil _ _, below_step HB0.out HB.out⟩
      · have HE := Lib.hid (show R = some O by rw [← HS.out, HD.out, unRun, if_neg hne])
        have d6 : ((m : Int) == 6) = false := beq_eq_false_iff_ne.2 (by omega)
        obtain rfl : h = 0 := by omega
        clear hm hh hne
        go_wp2
        go_ret2
        exact ⟨_, by rw [HE.out]; rfl, by rw [HE.out]; exact HO.out.lower HB0.out.size, below_step HB0.out HB.out⟩
end Go.Proofs.YtcfbfmgckaehdaaDoor
namespace Go.Proofs.YtcfbfmgckaehdaaDoor
open Go.RowKit Go.Proofs.YtcfbfmgckaehdaaDoorW.PrintWords
theorem run_add_ (P : Program) (a b : ByteArray) (w : World) (h : a.size + b.size ≤ 9223372036854775807) : (Op.stringOp .add a b).run P w = .ok (.string (a ++ b)) w := run_string_add_sum w a b h
end Go.Proofs.YtcfbfmgckaehdaaDoor
namespace Go.Proofs.YtcfbfmgckaehdaaDoor
open Go.RowKit Go.Proofs.YtcfbfmgckaehdaaDoorW.PrintWords
theorem Rd.len {w : World} {A : Option Addr} {n m : Nat} {l : List Int} (h : Rd w A n l) (e : m = n) : Rd w A m l := e ▸ h
end Go.Proofs.YtcfbfmgckaehdaaDoor
namespace Go.Proofs.YtcfbfmgckaehdaaDoor
open Go.RowKit Go.Proofs.YtcfbfmgckaehdaaDoorW.PrintWords
/-- Where a byte stands first; the length, if it does not. -/
def posOf (c : Int) : List Int → Nat
  | [] => 0
  | x :: t => if x = c then 0 else posOf c t + 1
theorem indexByte_pos (c : Nat) (hc : c < 256) : ∀ (l : List UInt8), Lib.indexByte l (c : Int).toNat.toUInt8 = if posOf c (l.map fun b => (b.toNat : Int)) < l.length then ((posOf c (l.map fun b => (b.toNat : Int)) : Nat) : Int) else -1
  | [] => rfl
  | b :: t => by
    have ih := indexByte_pos c hc t
    have hcc : ((c : Int).toNat.toUInt8).toNat = c := by
      rw [Int.toNat_natCast]
      exact UInt8.toNat_ofNat_of_lt' hc
    rw [Lib.indexByte, List.map_cons, posOf]
    by_cases hb : (b.toNat : Int) = c
    · have e : (b == (c : Int).toNat.toUInt8) = true := by
        rw [beq_iff_eq]
        apply UInt8.toNat_inj.1
        rw [hcc]
        omega
      rw [e, if_pos rfl, if_pos hb, if_pos (by simp)]
      rfl
    · have e : (b == (c : Int).toNat.toUInt8) = false := by
        rw [beq_eq_false_iff_ne]
        intro h
        apply hb
        rw [h, hcc]
      rw [e, if_neg (by simp), if_neg hb, ih]
      by_cases h2 : posOf c (t.map fun b => (b.toNat : Int)) < t.length
      · rw [if_pos h2, if_neg (by rw [beq_iff_eq]; omega), if_pos (by simp only [List.length_cons]; omega)]
        omega
      · rw [if_neg h2, if_pos (by decide), if_neg (by simp only [List.length_cons]; omega)]
theorem indexByte_str (c : Nat) (hc : c < 256) (s : ByteArray) : Lib.indexByte s.data.toList (c : Int).toNat.toUInt8 = if posOf c (bytesOf s) < s.size then ((posOf c (bytesOf s) : Nat) : Int) else -1 := by
  have h := indexByte_pos c hc s.data.toList
  rw [data_length] at h
  exact h
set_option maxRecDepth 20000 in
set_option maxHeartbeats 400000 in
theorem litIndexByte_calls (s : ByteArray) (c : Nat) (hc : c < 256) (w : World) :
    Calls Tryd.prog 71 #[.string s, .int .u8 c] w fun e w' => e = .returned (.int .i64 (if posOf c (bytesOf s) < s.size then ((posOf c (bytesOf s) : Nat) : Int) else -1)) ∧ w' = w := by
  rw [← indexByte_str c hc s]
  go_enter Tryd.func71, Tryd.ntmps71
  go_wp2
  rw [run_callFunc_extern Tryd.func75 (by kernel_rfl) (by kernel_rfl) (by kernel_rfl) (e := Extern.BytealgIndexByte.indexByte) (by kernel_rfl), Lib.run_indexByteString]
  simp only [Result.andThen]
  rw [Oper.upon_value]
  go_wp2
  go_ret
  exact ⟨rfl, rfl⟩
set_option maxRecDepth 20000 in
set_option maxHeartbeats 400000 in
theorem IndexByte_calls (s : ByteArray) (c : Nat) (hc : c < 256) (w : World) :
    Calls Tryd.prog 61 #[.string s, .int .u8 c] w fun e w' => e = .returned (.int .i64 (if posOf c (bytesOf s) < s.size then ((posOf c (bytesOf s) : Nat) : Int) else -1)) ∧ w' = w := by
  obtain ⟨r, hr⟩ : ∃ r, r = (if posOf c (bytesOf s) < s.size then ((posOf c (bytesOf s) : Nat) : Int) else -1) := ⟨_, rfl⟩
  rw [← hr]
  have HR := Lib.hid hr
  clear hr
  go_enter Tryd.func61, Tryd.ntmps61
  go_wp2_with fail
  refine (litIndexByte_calls s c hc _).mono ?_
  rintro e w1 ⟨rfl, rfl⟩
  rw [← HR.out]
  go_wp2
  go_ret
  exact ⟨rfl, rfl⟩
end Go.Proofs.YtcfbfmgckaehdaaDoor
namespace Go.Proofs.YtcfbfmgckaehdaaDoor
open Go.RowKit Go.Proofs.YtcfbfmgckaehdaaDoorW.PrintWords
set_option maxRecDepth 20000 in
theorem Count_none (s t : ByteArray) (c : Nat) (hc : c < 256) (ht : t = ⟨#[UInt8.ofNat c]⟩) (h : Lib.countByte s.data.toList (c : Int).toNat.toUInt8 = 0) (w : World) :
    Calls Tryd.prog 76 #[.string s, .string t] w fun e w' => e = .returned (.int .i64 0) ∧ w' = w := by
  have h1 : t.size = 1 := by rw [ht]; rfl
  have hb : ∀ h, ((t[0]'h).toNat : Int) = c := by
    subst ht
    intro h
    show (((UInt8.ofNat c).toNat : Nat) : Int) = c
    rw [UInt8.toNat_ofNat_of_lt' (by show c < 256; omega)]
  have i0 : 0 < t.size := by omega
  have HC := Lib.hid h
  clear ht h
  obtain ⟨m, hm⟩ : ∃ m : Nat, m = t.size := ⟨_, rfl⟩
  go_enter Tryd.func76, Tryd.ntmps76
  go_wp2
  rw [run_callFunc_extern Tryd.func83 (by kernel_rfl) (by kernel_rfl) (by kernel_rfl) (e := Extern.BytealgCount.count) (by kernel_rfl), Lib.run_countString, HC.out]
  simp only [Result.andThen]
  rw [Oper.upon_value]
  go_wp2
  go_ret
  exact ⟨rfl, rfl⟩
set_option maxRecDepth 20000 in
theorem Replace_none (s t u : ByteArray) (c : Nat) (hc : c < 256) (ht : t = ⟨#[UInt8.ofNat c]⟩) (hne : (t.toList == u.toList) = false) (h : Lib.countByte s.data.toList (c : Int).toNat.toUInt8 = 0) (w : World) :
    Calls Tryd.prog 73 #[.string s, .string t, .string u, .int .i64 (-1)] w fun e w' => e = .returned (.string s) ∧ w' = w := by
  have hq : (t.toList == u.toList) = false := hne
  have HT := Lib.hid ht
  have HH := Lib.hid h
  clear ht h hne
  go_enter Tryd.func73, Tryd.ntmps73
  go_wp2_with fail
  refine (Count_none s t c hc HT.out HH.out _).mono ?_
  rintro e w1 ⟨rfl, rfl⟩
  go_wp2
  go_ret
  exact ⟨rfl, rfl⟩
set_option maxRecDepth 20000 in
theorem ReplaceAll_none (s t u : ByteArray) (c : Nat) (hc : c < 256) (ht : t = ⟨#[UInt8.ofNat c]⟩) (hne : (t.toList == u.toList) = false) (h : Lib.countByte s.data.toList (c : Int).toNat.toUInt8 = 0) (w : World) :
    Calls Tryd.prog 63 #[.string s, .string t, .string u] w fun e w' => e = .returned (.string s) ∧ w' = w := by
  have HT := Lib.hid ht
  have HN := Lib.hid hne
  have HH := Lib.hid h
  clear ht h hne
  go_enter Tryd.func63, Tryd.ntmps63
  go_wp2_with fail
  refine (Replace_none s t u c hc HT.out HN.out HH.out _).mono ?_
  rintro e w1 ⟨rfl, rfl⟩
  go_wp2
  go_ret
  exact ⟨rfl, rfl⟩
theorem HasSuffix_yes (s t : ByteArray) (n m : Nat) (hn : s.size = n) (hm : t.size = m) (hle : m ≤ n) (hs : n ≤ 1099511627776) (h : ((s.extract (n - m) n).toList == t.toList) = true) (w : World) :
    Calls Tryd.prog 74 #[.string s, .string t] w fun e w' => e = .returned (.bool true) ∧ w' = w := by
  have d1 : decide (m ≤ n) = true := decide_eq_true hle
  have w1 : IntKind.i64.wrap ((n : Int) - m) = (n : Int) - m := wrap_id (by omega) (by omega)
  have i0 : (0 : Int) ≤ (n : Int) - m := by omega
  have i1 : (m : Int) ≤ n := by omega
  have i2 : (n : Int) - m ≤ n := by omega
  have t1 : ((n : Int) - m).toNat = n - m := by omega
  go_enter Tryd.func74, Tryd.ntmps74
  go_wp2
  go_ret
  exact ⟨rfl, rfl⟩
theorem litCutSuffix_yes (s t : ByteArray) (n m : Nat) (hn : s.size = n) (hm : t.size = m) (hle : m ≤ n) (hs : n ≤ 1099511627776) (h : ((s.extract (n - m) n).toList == t.toList) = true) (w : World) :
    Calls Tryd.prog 70 #[.string s, .string t] w fun e w' => e = .returned (.tuple #[.string (s.extract 0 (n - m)), .bool true]) ∧ w' = w := by
  have w1 : IntKind.i64.wrap ((n : Int) - m) = (n : Int) - m := wrap_id (by omega) (by omega)
  have i0 : (0 : Int) ≤ (n : Int) - m := by omega
  have i1 : (m : Int) ≤ n := by omega
  have i2 : (n : Int) - m ≤ n := by omega
  have t1 : ((n : Int) - m).toNat = n - m := by omega
  go_enter Tryd.func70, Tryd.ntmps70
  go_wp2_with fail
  refine (HasSuffix_yes s t n m hn hm hle hs h _).mono ?_
  rintro e w1 ⟨rfl, rfl⟩
  go_wp2
  go_ret2
  exact ⟨rfl, rfl⟩
theorem CutSuffix_yes (s t : ByteArray) (n m : Nat) (hn : s.size = n) (hm : t.size = m) (hle : m ≤ n) (hs : n ≤ 1099511627776) (h : ((s.extract (n - m) n).toList == t.toList) = true) (w : World) :
    Calls Tryd.prog 60 #[.string s, .string t] w fun e w' => e = .returned (.tuple #[.string (s.extract 0 (n - m)), .bool true]) ∧ w' = w := by
  go_enter Tryd.func60, Tryd.ntmps60
  go_wp2_with fail
  refine (litCutSuffix_yes s t n m hn hm hle hs h _).mono ?_
  rintro e w1 ⟨rfl, rfl⟩
  go_wp2
  go_ret2
  exact ⟨rfl, rfl⟩
end Go.Proofs.YtcfbfmgckaehdaaDoor
