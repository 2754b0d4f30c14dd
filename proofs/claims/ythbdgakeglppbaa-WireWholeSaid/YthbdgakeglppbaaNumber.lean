/- wire.Number: a number's form behind bytes. -/
import Derived.Test.YthbdgakeglppbaaApp
import Derived.Test.YthbdgakeglppbaaForm
import Derived.Test.YthbdgakeglppbaaShelfLen
namespace Go.Proofs.Ythbdgakeglppbaa
open Go.RowKit Go.Proofs.YthbdgakeglppbaaW.PrintWords Go.Proofs.YthbdgakeglppbaaW.PrintMore
attribute [local go_sem] max2_int max_two
set_option maxHeartbeats 1600000 in
theorem Number_small {n : Nat} (A0 : Option Addr) (c0 : Nat) (l0 : List Int) (x : Int) (w : World) (hr0 : Rd w A0 n l0) (hs0 : n ≤ 140737488351232) (hx : -9223372036854775808 ≤ x) (hsm : x ≤ 247) :
    Calls Try.prog 20 #[.slice A0 n c0, .int .i64 x] w fun e w' => ∃ v0_ : Value, e = .returned (v0_) ∧ Own w w' v0_ (l0 ++ numForm x) ∧ Below w.heap.size w w' := by
  have hlen := Kd.C_len hr0
  have HR := Lib.hid hr0
  clear hr0
  have HF := Lib.hid (show numForm x = [max x 0] from if_pos hsm)
  by_cases hneg : x < 0
  case' pos =>
    have hd : decide (x < 0) = true := decide_eq_true hneg
    have HM := Lib.hid (show [max x 0] = [0] by rw [Int.max_eq_right (by omega)])
  case' neg =>
    have hd : decide (x < 0) = false := decide_eq_false hneg
    have HM := Lib.hid (show [max x 0] = [x] by rw [Int.max_eq_left (by omega)])
  all_goals
    go_enter Try.func20, Try.ntmps20
    go_wp2_with (at_builtin; refine app_row (Own.nil w w) HR.out (Below.refl _ _) (by simp; omega) rfl rfl rfl rfl ?_)
    intro v1 w1 ho1 hb1 _ _
    have HO1 := Lib.hid (ho1.cast (List.nil_append l0))
    have HB1 := Lib.hid hb1
    clear ho1 hb1
    go_wp2_with (at_builtin; refine app_one HO1.out HB1.out (by omega) rfl rfl rfl rfl ?_)
    intro v2 w2 ho2 hb2 _ _
    go_wp2
    go_ret
    exact ⟨_, rfl, ho2.cast (by rw [HF.out, HM.out]), hb2⟩
set_option maxHeartbeats 1600000 in
theorem Number_big {n : Nat} (A0 : Option Addr) (c0 : Nat) (l0 : List Int) (x : Int) (w : World) (hr0 : Rd w A0 n l0) (hs0 : n ≤ 140737488351232) (hsm : 247 < x) (hx1 : x ≤ 9223372036854775807) :
    Calls Try.prog 20 #[.slice A0 n c0, .int .i64 x] w fun e w' => ∃ v0_ : Value, e = .returned (v0_) ∧ Own w w' v0_ (l0 ++ numForm x) ∧ Below w.heap.size w w' := by
  have hlen := Kd.C_len hr0
  have HR := Lib.hid hr0
  clear hr0
  have HF := Lib.hid (show numForm x = (247 + (byteLen x : Int)) :: beBytes (byteLen x) x from if_neg (by omega))
  have hd : decide (x < 0) = false := decide_eq_false (by omega)
  have hd2 : decide (x ≤ 247) = false := decide_eq_false (by omega)
  have hk := byteLen_range x
  have HK := Lib.hid (bitLen_byte x (by omega) (by omega))
  obtain ⟨b, hb⟩ : ∃ b : Nat, b = Lib.bitLen x.toNat := ⟨_, rfl⟩
  rw [← hb] at HK
  have hb8 : b ≤ 64 := by have := HK.out; omega
  have HBL := Lib.hid hb.symm
  clear hb
  go_enter Try.func20, Try.ntmps20
  go_wp2_with (at_builtin; refine app_row (Own.nil w w) HR.out (Below.refl _ _) (by simp; omega) rfl rfl rfl rfl ?_)
  intro v1 w1 ho1 hb1 _ _
  have HO1 := Lib.hid (ho1.cast (List.nil_append l0))
  have HB1 := Lib.hid hb1
  clear ho1 hb1
  go_wp2_with fail
  refine (Len64_calls x _ (by omega) (by omega)).mono ?_
  rintro e w' ⟨rfl, rfl⟩
  rw [HBL.out]
  go_wp2_with (at_builtin; refine app_one HO1.out HB1.out (by omega) rfl rfl rfl rfl ?_)
  intro v2 w2 ho2 hb2 _ _
  have HO2 := Lib.hid (show Own w w2 v2 (l0 ++ (247 + (byteLen x : Int)) :: (beBytes (byteLen x) x).take (byteLen x - byteLen x)) from ho2.cast (by have := HK.out; rw [show (247 : Int) + ((b : Int) + 7) / 8 = 247 + (byteLen x : Int) by omega]; simp))
  have HB2 := Lib.hid hb2
  clear ho2 hb2 HO1 HB1
  have HKi := Lib.hid (show ((b : Int) + 7) / 8 - 1 = (byteLen x : Int) - 1 by have := HK.out; omega)
  clear HK HBL
  go_wp2
  go_loopw [5, 8] (fun v i wr => ∃ j : Nat, j ≤ byteLen x ∧ i = .int .i64 ((j : Int) - 1) ∧ Hid (Own w wr v (l0 ++ (247 + (byteLen x : Int)) :: (beBytes (byteLen x) x).take (byteLen x - j))) ∧ Hid (Below w.heap.size w wr)) (fun _ i _ => (intOf i + 1).toNat)
  case atStart => exact ⟨byteLen x, Nat.le_refl _, by rw [← HKi.out], HO2, HB2⟩
  case round =>
    obtain ⟨j, hj, rfl, HO, HB⟩ := hrel
    clear HO2 HB2
    by_cases hj0 : j = 0
    · subst hj0
      go_wp2
      go_ret
      exact ⟨_, rfl, HO.out.cast (by rw [HF.out, List.take_of_length_le (by rw [beBytes_length]; omega)]), HB.out⟩
    · have HS := Lib.hid (beBytes_take (byteLen x) (byteLen x - j) x (by omega))
      go_wp2_with (at_builtin; refine app_one HO.out HB.out (by simp only [List.length_append, List.length_cons, List.length_take, beBytes_length]; omega) rfl rfl rfl rfl ?_)
      intro v3 w3 ho3 hb3 _ _
      have HO3 := Lib.hid (show Own w w3 v3 (l0 ++ (247 + (byteLen x : Int)) :: (beBytes (byteLen x) x).take (byteLen x - (j - 1))) from ho3.cast (by
        rw [show byteLen x - (j - 1) = byteLen x - j + 1 by omega, HS.out, show byteLen x - 1 - (byteLen x - j) = j - 1 by omega]
        rw [show (256 : Int) ^ (j - 1) = 2 ^ (8 * (j - 1)) by rw [show (256 : Int) = 2 ^ 8 from rfl, ← Int.pow_mul]]))
      have HB3 := Lib.hid hb3
      clear ho3 hb3 HO HB
      go_wp2
      go_roundw
      case rel => exact ⟨j - 1, by omega, by congr 1; omega, HO3, HB3⟩
      case measure => simp [intOf]; omega
theorem Number_calls {n : Nat} (A0 : Option Addr) (c0 : Nat) (l0 : List Int) (x : Int) (w : World) (hr0 : Rd w A0 n l0) (hs0 : n ≤ 140737488351232) (hx : -9223372036854775808 ≤ x) (hx1 : x ≤ 9223372036854775807) :
    Calls Try.prog 20 #[.slice A0 n c0, .int .i64 x] w fun e w' => ∃ v0_ : Value, e = .returned (v0_) ∧ Own w w' v0_ (l0 ++ numForm x) ∧ Below w.heap.size w w' := by
  by_cases h : x ≤ 247
  · exact Number_small A0 c0 l0 x w hr0 hs0 hx h
  · exact Number_big A0 c0 l0 x w hr0 hs0 (by omega) hx1
end Go.Proofs.Ythbdgakeglppbaa
