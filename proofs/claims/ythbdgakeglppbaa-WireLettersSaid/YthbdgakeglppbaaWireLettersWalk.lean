/- WireLetters: the walk of the law. -/
import Derived.Test.YthbdgakeglppbaaUnspellRef
import Derived.Test.YthbdgakeglppbaaWireSpeltWalk
import Derived.Test.YthbdgakeglppbaaClone
namespace Go.Proofs.Ythbdgakeglppbaa
open Go.RowKit Go.Proofs.YthbdgakeglppbaaW.PrintWords
set_option maxHeartbeats 800000 in
theorem WireLetters_early (A0 : Option Addr) (n c0 : Nat) (s : ByteArray) (w : World) (hbig : 16384 < n ∨ 16384 < s.size) :
    Calls Try.prog 11 #[.slice A0 n c0, .string s] w fun e w' => e = .returned (.bool true) ∧ Below w.heap.size w w' := by
  have HAA := Lib.hid spelt_AA
  by_cases h1 : 16384 < n
  case' pos =>
    have hd : decide (16384 < n) = true := decide_eq_true h1
  case' neg =>
    have hd : decide (16384 < n) = false := decide_eq_false h1
    have hd2 : decide (16384 < s.size) = true := decide_eq_true (by omega)
  all_goals
    go_enter Try.func11, Try.ntmps11
    go_wp2_with fail
    obtain ⟨A, c, e, hc, hrd⟩ := (lit_one (Below.refl w.heap.size w) 0).reads
    cases e
    have hal : Below w.heap.size w (w.alloc (.cells #[.int .u8 0] 5)) := below_alloc (Below.refl _ _) _
    refine (Spell_calls _ _ [0] _ hrd (Bytes.con (by omega) (by omega) Bytes.nil) (by decide)).mono ?_
    rintro e w1 ⟨rfl, hb1⟩
    have HB1 := Lib.hid (below_step hal hb1)
    rw [HAA.out]
    clear hb1 hrd hal hc
    go_wp2
    go_ret
    exact ⟨rfl, HB1.out⟩
set_option maxHeartbeats 4000000 in
theorem WireLetters_main (A0 : Option Addr) (c0 : Nat) (l0 : List Int) (s : ByteArray) (w : World) (hr0 : Rd w A0 l0.length l0) (hc0 : l0.length ≤ c0) (hb0 : Bytes l0) (hl0 : l0.length ≤ 16384) (hs0 : s.size ≤ 16384) :
    Calls Try.prog 11 #[.slice A0 l0.length c0, .string s] w fun e w' => e = .returned (.bool true) ∧ Below w.heap.size w w' := by
  have hd : decide (16384 < l0.length) = false := decide_eq_false (by omega)
  have hd2 : decide (16384 < s.size) = false := decide_eq_false (by omega)
  have HR := Lib.hid hr0
  have HY := Lib.hid hb0
  clear hr0 hb0
  go_enter Try.func11, Try.ntmps11
  go_wp2_with fail
  refine (bytes_Clone.calls A0 c0 l0 l0 _ HR.out hc0 (if_pos (by omega))).mono ?_
  rintro e w1 ⟨v1, rfl, ho1, hb1⟩
  obtain ⟨A1, c1, rfl, hc1, hrd1⟩ := Own.reads ho1
  have HB1 := Lib.hid hb1
  have HR1 := Lib.hid hrd1
  clear ho1 hb1 hrd1
  obtain ⟨R, hR⟩ : ∃ R, R = unRun (bytesOf s) 0 0 [] := ⟨_, rfl⟩
  have HRE := Lib.hid hR
  have hRY : Bytes (R.getD []) := by
    cases hq : R with
    | none => exact Bytes.nil
    | some q => exact (spelt_unRun _ q (Bytes_bytesOf s) (by rw [← hR, hq])).2
  have HRY := Lib.hid hRY
  clear hR hRY
  go_wp2_with fail
  refine (Unspell_calls s _ (by omega)).mono ?_
  rintro e w2 ⟨v2, rfl, ho2, hb2⟩
  rw [← HRE.out] at ho2 ⊢
  have HO2 := Lib.hid ho2
  have HB2 := Lib.hid (below_step HB1.out hb2)
  have HR2 := Lib.hid (Kd.C_below HR1.out hb2)
  clear ho2 hb2 HB1 HR1
  go_wp2_with fail
  refine (UnspellRef_calls s _ (by omega)).mono ?_
  rintro e w3 ⟨v3, rfl, ho3, hb3⟩
  rw [← HRE.out] at ho3 ⊢
  obtain ⟨q, hq⟩ : ∃ q, q = R.getD [] := ⟨_, rfl⟩
  obtain ⟨b, hb⟩ : ∃ b, b = R.isSome := ⟨_, rfl⟩
  rw [← hq] at ho3 HO2 HRY
  rw [← hb]
  have HO3 := Lib.hid ho3
  have HO2' := Lib.hid (HO2.out.below hb3)
  have HB3 := Lib.hid (below_step HB2.out hb3)
  have HR3 := Lib.hid (Kd.C_below HR2.out hb3)
  clear ho3 hb3 HB2 HR2 HO2 hq hb HRE
  obtain ⟨A2, c2, rfl, hc2, hrd2⟩ := HO2'.out.reads
  obtain ⟨A3, c3, rfl, hc3, hrd3⟩ := HO3.out.reads
  have HQ2 := Lib.hid hrd2
  have HQ3 := Lib.hid hrd3
  clear hrd2 hrd3 HO2' HO3
  go_wp2_with fail
  refine (Spell_calls A1 c1 l0 _ HR3.out HY.out (by omega)).mono ?_
  rintro e w4 ⟨rfl, hb4⟩
  have HB4 := Lib.hid (below_step HB3.out hb4)
  have HR4 := Lib.hid (Kd.C_below HR3.out hb4)
  have HQ2' := Lib.hid (Kd.C_below HQ2.out hb4)
  have HQ3' := Lib.hid (Kd.C_below HQ3.out hb4)
  clear hb4 HB3 HR3 HQ2 HQ3
  go_wp2_with fail
  refine (SpellRef_calls A0 c0 l0 _ (Kd.C_below HR.out HB4.out) HY.out (by omega)).mono ?_
  rintro e w5 ⟨rfl, hb5⟩
  have HB5 := Lib.hid (below_step HB4.out hb5)
  have HR5 := Lib.hid (Kd.C_below HR4.out hb5)
  have HQ2 := Lib.hid (Kd.C_below HQ2'.out hb5)
  have HQ3 := Lib.hid (Kd.C_below HQ3'.out hb5)
  clear hb5 HB4 HR4 HQ2' HQ3'
  go_wp2_with fail
  refine (Equal_true _ _ l0 _ _ l0 _ HR5.out (Kd.C_below HR.out HB5.out) HY.out rfl).mono ?_
  rintro e w6 ⟨rfl, hd6⟩
  have HB6 := Lib.hid (below_step HB5.out hd6.below)
  have HQ2' := Lib.hid (Kd.C_below HQ2.out hd6.below)
  have HQ3' := Lib.hid (Kd.C_below HQ3.out hd6.below)
  clear hd6 HB5 HR5 HQ2 HQ3
  go_wp2_with fail
  refine (Equal_true _ _ q _ _ q _ HQ2'.out HQ3'.out HRY.out rfl).mono ?_
  rintro e w7 ⟨rfl, hd7⟩
  have HB7 := Lib.hid (below_step HB6.out hd7.below)
  clear hd7 HB6 HQ2' HQ3'
  cases b with
  | true =>
    go_wp2
    go_ret
    exact ⟨rfl, HB7.out⟩
  | false =>
    go_wp2
    go_ret
    exact ⟨rfl, HB7.out⟩
theorem WireLetters_walk (A0 : Option Addr) (c0 : Nat) (l0 : List Int) (s : ByteArray) (w : World) (hr0 : Rd w A0 l0.length l0) (hc0 : l0.length ≤ c0) (_hs0 : l0.length ≤ 140737488351232) (hb0 : Bytes l0) (_hs1 : s.size ≤ 140737488351232) :
    Calls Try.prog 11 #[.slice A0 l0.length c0, .string s] w fun e w' => e = .returned (.bool true) ∧ Below w.heap.size w w' := by
  by_cases hbig : 16384 < l0.length ∨ 16384 < s.size
  · exact WireLetters_early A0 _ c0 s w hbig
  · exact WireLetters_main A0 c0 l0 s w hr0 hc0 hb0 (by omega) (by omega)
end Go.Proofs.Ythbdgakeglppbaa
