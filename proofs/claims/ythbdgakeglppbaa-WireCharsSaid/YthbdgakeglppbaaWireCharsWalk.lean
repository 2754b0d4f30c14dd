/- WireChars: the walk of the law. -/
import Derived.Test.YthbdgakeglppbaaCharsRef
import Derived.Test.YthbdgakeglppbaaFrames1
namespace Go.Proofs.Ythbdgakeglppbaa
open Go.RowKit Go.Proofs.YthbdgakeglppbaaW.PrintWords
theorem chars_ff : charsOf [255] = 0 := by
  unfold charsOf
  rw [charsFrom, dif_pos (by decide), if_pos (by decide)]
  rfl
theorem chars_c3 : charsOf [195, 169, 255] = 2 := by
  unfold charsOf
  rw [charsFrom, dif_pos (by decide), if_neg (by decide), charsFrom, dif_pos (by decide), if_pos (by decide)]
  decide
set_option maxHeartbeats 800000 in
theorem WireChars_early (A0 : Option Addr) (n0 c0 : Nat) (w : World) (hbig : 262144 < n0) :
    Calls Try.prog 8 #[.slice A0 n0 c0] w fun e w' => e = .returned (.bool true) ∧ Below w.heap.size w w' := by
  have hd : decide (262144 < n0) = true := decide_eq_true hbig
  go_enter Try.func8, Try.ntmps8
  go_wp2_with fail
  obtain ⟨A, c, e, hc, hrd⟩ := (lit_one (Below.refl w.heap.size w) 255).reads
  cases e
  refine (Chars_calls _ _ [255] _ hrd (Bytes.con (by omega) (by omega) Bytes.nil)).mono ?_
  rintro e w1 ⟨rfl, hd1⟩
  rw [chars_ff]
  have HB1 := Lib.hid (below_step (below_alloc (Below.refl w.heap.size w) _) hd1.below)
  clear hd1
  go_wp2
  go_ret
  exact ⟨rfl, HB1.out⟩
set_option maxHeartbeats 1600000 in
theorem WireChars_main (A0 : Option Addr) (n0 c0 : Nat) (l0 : List Int) (w : World) (hr0 : Rd w A0 n0 l0) (hc0 : n0 ≤ c0) (hb0 : Bytes l0) (hl0 : n0 ≤ 262144) :
    Calls Try.prog 8 #[.slice A0 n0 c0] w fun e w' => e = .returned (.bool true) ∧ Below w.heap.size w w' := by
  have hd : decide (262144 < n0) = false := decide_eq_false (by omega)
  have HY0 := Lib.hid hb0
  obtain ⟨ch, hch⟩ : ∃ x, x = charsOf l0 := ⟨_, rfl⟩
  have HCH := Lib.hid hch
  clear hb0 hch
  have Hp_0 := Lib.hid (hr0)
  have Hall_0 := Lib.hid (Below.refl w.heap.size w)
  clear hr0
  go_enter Try.func8, Try.ntmps8
  go_wp2_with fail
  refine (Clone_calls A0 c0 l0 _ Hp_0.out hc0 (by omega)).mono ?_
  rintro e w1 ⟨v1, rfl, ho1, hb1⟩
  have Hp_1 := Lib.hid (Kd.C_below Hp_0.out hb1)
  have Hall_1 := Lib.hid (below_step Hall_0.out hb1)
  clear Hp_0 Hall_0
  obtain ⟨A2, c2, rfl, hc2, hrd⟩ := ho1.reads
  rw [show l0.length = n0 from Kd.C_len Hp_1.out] at *
  have Hgiven_1 := Lib.hid (hrd)
  clear ho1 hb1 hrd
  go_wp2_with fail
  refine (Chars_calls A2 c2 l0 _ Hgiven_1.out HY0.out).mono ?_
  rintro e w2 ⟨rfl, hd2⟩
  have Hp_2 := Lib.hid (Kd.C_below Hp_1.out hd2.below)
  have Hall_2 := Lib.hid (below_step Hall_1.out hd2.below)
  have Hgiven_2 := Lib.hid (Kd.C_below Hgiven_1.out hd2.below)
  clear Hp_1 Hall_1 Hgiven_1
  rw [← HCH.out]
  clear hd2
  go_wp2_with fail
  refine (CharsRef_calls A0 c0 l0 _ Hp_2.out hc0 HY0.out).mono ?_
  rintro e w3 ⟨rfl, hb3⟩
  have Hp_3 := Lib.hid (Kd.C_below Hp_2.out hb3)
  have Hall_3 := Lib.hid (below_step Hall_2.out hb3)
  have Hgiven_3 := Lib.hid (Kd.C_below Hgiven_2.out hb3)
  clear Hp_2 Hall_2 Hgiven_2
  rw [← HCH.out]
  clear hb3
  have hq : (ch == ch) = true := by simp
  go_wp2_with fail
  refine (Equal_true A2 c2 l0 A0 c0 l0 _ Hgiven_3.out Hp_3.out HY0.out rfl).mono ?_
  rintro e w4 ⟨rfl, hd4⟩
  have Hp_4 := Lib.hid (Kd.C_below Hp_3.out hd4.below)
  have Hall_4 := Lib.hid (below_step Hall_3.out hd4.below)
  have Hgiven_4 := Lib.hid (Kd.C_below Hgiven_3.out hd4.below)
  clear Hp_3 Hall_3 Hgiven_3
  clear hd4
  go_wp2_with fail
  obtain ⟨A, c, e, hc, hrd⟩ := (lit_three (Below.refl w4.heap.size w4) 195 169 255).reads
  cases e
  refine (Chars_calls _ _ [195, 169, 255] _ hrd (Bytes.con (by omega) (by omega) (Bytes.con (by omega) (by omega) (Bytes.con (by omega) (by omega) Bytes.nil)))).mono ?_
  rintro e w5 ⟨rfl, hd5⟩
  rw [chars_c3]
  have HB5 := Lib.hid (below_step (below_alloc Hall_4.out _) hd5.below)
  clear hd5
  go_wp2
  go_ret
  exact ⟨rfl, HB5.out⟩
theorem WireChars_walk (A0 : Option Addr) (c0 : Nat) (l0 : List Int) (w : World) (hr0 : Rd w A0 l0.length l0) (hc0 : l0.length ≤ c0) (_hs0 : l0.length ≤ 140737488351232) (hb0 : Bytes l0) :
    Calls Try.prog 8 #[.slice A0 l0.length c0] w fun e w' => e = .returned (.bool true) ∧ Below w.heap.size w w' := by
  by_cases hbig : 262144 < l0.length
  · exact WireChars_early A0 _ c0 w hbig
  · exact WireChars_main A0 _ c0 l0 w hr0 hc0 hb0 (by omega)
end Go.Proofs.Ythbdgakeglppbaa
