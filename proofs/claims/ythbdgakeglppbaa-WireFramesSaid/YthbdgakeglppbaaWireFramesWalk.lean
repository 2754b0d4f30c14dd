/- WireFrames: the walk of the law. -/
import Derived.Test.YthbdgakeglppbaaFrames1
import Derived.Test.YthbdgakeglppbaaInts
namespace Go.Proofs.Ythbdgakeglppbaa
open Go.RowKit Go.Proofs.YthbdgakeglppbaaW.PrintWords
set_option maxHeartbeats 800000 in
theorem WireFrames_early (A0 : Option Addr) (n0 c0 : Nat) (A1 : Option Addr) (n1 c1 : Nat) (w : World) (hbig : 262144 < n0 ∨ 262144 < n1) (hm0 : n0 ≤ 140737488351232) (hm1 : n1 ≤ 140737488351232) :
    Calls Try.prog 7 #[.slice A0 n0 c0, .slice A1 n1 c1] w fun e w' => e = .returned (.bool true) ∧ Below w.heap.size w w' := by
  by_cases h1 : 262144 < n0
  case' pos =>
    have hd : decide (262144 < n0) = true := decide_eq_true h1
  case' neg =>
    have hd : decide (262144 < n0) = false := decide_eq_false h1
    have hd2 : decide (262144 < n1) = true := decide_eq_true (by omega)
  all_goals
    go_enter Try.func7, Try.ntmps7
    go_wp2_with fail
    refine (Sum_nil _).mono ?_
    rintro e w1 ⟨rfl, hd1⟩
    have HB1 := Lib.hid hd1.below
    clear hd1
    go_wp2
    go_ret
    exact ⟨rfl, HB1.out⟩
set_option maxHeartbeats 1600000 in
theorem WireFrames_main (A0 : Option Addr) (n0 c0 : Nat) (l0 : List Int) (A1 : Option Addr) (n1 c1 : Nat) (l1 : List Int) (w : World) (hr0 : Rd w A0 n0 l0) (hc0 : n0 ≤ c0) (hb0 : Bytes l0) (hl0 : n0 ≤ 262144) (hr1 : Rd w A1 n1 l1) (hc1 : n1 ≤ c1) (hb1 : Bytes l1) (hl1 : n1 ≤ 262144) :
    Calls Try.prog 7 #[.slice A0 n0 c0, .slice A1 n1 c1] w fun e w' => e = .returned (.bool true) ∧ Below w.heap.size w w' := by
  have hd : decide (262144 < n0) = false := decide_eq_false (by omega)
  have hd2 : decide (262144 < n1) = false := decide_eq_false (by omega)
  have hk0 := Kd.C_len hr0
  have hk1 := Kd.C_len hr1
  obtain ⟨fr, hfr⟩ : ∃ x, x = (frameRes l0).1 := ⟨_, rfl⟩
  obtain ⟨fe, hfe⟩ : ∃ x, x = (frameRes l0).2 := ⟨_, rfl⟩
  obtain ⟨up, hup⟩ : ∃ x, x = (unframe l1).1 := ⟨_, rfl⟩
  obtain ⟨un, hun⟩ : ∃ x, x = (unframe l1).2.1 := ⟨_, rfl⟩
  obtain ⟨ue, hue⟩ : ∃ x, x = (unframe l1).2.2 := ⟨_, rfl⟩
  have hul : up.length ≤ 262144 := by have := unframe_length l1; rw [hup]; omega
  have HBF := Lib.hid (show Bytes fr from hfr ▸ frameRes_Bytes l0 hb0)
  have HBU := Lib.hid (show Bytes up from hup ▸ unframe_Bytes l1 hb1)
  have HF1 := Lib.hid hfr
  have HF2 := Lib.hid hfe
  have HU1 := Lib.hid hup
  have HU2 := Lib.hid hun
  have HU3 := Lib.hid hue
  have HY0 := Lib.hid hb0
  have HY1 := Lib.hid hb1
  clear hfr hfe hup hun hue hk0 hk1
  have Hp_0 := Lib.hid (hr0)
  have Hb_0 := Lib.hid (hr1)
  have Hall_0 := Lib.hid (Below.refl w.heap.size w)
  clear hr0 hr1 hb0 hb1
  go_enter Try.func7, Try.ntmps7
  go_wp2_with fail
  refine (Clone_calls A0 c0 l0 _ Hp_0.out hc0 (by omega)).mono ?_
  rintro e w1 ⟨v1, rfl, ho1, hb1⟩
  have Hp_1 := Lib.hid (Kd.C_below Hp_0.out hb1)
  have Hb_1 := Lib.hid (Kd.C_below Hb_0.out hb1)
  have Hall_1 := Lib.hid (below_step Hall_0.out hb1)
  clear Hp_0 Hb_0 Hall_0
  obtain ⟨A2, c2, rfl, hc2, hrd⟩ := ho1.reads
  rw [show l0.length = n0 from Kd.C_len Hp_1.out] at *
  have Hgiven_1 := Lib.hid (hrd)
  clear ho1 hb1 hrd
  go_wp2_with fail
  refine (Clone_calls A1 c1 l1 _ Hb_1.out hc1 (by omega)).mono ?_
  rintro e w2 ⟨v2, rfl, ho2, hb2⟩
  have Hp_2 := Lib.hid (Kd.C_below Hp_1.out hb2)
  have Hb_2 := Lib.hid (Kd.C_below Hb_1.out hb2)
  have Hall_2 := Lib.hid (below_step Hall_1.out hb2)
  have Hgiven_2 := Lib.hid (Kd.C_below Hgiven_1.out hb2)
  clear Hp_1 Hb_1 Hall_1 Hgiven_1
  obtain ⟨A3, c3, rfl, hc3, hrd⟩ := ho2.reads
  rw [show l1.length = n1 from Kd.C_len Hb_2.out] at *
  have Hmine_2 := Lib.hid (hrd)
  clear ho2 hb2 hrd
  go_wp2_with fail
  refine (Frame_calls A2 c2 l0 _ Hgiven_2.out (by omega)).mono ?_
  rintro e w3 ⟨v3, rfl, ho3, hb3⟩
  have Hp_3 := Lib.hid (Kd.C_below Hp_2.out hb3)
  have Hb_3 := Lib.hid (Kd.C_below Hb_2.out hb3)
  have Hall_3 := Lib.hid (below_step Hall_2.out hb3)
  have Hgiven_3 := Lib.hid (Kd.C_below Hgiven_2.out hb3)
  have Hmine_3 := Lib.hid (Kd.C_below Hmine_2.out hb3)
  clear Hp_2 Hb_2 Hall_2 Hgiven_2 Hmine_2
  rw [← HF1.out] at ho3
  rw [← HF2.out]
  obtain ⟨A4, c4, rfl, hc4, hrd⟩ := ho3.reads
  have Hf_3 := Lib.hid (hrd)
  clear ho3 hb3 hrd
  go_wp2_with fail
  refine (FrameRef_calls A0 c0 l0 _ Hp_3.out HY0.out (by omega)).mono ?_
  rintro e w4 ⟨v4, rfl, ho4, hb4⟩
  have Hp_4 := Lib.hid (Kd.C_below Hp_3.out hb4)
  have Hb_4 := Lib.hid (Kd.C_below Hb_3.out hb4)
  have Hall_4 := Lib.hid (below_step Hall_3.out hb4)
  have Hgiven_4 := Lib.hid (Kd.C_below Hgiven_3.out hb4)
  have Hmine_4 := Lib.hid (Kd.C_below Hmine_3.out hb4)
  have Hf_4 := Lib.hid (Kd.C_below Hf_3.out hb4)
  clear Hp_3 Hb_3 Hall_3 Hgiven_3 Hmine_3 Hf_3
  rw [← HF1.out] at ho4
  rw [← HF2.out]
  obtain ⟨A5, c5, rfl, hc5, hrd⟩ := ho4.reads
  have Hg_4 := Lib.hid (hrd)
  clear ho4 hb4 hrd
  have HK_p := Lib.hid (Hp_4.out)
  have HK_b := Lib.hid (Hb_4.out)
  have HK_given := Lib.hid (Hgiven_4.out)
  have HK_mine := Lib.hid (Hmine_4.out)
  have HK_all := Lib.hid (Hall_4.out)
  have Hsincex_4 := Lib.hid (Below.refl w4.heap.size w4)
  go_wp2_with fail
  refine (Unframe_calls A3 c3 l1 _ Hmine_4.out hc3 HY1.out (by omega)).mono ?_
  rintro e w5 ⟨v5, rfl, ho5, hb5⟩
  have Hp_5 := Lib.hid (Kd.C_below Hp_4.out hb5)
  have Hb_5 := Lib.hid (Kd.C_below Hb_4.out hb5)
  have Hall_5 := Lib.hid (below_step Hall_4.out hb5)
  have Hgiven_5 := Lib.hid (Kd.C_below Hgiven_4.out hb5)
  have Hmine_5 := Lib.hid (Kd.C_below Hmine_4.out hb5)
  have Hf_5 := Lib.hid (Kd.C_below Hf_4.out hb5)
  have Hg_5 := Lib.hid (Kd.C_below Hg_4.out hb5)
  have Hsincex_5 := Lib.hid (below_step Hsincex_4.out hb5)
  clear Hp_4 Hb_4 Hall_4 Hgiven_4 Hmine_4 Hf_4 Hg_4 Hsincex_4
  rw [← HU1.out] at ho5
  rw [← HU2.out, ← HU3.out]
  obtain ⟨A6, c6, rfl, hc6, hrd⟩ := ho5.reads
  have Hx_5 := Lib.hid (ho5)
  clear ho5 hb5 hrd
  go_wp2_with fail
  refine (UnframeRef_calls A1 c1 l1 _ Hb_5.out hc1 HY1.out (by omega)).mono ?_
  rintro e w6 ⟨v6, rfl, ho6, hb6⟩
  have Hp_6 := Lib.hid (Kd.C_below Hp_5.out hb6)
  have Hb_6 := Lib.hid (Kd.C_below Hb_5.out hb6)
  have Hall_6 := Lib.hid (below_step Hall_5.out hb6)
  have Hgiven_6 := Lib.hid (Kd.C_below Hgiven_5.out hb6)
  have Hmine_6 := Lib.hid (Kd.C_below Hmine_5.out hb6)
  have Hf_6 := Lib.hid (Kd.C_below Hf_5.out hb6)
  have Hg_6 := Lib.hid (Kd.C_below Hg_5.out hb6)
  have Hsincex_6 := Lib.hid (below_step Hsincex_5.out hb6)
  have Hx_6 := Lib.hid (Own.below Hx_5.out hb6)
  clear Hp_5 Hb_5 Hall_5 Hgiven_5 Hmine_5 Hf_5 Hg_5 Hsincex_5 Hx_5
  rw [← HU1.out] at ho6
  rw [← HU2.out, ← HU3.out]
  obtain ⟨A7, c7, rfl, hc7, hrd⟩ := ho6.reads
  have Hy_6 := Lib.hid (hrd)
  clear ho6 hb6 hrd
  go_wp2_with fail
  refine (Equal_true _ _ _ _ _ _ _ Hf_6.out Hg_6.out HBF.out rfl).mono ?_
  rintro e w7 ⟨rfl, hd7⟩
  have Hp_7 := Lib.hid (Kd.C_below Hp_6.out hd7.below)
  have Hb_7 := Lib.hid (Kd.C_below Hb_6.out hd7.below)
  have Hall_7 := Lib.hid (below_step Hall_6.out hd7.below)
  have Hgiven_7 := Lib.hid (Kd.C_below Hgiven_6.out hd7.below)
  have Hmine_7 := Lib.hid (Kd.C_below Hmine_6.out hd7.below)
  have Hf_7 := Lib.hid (Kd.C_below Hf_6.out hd7.below)
  have Hg_7 := Lib.hid (Kd.C_below Hg_6.out hd7.below)
  have Hsincex_7 := Lib.hid (below_step Hsincex_6.out hd7.below)
  have Hx_7 := Lib.hid (Own.below Hx_6.out hd7.below)
  have Hy_7 := Lib.hid (Kd.C_below Hy_6.out hd7.below)
  clear Hp_6 Hb_6 Hall_6 Hgiven_6 Hmine_6 Hf_6 Hg_6 Hsincex_6 Hx_6 Hy_6
  clear hd7
  clear Hf_7
  clear Hg_7
  go_wp2_with fail
  refine (Equal_true _ _ _ _ _ _ _ (Kd.R_reads' Hx_7.out).2.2 Hy_7.out HBU.out rfl).mono ?_
  rintro e w8 ⟨rfl, hd8⟩
  have Hp_8 := Lib.hid (Kd.C_below Hp_7.out hd8.below)
  have Hb_8 := Lib.hid (Kd.C_below Hb_7.out hd8.below)
  have Hall_8 := Lib.hid (below_step Hall_7.out hd8.below)
  have Hgiven_8 := Lib.hid (Kd.C_below Hgiven_7.out hd8.below)
  have Hmine_8 := Lib.hid (Kd.C_below Hmine_7.out hd8.below)
  have Hsincex_8 := Lib.hid (below_step Hsincex_7.out hd8.below)
  have Hx_8 := Lib.hid (Own.below Hx_7.out hd8.below)
  have Hy_8 := Lib.hid (Kd.C_below Hy_7.out hd8.below)
  clear Hp_7 Hb_7 Hall_7 Hgiven_7 Hmine_7 Hsincex_7 Hx_7 Hy_7
  clear hd8
  clear Hy_8
  go_wp2_with (at_builtin; refine app_one Hx_8.out Hsincex_8.out (by omega) rfl rfl rfl rfl ?_)
  intro v9 w9 ho9 hb9 _ _
  obtain ⟨l9, hl9⟩ : ∃ l9, l9 = up ++ [9] := ⟨_, rfl⟩
  have hlen9 : 0 < l9.length := by rw [hl9]; simp
  rw [← hl9] at ho9
  obtain ⟨g9, c9, rfl, hc9, hg9, hg9'⟩ := ho9.form hlen9
  obtain ⟨hx9, hf9⟩ := ho9.cell 0 hlen9
  have HB9 := Lib.hid hb9
  have HG9 := Lib.hid hg9
  clear hl9 ho9 hb9 hg9
  clear Hx_8
  clear Hsincex_8
  clear Hp_8
  clear Hb_8
  clear Hgiven_8
  clear Hmine_8
  clear Hall_8
  go_wp2_with fail
  generalize hW : w9.setCell { block := g9, off := 0 } (Value.int IntKind.u8 (bits BinOp.xor IntKind.u8 (rd l9 0) 255)) = wz
  have HZ := Lib.hid (show Below w4.heap.size w4 wz from hW ▸ below_set HB9.out HG9.out)
  clear hW hx9 hf9
  have HZp := Lib.hid (Kd.C_below HK_p.out HZ.out)
  have HZb := Lib.hid (Kd.C_below HK_b.out HZ.out)
  have HZg := Lib.hid (Kd.C_below HK_given.out HZ.out)
  have HZm := Lib.hid (Kd.C_below HK_mine.out HZ.out)
  have HZa := Lib.hid (below_step HK_all.out HZ.out)
  refine (Equal_true _ _ _ _ _ _ _ HZg.out HZp.out HY0.out rfl).mono ?_
  rintro e wy ⟨rfl, hdy⟩
  have HZm2 := Lib.hid (Kd.C_below HZm.out hdy.below)
  have HZb2 := Lib.hid (Kd.C_below HZb.out hdy.below)
  have HZa2 := Lib.hid (below_step HZa.out hdy.below)
  clear hdy
  go_wp2_with fail
  refine (Equal_true _ _ _ _ _ _ _ HZm2.out HZb2.out HY1.out rfl).mono ?_
  rintro e wq ⟨rfl, hdq⟩
  go_wp2
  go_ret
  exact ⟨rfl, below_step HZa2.out hdq.below⟩
theorem WireFrames_walk (A0 : Option Addr) (c0 : Nat) (l0 : List Int) (A1 : Option Addr) (c1 : Nat) (l1 : List Int) (w : World) (hr0 : Rd w A0 l0.length l0) (hc0 : l0.length ≤ c0) (hs0 : l0.length ≤ 140737488351232) (hb0 : Bytes l0) (hr1 : Rd w A1 l1.length l1) (hc1 : l1.length ≤ c1) (hs1 : l1.length ≤ 140737488351232) (hb1 : Bytes l1) :
    Calls Try.prog 7 #[.slice A0 l0.length c0, .slice A1 l1.length c1] w fun e w' => e = .returned (.bool true) ∧ Below w.heap.size w w' := by
  by_cases hbig : 262144 < l0.length ∨ 262144 < l1.length
  · exact WireFrames_early A0 _ c0 A1 _ c1 w hbig hs0 hs1
  · exact WireFrames_main A0 _ c0 l0 A1 _ c1 l1 w hr0 hc0 hb0 (by omega) hr1 hc1 hb1 (by omega)
end Go.Proofs.Ythbdgakeglppbaa
