/- WireNumbers: the walk of the law. -/
import Derived.Test.YthbdgakeglppbaaFormRef
import Derived.Test.YthbdgakeglppbaaEqual
namespace Go.Proofs.Ythbdgakeglppbaa
open Go.RowKit Go.Proofs.YthbdgakeglppbaaW.PrintWords
theorem numForm_7 : numForm 7 = [7] := by decide +kernel
set_option maxHeartbeats 1600000 in
theorem WireNumbers_early (A0 : Option Addr) (c0 : Nat) (l0 : List Int) (x : Int) (s : ByteArray) (w : World) (hbig : 262144 < l0.length ∨ 262144 < s.size) (hm0 : l0.length ≤ 9223372036854775807) (hm1 : s.size ≤ 140737488351232) :
    Calls Try.prog 5 #[.slice A0 l0.length c0, .int .i64 x, .string s] w fun e w' => e = .returned (.bool true) ∧ Below w.heap.size w w' := by
  have h7 := numForm_7
  have H7 := Lib.hid h7
  clear h7
  by_cases h1 : 262144 < l0.length
  case' pos =>
    have hd : decide (262144 < l0.length) = true := decide_eq_true h1
  case' neg =>
    have hd : decide (262144 < l0.length) = false := decide_eq_false h1
    have hd2 : decide (262144 < s.size) = true := decide_eq_true (by omega)
  all_goals
    go_enter Try.func5, Try.ntmps5
    go_wp2_with fail
    refine (Number_calls none 0 [] 7 _ (Kd.C_nil _ _) (by simp) (by omega) (by omega)).mono ?_
    rintro e w1 ⟨v1, rfl, ho1, hb1⟩
    obtain ⟨A, c, rfl, hc, hrd⟩ := (ho1.cast (show [] ++ numForm 7 = [7] by rw [H7.out]; rfl)).reads
    have HB1 := Lib.hid hb1
    clear ho1 hb1 hrd
    go_wp2
    go_ret
    exact ⟨rfl, HB1.out⟩
set_option maxHeartbeats 1600000 in
theorem WireNumbers_main (A0 : Option Addr) (c0 : Nat) (l0 : List Int) (x : Int) (s : ByteArray) (w : World) (hr0 : Rd w A0 l0.length l0) (hc0 : l0.length ≤ c0) (hb0 : Bytes l0) (hl0 : l0.length ≤ 262144) (hl1 : s.size ≤ 262144) (hx : -9223372036854775808 ≤ x) (hx1 : x ≤ 9223372036854775807) :
    Calls Try.prog 5 #[.slice A0 l0.length c0, .int .i64 x, .string s] w fun e w' => e = .returned (.bool true) ∧ Below w.heap.size w w' := by
  have hd : decide (262144 < l0.length) = false := decide_eq_false (by omega)
  have hd2 : decide (262144 < s.size) = false := decide_eq_false (by omega)
  have HR := Lib.hid hr0
  have HY := Lib.hid hb0
  have hnf := numForm_length x
  have htf : (textForm s).length ≤ 262144 + 9 := by have := numForm_length s.size; unfold textForm; rw [List.length_append, bytesOf_length]; omega
  obtain ⟨lx, hlx⟩ : ∃ lx, lx = l0 ++ numForm x := ⟨_, rfl⟩
  obtain ⟨ly, hly⟩ : ∃ ly, ly = l0 ++ textForm s := ⟨_, rfl⟩
  have hxl : 0 < lx.length ∧ lx.length ≤ 262144 + 9 := by rw [hlx, List.length_append]; omega
  have hyl : 0 < ly.length := by rw [hly, List.length_append]; have := numForm_length s.size; unfold textForm; rw [List.length_append]; omega
  have HN := Lib.hid (show Bytes lx from hlx ▸ HY.out.app (numForm_Bytes x))
  have HT := Lib.hid (show Bytes ly from hly ▸ HY.out.app (show Bytes (textForm s) from (numForm_Bytes _).app (Bytes_bytesOf s)))
  have HLX := Lib.hid hlx
  have HLY := Lib.hid hly
  clear hr0 hb0 hlx hly
  go_enter Try.func5, Try.ntmps5
  go_wp2_with fail
  refine (bytes_Clone.calls A0 c0 l0 l0 _ HR.out hc0 (if_pos (by omega))).mono ?_
  rintro e w1 ⟨v1, rfl, ho1, hb1⟩
  obtain ⟨A1, c1, rfl, hc1, hrd1⟩ := Own.reads ho1
  have HB1 := Lib.hid hb1
  have HR1 := Lib.hid hrd1
  have HO1 := Lib.hid ho1
  clear ho1 hb1 hrd1
  go_wp2_with fail
  refine (Number_calls A1 c1 l0 x _ HR1.out (by omega) hx hx1).mono ?_
  rintro e w2 ⟨v2, rfl, ho2, hb2⟩
  rw [← HLX.out] at ho2
  obtain ⟨g2, c2, rfl, hc2, hg2, hg2'⟩ := ho2.form hxl.1
  have HB2 := Lib.hid hb2
  have HO2 := Lib.hid ho2
  have HR2 := Lib.hid (Kd.C_below HR1.out hb2)
  clear ho2 hb2
  go_wp2_with fail
  refine (Text_calls A1 c1 l0 s _ HR2.out (by omega)).mono ?_
  rintro e w3 ⟨v3, rfl, ho3, hb3⟩
  rw [← HLY.out] at ho3
  obtain ⟨g3, c3, rfl, hc3, hg3, hg3'⟩ := ho3.form hyl
  have HB3 := Lib.hid hb3
  have HO3 := Lib.hid ho3
  have HR3 := Lib.hid (Kd.C_below HR2.out hb3)
  have HX3 := Lib.hid (HO2.out.below hb3)
  clear ho3 hb3 HR2 HO2
  have HQ3 := Lib.hid (Kd.C_below (Kd.C_below (Kd.C_below HR.out HB1.out) HB2.out) HB3.out)
  go_wp2_with fail
  refine (NumberRef_calls A0 c0 l0 x _ HQ3.out (by omega) hx hx1).mono ?_
  rintro e w4 ⟨v4, rfl, ho4, hb4⟩
  rw [← HLX.out] at ho4
  obtain ⟨A4, c4, rfl, hc4, hrd4⟩ := ho4.reads
  have HB4 := Lib.hid hb4
  have HR4 := Lib.hid hrd4
  have HX4 := Lib.hid (HX3.out.below hb4)
  have HO4 := Lib.hid (HO3.out.below hb4)
  have HR5 := Lib.hid (Kd.C_below HR3.out hb4)
  have HQ4 := Lib.hid (Kd.C_below HQ3.out hb4)
  clear ho4 hb4 hrd4 HR3 HX3 HO3 HQ3
  go_wp2_with fail
  refine (Equal_true _ _ _ _ _ _ _ (Kd.R_reads' HX4.out).2.2 HR4.out HN.out rfl).mono ?_
  rintro e w5 ⟨rfl, hd5⟩
  have HB5 := Lib.hid hd5.below
  have HX5 := Lib.hid (HX4.out.below HB5.out)
  have HO5 := Lib.hid (HO4.out.below HB5.out)
  have HR6 := Lib.hid (Kd.C_below HR5.out HB5.out)
  have HQ5 := Lib.hid (Kd.C_below HQ4.out HB5.out)
  clear hd5 HX4 HO4 HR5 HQ4 HR4
  go_wp2_with fail
  refine (TextRef_calls A0 c0 l0 s _ HQ5.out (by omega)).mono ?_
  rintro e w6 ⟨v6, rfl, ho6, hb6⟩
  rw [← HLY.out] at ho6
  obtain ⟨A6, c6, rfl, hc6, hrd6⟩ := ho6.reads
  have HB6 := Lib.hid hb6
  have HR7 := Lib.hid hrd6
  have HX6 := Lib.hid (HX5.out.below hb6)
  have HO6 := Lib.hid (HO5.out.below hb6)
  have HR8 := Lib.hid (Kd.C_below HR6.out hb6)
  have HQ6 := Lib.hid (Kd.C_below HQ5.out hb6)
  clear ho6 hb6 hrd6 HR6 HX5 HO5 HQ5
  go_wp2_with fail
  refine (Equal_true _ _ _ _ _ _ _ (Kd.R_reads' HO6.out).2.2 HR7.out HT.out rfl).mono ?_
  rintro e w7 ⟨rfl, hd7⟩
  have HB7 := Lib.hid hd7.below
  have HX7 := Lib.hid (HX6.out.below HB7.out)
  have HO7 := Lib.hid (HO6.out.below HB7.out)
  have HR9 := Lib.hid (Kd.C_below HR8.out HB7.out)
  have HQ7 := Lib.hid (Kd.C_below HQ6.out HB7.out)
  clear hd7 HX6 HO6 HR8 HQ6 HR7
  have HU := Lib.hid (below_step (below_step (below_step (below_step (below_step HB2.out HB3.out) HB4.out) HB5.out) HB6.out) HB7.out)
  go_wp2_with (at_builtin; refine app_one HX7.out HU.out (by omega) rfl rfl rfl rfl ?_)
  intro v8 w8 ho8 hb8 hg8 hat8
  obtain ⟨l8, hl8⟩ : ∃ l8, l8 = lx ++ [9] := ⟨_, rfl⟩
  have hlen8 : 0 < l8.length := by rw [hl8]; simp
  rw [← hl8] at ho8
  obtain ⟨g8, c8, rfl, hc8, hg8', hg8''⟩ := ho8.form hlen8
  obtain ⟨hx8, hf8⟩ := ho8.cell 0 hlen8
  have HY8 := Lib.hid (HO7.out.stay hg8 (by simp [Value.ownBlock]; omega))
  have hne : g8 ≠ g3 := by
    have h3 := HO7.out.lt g3 (by simp [Value.ownBlock])
    rcases hat8 with h | ⟨b, h, h'⟩
    · have : g8 = g2 := by simpa [Value.ownBlock] using h
      omega
    · have : g8 = b := by simpa [Value.ownBlock] using h
      omega
  have HNE := Lib.hid hne
  have HB8 := Lib.hid hb8
  have HG8 := Lib.hid hg8'
  clear hg8 hat8 hl8 ho8 hb8 hne HO7 HX7 HR9 HQ7 hg8'
  go_wp2_with fail
  generalize hW : w8.setCell { block := g8, off := 0 } (Value.int IntKind.u8 (bits BinOp.xor IntKind.u8 (rd l8 0) 255)) = w9
  have HB9 := Lib.hid (show Below w1.heap.size w1 w9 from hW ▸ below_set HB8.out HG8.out)
  have HY9 := Lib.hid (show Own w2 w9 _ ly from hW ▸ HY8.out.far (by simp [Value.ownBlock]; exact HNE.out) _)
  have HB09 := Lib.hid (below_step HB1.out HB9.out)
  clear hW HY8 HB8 hx8 hf8
  refine (Equal_true _ _ _ _ _ _ _ (Kd.C_below HR1.out HB9.out) (Kd.C_below HR.out HB09.out) HY.out rfl).mono ?_
  rintro e w10 ⟨rfl, hd10⟩
  have HY10 := Lib.hid (HY9.out.below hd10.below)
  have HB10 := Lib.hid (below_step HB09.out hd10.below)
  clear hd10 HY9
  go_wp2_with fail
  refine (TextRef_calls A0 c0 l0 s _ (Kd.C_below HR.out HB10.out) (by omega)).mono ?_
  rintro e w11 ⟨v11, rfl, ho11, hb11⟩
  rw [← HLY.out] at ho11
  obtain ⟨A11, c11, rfl, hc11, hrd11⟩ := ho11.reads
  have HY11 := Lib.hid (HY10.out.below hb11)
  have HB11 := Lib.hid (below_step HB10.out hb11)
  have HR11 := Lib.hid hrd11
  clear ho11 hb11 hrd11 HY10
  go_wp2_with fail
  refine (Equal_true _ _ _ _ _ _ _ (Kd.R_reads' HY11.out).2.2 HR11.out HT.out rfl).mono ?_
  rintro e w12 ⟨rfl, hd12⟩
  go_wp2
  go_ret
  exact ⟨rfl, below_step HB11.out hd12.below⟩
theorem int_wf {x : Int} (h : (Lit.int .i64 x).wf = true) : -9223372036854775808 ≤ x ∧ x ≤ 9223372036854775807 := by
  simp [Lit.wf, IntKind.min, IntKind.max, IntKind.signed, IntKind.bits] at h
  omega
theorem WireNumbers_walk (A0 : Option Addr) (c0 : Nat) (l0 : List Int) (x : Int) (s : ByteArray) (w : World) (hr0 : Rd w A0 l0.length l0) (hc0 : l0.length ≤ c0) (hs0 : l0.length ≤ 140737488351232) (hb0 : Bytes l0) (hx : (Lit.int .i64 x).wf = true) (hs1 : s.size ≤ 140737488351232) :
    Calls Try.prog 5 #[.slice A0 l0.length c0, .int .i64 x, .string s] w fun e w' => e = .returned (.bool true) ∧ Below w.heap.size w w' := by
  obtain ⟨h0, h1⟩ := int_wf hx
  by_cases hbig : 262144 < l0.length ∨ 262144 < s.size
  · exact WireNumbers_early A0 c0 l0 x s w hbig (by omega) hs1
  · exact WireNumbers_main A0 c0 l0 x s w hr0 hc0 hb0 (by omega) (by omega) h0 h1
end Go.Proofs.Ythbdgakeglppbaa
