/- WireBack: the walk of the law. -/
import Derived.Test.YthbdgakeglppbaaBackLaw
import Derived.Test.YthbdgakeglppbaaFrames1
import Derived.Test.YthbdgakeglppbaaConcat
import Derived.Test.YthbdgakeglppbaaInts
namespace Go.Proofs.Ythbdgakeglppbaa
open Go.RowKit Go.Proofs.YthbdgakeglppbaaW.PrintWords Go.Proofs.YthbdgakeglppbaaW.PrintMore
attribute [local go_sem] max2_int max_two
set_option maxHeartbeats 800000 in
theorem WireBack_early (x : Int) (s : ByteArray) (A2 : Option Addr) (n2 c2 : Nat) (A3 : Option Addr) (n3 c3 : Nat) (w : World) (hbig : 262144 < s.size ∨ 262144 < n2 ∨ 262144 < n3) (hm1 : s.size ≤ 140737488351232) :
    Calls Try.prog 17 #[.int .i64 x, .string s, .slice A2 n2 c2, .slice A3 n3 c3] w fun e w' => e = .returned (.bool true) ∧ Below w.heap.size w w' := by
  by_cases h1 : 262144 < s.size
  case' pos =>
    have hd : decide (262144 < s.size) = true := decide_eq_true h1
  case' neg =>
    have hd : decide (262144 < s.size) = false := decide_eq_false h1
    by_cases h2 : 262144 < n2
    case' pos =>
      have hd2 : decide (262144 < n2) = true := decide_eq_true h2
    case' neg =>
      have hd2 : decide (262144 < n2) = false := decide_eq_false h2
      have hd3 : decide (262144 < n3) = true := decide_eq_true (by omega)
  all_goals
    go_enter Try.func17, Try.ntmps17
    go_wp2_with fail
    refine (Sum_nil _).mono ?_
    rintro e w1 ⟨rfl, hd1⟩
    have HB1 := Lib.hid hd1.below
    clear hd1
    go_wp2
    go_ret
    exact ⟨rfl, HB1.out⟩
set_option maxRecDepth 20000 in
set_option maxHeartbeats 4000000 in
theorem WireBack_main (x : Int) (s : ByteArray) (A2 : Option Addr) (n2 c2 : Nat) (l2 : List Int) (A3 : Option Addr) (n3 c3 : Nat) (l3 : List Int) (w : World) (hx0 : -9223372036854775808 ≤ x) (hx1 : x ≤ 9223372036854775807) (hs1 : s.size ≤ 262144) (hr2 : Rd w A2 n2 l2) (hb2 : Bytes l2) (hl2 : n2 ≤ 262144) (hr3 : Rd w A3 n3 l3) (hb3 : Bytes l3) (hl3 : n3 ≤ 262144) :
    Calls Try.prog 17 #[.int .i64 x, .string s, .slice A2 n2 c2, .slice A3 n3 c3] w fun e w' => e = .returned (.bool true) ∧ Below w.heap.size w w' := by
  have hd : decide (262144 < s.size) = false := decide_eq_false (by omega)
  have hd2 : decide (262144 < n2) = false := decide_eq_false (by omega)
  have hd3 : decide (262144 < n3) = false := decide_eq_false (by omega)
  have HR2 := Lib.hid hr2
  have HR3 := Lib.hid hr3
  have HY2 := Lib.hid hb2
  have HY3 := Lib.hid hb3
  have HL2 := Lib.hid (Kd.C_len hr2)
  have HL3 := Lib.hid (Kd.C_len hr3)
  have hnl := numForm_length x
  have htl := numForm_length s.size
  have htl2 : (textForm s).length = (numForm s.size).length + s.size := by unfold textForm; rw [List.length_append, bytesOf_length]
  obtain ⟨F, hF⟩ : ∃ F, F = numForm x := ⟨_, rfl⟩
  obtain ⟨G, hG⟩ : ∃ G, G = textForm s := ⟨_, rfl⟩
  obtain ⟨L, hLe⟩ : ∃ L, L = F ++ G ++ l3 := ⟨_, rfl⟩
  obtain ⟨N, hN⟩ : ∃ N, (if x < 0 then 0 else x) = N := ⟨_, rfl⟩
  have hLL : L.length = F.length + G.length + n3 := by rw [hLe, List.length_append, List.length_append, HL3.out]
  have hYL : Bytes L := by rw [hLe, hF, hG]; exact ((numForm_Bytes _).app ((numForm_Bytes _).app (Bytes_bytesOf s))).app hb3
  have hN1 := readNum_put x (by omega) (G ++ l3)
  have hT1 := readText_put s (by omega) l3
  rw [hN, ← hF, ← List.append_assoc, ← hLe] at hN1
  rw [← hG] at hT1
  have hdr : L.drop F.length = G ++ l3 := by rw [hLe, List.append_assoc, List.drop_left]
  have hdr2 : L.drop (F.length + G.length) = l3 := by rw [hLe, ← List.length_append, List.drop_left]
  rw [← hdr] at hT1
  rw [← hF] at hnl
  rw [← hG] at htl2
  have HF := Lib.hid hF
  have HG := Lib.hid hG
  have HLe := Lib.hid hLe
  have HLL := Lib.hid hLL
  have HYL := Lib.hid hYL
  have HN1 := Lib.hid hN1
  have HT1 := Lib.hid hT1
  have HD2 := Lib.hid hdr2
  have hsl : strOfNums (bytesOf s) = s := strOf_bytes s
  have HSL := Lib.hid hsl
  clear hF hG hLe hLL hYL hN1 hT1 hdr hdr2 hr2 hb2 hr3 hb3 hsl
  go_enter Try.func17, Try.ntmps17
  go_wp2_with fail
  refine (Number_calls none 0 [] x _ (Kd.C_nil _ _) (by simp) hx0 hx1).mono ?_
  rintro e w1 ⟨v1, rfl, ho1, hb1⟩
  rw [List.nil_append, ← HF.out] at ho1
  obtain ⟨A1, c1, rfl, hc1, hrd1⟩ := ho1.reads
  have HB1 := Lib.hid hb1
  have HR1 := Lib.hid hrd1
  clear ho1 hb1 hrd1
  go_wp2_with fail
  refine (Text_calls A1 c1 F s _ HR1.out (by omega)).mono ?_
  rintro e w2 ⟨v2, rfl, ho2, hb2⟩
  rw [← HG.out] at ho2
  have HO2 := Lib.hid ho2
  have HQ2 := Lib.hid hb2
  have HB2 := Lib.hid (below_step HB1.out hb2)
  clear ho2 hb2 HR1
  go_wp2_with (at_builtin; refine app_row HO2.out (Kd.C_below HR3.out HB2.out) HQ2.out (by rw [List.length_append]; omega) rfl rfl rfl rfl ?_)
  intro v3 w3 ho3 hb3 _ _
  replace ho3 := ho3.cast (show _ = L by rw [HLe.out]; simp only [List.append_assoc])
  have HB3 := Lib.hid (below_step HB1.out hb3)
  obtain ⟨A3', c3', rfl, hc3', hrd3⟩ := ho3.reads
  have HR3' := Lib.hid hrd3
  clear ho3 hb3 hrd3 HO2 HQ2 HB1 HB2
  go_wp2_with fail
  refine (From_calls A3' c3' L _ HR3'.out (by rw [HLL.out]; omega)).mono ?_
  rintro e w4 ⟨g4, p4, A4, c4, rfl, hcur, hg, hp, hA, hb⟩
  have H4 := Lib.hid hcur
  have HP4 := Lib.hid (Nat.le_trans HB3.out.size hp)
  have HB4 := Lib.hid (below_step HB3.out hb)
  clear hcur hg hp hA hb HB3 HR3'
  go_wp2_with fail
  refine (CNumber_calls _ H4.out HYL.out).mono ?_
  rintro e w5 ⟨rfl, hcur, hg⟩
  rw [List.drop_zero, HN1.out, Nat.zero_add, Int.toNat_natCast] at hcur
  rw [List.drop_zero, HN1.out]
  have HB5 := Lib.hid (HB4.out.grown hg HB4.out.size (fun k hk => by cases hk; exact HP4.out))
  have H5 := Lib.hid hcur
  clear hcur hg HB4 H4
  go_wp2_with fail
  refine (CText_calls s.size _ H5.out HYL.out).mono ?_
  rintro e w6 ⟨rfl, hcur, hg⟩
  rw [HT1.out] at hcur
  rw [HT1.out, HSL.out]
  have HB6 := Lib.hid (HB5.out.grown hg HB5.out.size (fun k hk => by cases hk; exact HP4.out))
  have H6 := Lib.hid hcur
  clear hcur hg HB5 H5
  go_wp2_with fail
  refine (Rest_calls _ H6.out (by rw [HLL.out]; omega)).mono ?_
  rintro e w7 ⟨v7, rfl, ho7, hcur, hg⟩
  rw [HD2.out] at ho7
  have HB7 := Lib.hid (HB6.out.grown hg HB6.out.size (fun k hk => by cases hk; exact HP4.out))
  obtain ⟨A7, c7, rfl, hc7, hrd7⟩ := ho7.reads
  rw [HL3.out] at hc7 hrd7 ⊢
  have H7 := Lib.hid hcur
  have HR7 := Lib.hid hrd7
  clear ho7 hcur hg hrd7 HB6 H6
  go_wp2_with fail
  refine (Equal_true _ _ l3 _ _ l3 _ HR7.out (Kd.C_below HR3.out HB7.out) HY3.out rfl).mono ?_
  rintro e w8 ⟨rfl, hd8⟩
  have HB8 := Lib.hid (below_step HB7.out hd8.below)
  have H8 := Lib.hid (H7.out.below hd8.below)
  clear hd8 HB7 H7 HR7
  go_wp2_with fail
  refine (End_ok _ H8.out rfl).mono ?_
  rintro e w9 ⟨rfl, hd9⟩
  have HB9 := Lib.hid (below_step HB8.out hd9.below)
  clear hd9 HB8 H8
  by_cases hbig : 65536 < n2
  · have hdb : decide (65536 < n2) = true := decide_eq_true hbig
    go_wp2_with fail
    refine (Frame_long A2 c2 _ (by omega) hbig).mono ?_
    rintro e w10 ⟨rfl, hb10⟩
    have HB10 := Lib.hid (below_step HB9.out hb10)
    clear hb10 HB9
    go_wp2
    go_ret
    exact ⟨rfl, HB10.out⟩
  · have hdb : decide (65536 < n2) = false := decide_eq_false hbig
    have hU := unframe_put l2 l3 (by rw [HL2.out]; omega)
    rw [HL2.out] at hU
    have HU := Lib.hid hU
    have HFL := Lib.hid (frame_length l2)
    rw [HL2.out] at HFL
    have HYF := Lib.hid (frame_Bytes l2 HY2.out)
    clear hU
    obtain ⟨Fr, hFr⟩ : ∃ Fr, Fr = frameOf l2 := ⟨_, rfl⟩
    rw [← hFr] at HU HFL HYF
    have HFr := Lib.hid hFr
    clear hFr
    go_wp2_with fail
    refine (Frame_ok A2 c2 l2 _ (Kd.C_below HR2.out HB9.out) (by omega)).mono ?_
    rintro e w10 ⟨v10, rfl, ho10, hb10⟩
    rw [← HFr.out] at ho10
    obtain ⟨A10, c10, rfl, hc10, hrd10⟩ := ho10.reads
    rw [HFL.out] at hc10 hrd10 ⊢
    have HB10 := Lib.hid (below_step HB9.out hb10)
    have HR10 := Lib.hid hrd10
    clear ho10 hb10 hrd10 HB9
    go_wp2_with fail
    have hq : Below w10.heap.size w10 (w10.alloc (.cells #[.slice A10 (n2 + 7) c10, .slice A3 n3 c3] 22)) := below_alloc (Below.refl _ _) _
    refine (Concat_calls (n0 := n2 + 7) (n1 := n3) A10 c10 Fr A3 c3 l3 _ _ (Kd.C_below HR10.out hq) (Kd.C_below HR3.out (below_step HB10.out hq)) ?_ ?_ (by omega)).mono ?_
    · go_simp
    · go_simp
    rintro e w11 ⟨v11, rfl, ho11, hb11⟩
    obtain ⟨M, hM⟩ : ∃ M, M = Fr ++ l3 := ⟨_, rfl⟩
    rw [← hM] at ho11 HU
    obtain ⟨A11, c11, rfl, hc11, hrd11⟩ := ho11.reads
    have HML := Lib.hid (show M.length = n2 + 7 + n3 by rw [hM, List.length_append, HFL.out, HL3.out])
    have HYM := Lib.hid (show Bytes M from hM ▸ HYF.out.app HY3.out)
    have HB11 := Lib.hid (below_step HB10.out (below_step hq hb11))
    have HR11 := Lib.hid hrd11
    clear ho11 hb11 hrd11 hM hq HB10 HR10
    go_wp2_with fail
    refine (Unframe_calls A11 c11 M _ HR11.out hc11 HYM.out (by rw [HML.out]; omega)).mono ?_
    rintro e w12 ⟨v12, rfl, ho12, hb12⟩
    rw [HU.out] at ho12 ⊢
    obtain ⟨A12, c12, rfl, hc12, hrd12⟩ := ho12.reads
    rw [HL2.out] at hc12 hrd12 ⊢
    have HB12 := Lib.hid (below_step HB11.out hb12)
    have HR12 := Lib.hid hrd12
    clear ho12 hb12 hrd12 HB11 HR11
    go_wp2_with fail
    refine (Equal_true _ _ l2 _ _ l2 _ HR12.out (Kd.C_below HR2.out HB12.out) HY2.out rfl).mono ?_
    rintro e w13 ⟨rfl, hd13⟩
    have HB13 := Lib.hid (below_step HB12.out hd13.below)
    clear hd13 HB12
    have wr7 : IntKind.i64.wrap ((n2 : Int) + 7) = n2 + 7 := wrap_id (by omega) (by omega)
    go_wp2
    go_ret
    exact ⟨rfl, HB13.out⟩
theorem WireBack_walk (x : Int) (s : ByteArray) (A2 : Option Addr) (c2 : Nat) (l2 : List Int) (A3 : Option Addr) (c3 : Nat) (l3 : List Int) (w : World) (hw0 : (Lit.int .i64 x).wf = true) (hs1 : s.size ≤ 140737488351232) (hr2 : Rd w A2 l2.length l2) (_hc2 : l2.length ≤ c2) (_hs2 : l2.length ≤ 140737488351232) (hb2 : Bytes l2) (hr3 : Rd w A3 l3.length l3) (_hc3 : l3.length ≤ c3) (_hs3 : l3.length ≤ 140737488351232) (hb3 : Bytes l3) :
    Calls Try.prog 17 #[.int .i64 x, .string s, .slice A2 l2.length c2, .slice A3 l3.length c3] w fun e w' => e = .returned (.bool true) ∧ Below w.heap.size w w' := by
  obtain ⟨hx0, hx1⟩ := int_wf hw0
  by_cases hbig : 262144 < s.size ∨ 262144 < l2.length ∨ 262144 < l3.length
  · exact WireBack_early x s A2 _ c2 A3 _ c3 w hbig hs1
  · exact WireBack_main x s A2 _ c2 l2 A3 _ c3 l3 w hx0 hx1 (by omega) hr2 hb2 (by omega) hr3 hb3 (by omega)
end Go.Proofs.Ythbdgakeglppbaa
