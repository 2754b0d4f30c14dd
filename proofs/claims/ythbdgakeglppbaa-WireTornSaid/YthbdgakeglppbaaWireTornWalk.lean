/- WireTorn: the walk of the law. -/
import Derived.Test.YthbdgakeglppbaaTorn
import Derived.Test.YthbdgakeglppbaaInts
namespace Go.Proofs.Ythbdgakeglppbaa
open Go.RowKit Go.Proofs.YthbdgakeglppbaaW.PrintWords
set_option maxHeartbeats 800000 in
theorem WireTorn_early (A0 : Option Addr) (n0 c0 : Nat) (k x : Int) (w : World) (hbig : 65536 < n0) (hm0 : n0 ≤ 140737488351232) :
    Calls Try.prog 6 #[.slice A0 n0 c0, .int .i64 k, .int .i64 x] w fun e w' => e = .returned (.bool true) ∧ Below w.heap.size w w' := by
  have hd : decide (65536 < n0) = true := decide_eq_true hbig
  go_enter Try.func6, Try.ntmps6
  go_wp2_with fail
  refine (Frame_long A0 c0 _ hm0 hbig).mono ?_
  rintro e w1 ⟨rfl, hb1⟩
  have HB1 := Lib.hid hb1
  clear hb1
  go_wp2
  go_ret
  exact ⟨rfl, HB1.out⟩
set_option maxHeartbeats 1600000 in
theorem WireTorn_main (A0 : Option Addr) (n0 c0 : Nat) (l0 : List Int) (k x : Int) (w : World) (hr0 : Rd w A0 n0 l0) (hb0 : Bytes l0) (hl0 : n0 ≤ 65536) :
    Calls Try.prog 6 #[.slice A0 n0 c0, .int .i64 k, .int .i64 x] w fun e w' => e = .returned (.bool true) ∧ Below w.heap.size w w' := by
  have hd : decide (65536 < n0) = false := decide_eq_false (by omega)
  have hk0 := Kd.C_len hr0
  obtain ⟨fr, hfr⟩ : ∃ x, x = frameOf l0 := ⟨_, rfl⟩
  have hfl : fr.length = n0 + 7 := by rw [hfr, frame_length, hk0]
  have HBF := Lib.hid (show Bytes fr from hfr ▸ frame_Bytes l0 hb0)
  have HF := Lib.hid hfr
  have HFL := Lib.hid hfl
  have hf0 : 0 < fr.length := by omega
  have HL0 := Lib.hid hk0
  have HB0 := Lib.hid hb0
  clear hfr hk0 hfl hb0
  have Hp_0 := Lib.hid (hr0)
  have Hall_0 := Lib.hid (Below.refl w.heap.size w)
  clear hr0
  go_enter Try.func6, Try.ntmps6
  go_wp2_with fail
  refine (Frame_ok A0 c0 l0 _ Hp_0.out hl0).mono ?_
  rintro e w1 ⟨v1, rfl, ho1, hb1⟩
  have Hp_1 := Lib.hid (Kd.C_below Hp_0.out hb1)
  have Hall_1 := Lib.hid (below_step Hall_0.out hb1)
  clear Hp_0 Hall_0
  rw [← HF.out] at ho1
  obtain ⟨g1, c1, rfl, hc1, hg1, hg1'⟩ := ho1.form hf0
  have Hf_1 := Lib.hid (ho1)
  clear ho1 hb1
  rw [HFL.out]
  rw [show fr.length = n0 + 7 from HFL.out] at hc1
  obtain ⟨K, hK⟩ : ∃ K, K = IntKind.u64.wrap k := ⟨_, rfl⟩
  have hu1 := hK.symm
  have hK0 : 0 ≤ K := by rw [hK]; exact (u64_wrap_range k).1
  have hu2 : IntKind.u64.wrap ((n0 : Int) + 7) = n0 + 7 := u64_id (by omega) (by omega)
  obtain ⟨M, hM⟩ : ∃ M : Nat, (M : Int) = K % ((n0 : Int) + 7) := ⟨(K % ((n0 : Int) + 7)).toNat, by rw [Int.toNat_of_nonneg]; exact Int.emod_nonneg _ (by omega)⟩
  have hMlt : M < n0 + 7 := by have := Int.emod_lt_of_pos K (show (0 : Int) < n0 + 7 by omega); omega
  have hMlt2 : (M : Int) < (n0 : Int) + 7 := by omega
  have ht : K.tmod ((n0 : Int) + 7) = M := by rw [Int.tmod_eq_emod_of_nonneg hK0, hM]
  have hz : ¬ ((n0 : Int) + 7 = 0) := by omega
  have hzb : ((n0 : Int) + 7 == 0) = false := by simpa using hz
  have HK0 := Lib.hid hK0
  have HU1 := Lib.hid hu1
  clear hK hM hK0
  go_wp2_with fail
  refine (Unframe_calls _ c1 (fr.take M) _ (Rd.take (Rd.len (Kd.R_reads' Hf_1.out).2.2 HFL.out.symm) M (by omega)) (by omega) (HBF.out.tk M) (by omega)).mono ?_
  rintro e w2 ⟨v2, rfl, ho2, hb2⟩
  have Hp_2 := Lib.hid (Kd.C_below Hp_1.out hb2)
  have Hall_2 := Lib.hid (below_step Hall_1.out hb2)
  have Hf_2 := Lib.hid (Own.below Hf_1.out hb2)
  clear Hp_1 Hall_1 Hf_1
  rw [show unframe (fr.take M) = ([], 0, 2) by rw [HF.out]; exact unframe_take l0 (by rw [HL0.out]; omega) M (by rw [HL0.out]; exact hMlt)]
  clear hu1 ho2 hb2 hu2 ht hz hzb hMlt hMlt2
  have HBW := Lib.hid (Hall_2.out)
  go_wp2_with fail
  refine (Clone_calls _ c1 fr _ (Rd.len (Kd.R_reads' Hf_2.out).2.2 HFL.out.symm) hc1 (by omega)).mono ?_
  rintro e w3 ⟨v3, rfl, ho3, hb3⟩
  have Hp_3 := Lib.hid (Kd.C_below Hp_2.out hb3)
  have Hall_3 := Lib.hid (below_step Hall_2.out hb3)
  have Hf_3 := Lib.hid (Own.below Hf_2.out hb3)
  clear Hp_2 Hall_2 Hf_2
  obtain ⟨g3, c3, rfl, hc3, hg3, hg3'⟩ := ho3.form hf0
  rw [HFL.out]
  rw [show fr.length = n0 + 7 from HFL.out] at hc3 ho3
  have Hg_3 := Lib.hid (ho3)
  clear ho3 hb3
  clear Hf_3
  obtain ⟨I, hI⟩ : ∃ I : Nat, (I : Int) = K % ((n0 : Int) + 4) := ⟨(K % ((n0 : Int) + 4)).toNat, by rw [Int.toNat_of_nonneg]; exact Int.emod_nonneg _ (by omega)⟩
  have hIlt : I < n0 + 4 := by have := Int.emod_lt_of_pos K (show (0 : Int) < n0 + 4 by omega); omega
  have ht3 : K.tmod ((n0 : Int) + 4) = I := by rw [Int.tmod_eq_emod_of_nonneg HK0.out, hI]
  have hu1 := HU1.out
  have hu3 : IntKind.u64.wrap ((n0 : Int) + 4) = n0 + 4 := u64_id (by omega) (by omega)
  have hz3 : ¬ ((n0 : Int) + 4 = 0) := by omega
  obtain ⟨X, hX⟩ : ∃ X, X = IntKind.u64.wrap x := ⟨_, rfl⟩
  have hX0 : 0 ≤ X := by rw [hX]; exact (u64_wrap_range x).1
  have hv1 := hX.symm
  obtain ⟨Y, hY⟩ : ∃ Y : Nat, (Y : Int) = X % 255 := ⟨(X % 255).toNat, by omega⟩
  have hYlt : Y < 255 := by omega
  have ht4 : X.tmod 255 = Y := by rw [Int.tmod_eq_emod_of_nonneg hX0, hY]
  clear hX hY hI hX0
  have hil : (3 : Int) + I < (n0 : Int) + 7 := by omega
  have hil2 : 3 + I < n0 + 7 := by omega
  obtain ⟨hx3, hf3⟩ := Own.cell Hg_3.out (3 + I) hil2
  have hrb := bytes_rd HBF.out (3 + I) (by rw [HFL.out]; omega)
  have HNE := Lib.hid (xor8_ne (rd fr ((3 + I : Nat) : Int)) (1 + (Y : Int)) hrb.1 hrb.2 (by omega) (by omega))
  clear hrb
  go_wp2_with fail
  have HG4 := Lib.hid (Own.put Hg_3.out (3 + I) (bits BinOp.xor IntKind.u8 (rd fr ((3 + I : Nat) : Int)) (1 + (Y : Int))))
  have HA4 := Lib.hid (below_set (j := 3 + I) (v := Value.int IntKind.u8 (bits BinOp.xor IntKind.u8 (rd fr ((3 + I : Nat) : Int)) (1 + (Y : Int)))) Hall_3.out (Nat.le_trans HBW.out.size hg3))
  clear hx3 hf3 ht3 hu1 hu3 hz3 hv1 ht4
  refine (Unframe_calls (n := n0 + 7) _ c3 _ _ (Rd.len (Kd.R_reads' HG4.out).2.2 (by rw [List.length_set]; exact HFL.out.symm)) hc3 ?_ (by omega)).mono ?_
  · intro z hz
    rcases List.mem_or_eq_of_mem_set hz with h1 | h1
    · exact HBF.out z h1
    · rw [h1]; exact HNE.out.1
  rintro e w5 ⟨v5, rfl, ho5, hb5⟩
  rw [show unframe (fr.set (3 + I) (bits BinOp.xor IntKind.u8 (rd fr ((3 + I : Nat) : Int)) (1 + (Y : Int)))) = ([], 0, 11) by have hq := unframe_torn l0 HB0.out (by rw [HL0.out]; omega) I (by rw [HL0.out]; exact hIlt) (bits BinOp.xor IntKind.u8 (rd fr ((3 + I : Nat) : Int)) (1 + (Y : Int))) HNE.out.1.1 HNE.out.1.2 (by rw [← HF.out]; exact fun h => HNE.out.2 h.symm); rw [← HF.out] at hq; exact hq]
  have HA5 := Lib.hid (below_step HA4.out hb5)
  clear ho5 hb5
  go_wp2
  go_ret
  exact ⟨rfl, HA5.out⟩
theorem WireTorn_walk (A0 : Option Addr) (c0 : Nat) (l0 : List Int) (k x : Int) (w : World) (hr0 : Rd w A0 l0.length l0) (_hc0 : l0.length ≤ c0) (hs0 : l0.length ≤ 140737488351232) (hb0 : Bytes l0) (_hk : (Lit.int .i64 k).wf = true) (_hx : (Lit.int .i64 x).wf = true) :
    Calls Try.prog 6 #[.slice A0 l0.length c0, .int .i64 k, .int .i64 x] w fun e w' => e = .returned (.bool true) ∧ Below w.heap.size w w' := by
  by_cases hbig : 65536 < l0.length
  · exact WireTorn_early A0 _ c0 k x w hbig hs0
  · exact WireTorn_main A0 _ c0 l0 k x w hr0 hb0 (by omega)
end Go.Proofs.Ythbdgakeglppbaa
