/- DigestSame: the walk of the law. -/
import Derived.Test.YtfhnchabifklnaaDoorAwake
import Derived.Test.YtfhnchabifklnaaDoorSame
import Derived.Test.YtfhnchabifklnaaDoorSEqual
import Derived.Test.YtfhnchabifklnaaDoorClone
namespace Go.Proofs.YtfhnchabifklnaaDoor
open Go.RowKit Go.Proofs.YtfhnchabifklnaaDoorW.PrintWords
theorem xor_moves (a d : Int) (a0 : 0 ≤ a) (a1 : a < 256) (d0 : 1 ≤ d) (d1 : d < 256) : (0 ≤ bits .xor .u8 a d ∧ bits .xor .u8 a d < 256) ∧ bits .xor .u8 a d ≠ a := by
  have h := xor8_zero a d a0 a1 (by omega) d1
  refine ⟨h.1, fun e => ?_⟩
  obtain ⟨x, rfl⟩ := Int.eq_ofNat_of_zero_le a0
  obtain ⟨y, rfl⟩ := Int.eq_ofNat_of_zero_le (show 0 ≤ d by omega)
  rw [xor_u8 x y (by omega) (by omega)] at e
  have e2 : x ^^^ y = x := by omega
  have e3 : y = 0 := by
    have := congrArg (fun z => x ^^^ z) e2
    simpa [← Nat.xor_assoc] using this
  omega
set_option maxHeartbeats 1600000 in
theorem DigestSame_walk (A0 : Option Addr) (c0 : Nat) (l0 : List Int) (A1 : Option Addr) (c1 : Nat) (l1 : List Int) (k : Int) (w : World) (hG : Laid w) (hr0 : Kd.C (Kd.int .u8) w A0 l0.length l0) (hc0 : l0.length ≤ c0) (hs0 : l0.length ≤ 140737488351232) (hb0 : Bytes l0)
    (hr1 : Kd.C (Kd.int .u8) w A1 l1.length l1) (_hc1 : l1.length ≤ c1) (_hs1 : l1.length ≤ 140737488351232) (hb1 : Bytes l1) (_hk : (Lit.int .i64 k).wf = true) :
    Calls Tryd.prog 7 #[.slice A0 l0.length c0, .slice A1 l1.length c1, .int .i64 k] w fun e w' => e = .returned (.bool true) ∧ Below w.heap.size w w' := by
  have HR := Lib.hid (show Rd w A0 l0.length l0 ∧ Rd w A1 l1.length l1 ∧ Bytes l0 ∧ Bytes l1 ∧ Laid w from ⟨hr0, hr1, hb0, hb1, hG⟩)
  clear hr0 hr1 hb0 hb1 hG
  go_enter Tryd.func7, Tryd.ntmps7
  go_wp2_with fail
  refine (bytes_Clone.calls A0 c0 l0 l0 _ HR.out.1 hc0 (if_pos (by omega))).mono ?_
  rintro e w1 ⟨v1, rfl, ho1, hb1⟩
  replace ho1 : Own w w1 v1 l0 := ho1
  rcases Nat.eq_zero_or_pos l0.length with h0 | h0
  · obtain rfl : l0 = [] := List.eq_nil_of_length_eq_zero h0
    obtain ⟨A2, c2, rfl, _, hr2⟩ := ho1.reads
    have HB1 := Lib.hid hb1
    clear ho1 hb1 h0
    obtain ⟨b, hb⟩ : ∃ b, decide (([] : List Int) = l1) = b := ⟨_, rfl⟩
    have HD := Lib.hid hb
    have HR0 := Lib.hid (show Rd w A0 0 [] from HR.out.1)
    clear hb
    go_wp2_with (first
      | (go_at_call 11; with_reducible refine (awake_calls _ (HR.out.2.2.2.2.below HB4.out HR.out.2.2.2.2.lt)).mono ?_; rintro e w5 ⟨rfl, hb5⟩; have HB5 := Lib.hid (below_step HB4.out hb5); clear hb5)
      | (go_at_call 21; with_reducible refine (Same_calls _ _ [] _ _ [] _ (Kd.C_below HR0.out HB3.out) (Kd.C_below HR0.out HB3.out) HR.out.2.2.1 HR.out.2.2.1).mono ?_; rintro e w4 ⟨he4, hd4⟩; obtain rfl : e = .returned (.bool true) := (by rw [he4]; simp); have HB4 := Lib.hid (below_step HB3.out hd4.below); clear hd4)
      | (go_at_call 14; with_reducible refine (SEqual_calls _ _ [] _ _ l1 _ (Kd.C_below HR0.out HB2.out) (Kd.C_below HR.out.2.1 HB2.out) HR.out.2.2.1 HR.out.2.2.2.1).mono ?_; rintro e w3 ⟨rfl, hd3⟩; rw [HD.out]; have HB3 := Lib.hid (below_step HB2.out hd3.below); clear hd3)
      | (go_at_call 21; with_reducible refine (Same_calls _ _ [] _ _ l1 _ (Kd.C_below HR0.out HB1.out) (Kd.C_below HR.out.2.1 HB1.out) HR.out.2.2.1 HR.out.2.2.2.1).mono ?_; rintro e w2 ⟨rfl, hd2⟩; rw [HD.out]; have HB2 := Lib.hid (below_step HB1.out hd2.below); clear hd2))
    go_ret
    exact ⟨rfl, HB5.out⟩
  · obtain ⟨g, cap, rfl, hg, hgs, _⟩ := Kd.R_form ho1 h0
    obtain ⟨n, hn⟩ : ∃ n, n = l0.length := ⟨_, rfl⟩
    rw [← hn] at hc0 hs0 h0 ⊢
    rw [← hn] at ho1
    have HRN := Lib.hid (show Rd w A0 n l0 by rw [hn]; exact HR.out.1)
    obtain ⟨U, hU⟩ : ∃ U, IntKind.u64.wrap k = U := ⟨_, rfl⟩
    have hU0 : 0 ≤ U := by rw [← hU, IntKind.wrap_u64]; exact Int.emod_nonneg _ (by decide)
    have hU1 : U < 18446744073709551616 := by rw [← hU, IntKind.wrap_u64]; exact Int.emod_lt_of_pos _ (by decide)
    obtain ⟨j, hj⟩ : ∃ j : Nat, U % n = j := Int.eq_ofNat_of_zero_le (Int.emod_nonneg _ (by omega))
    have hjn : j < n := by have := Int.emod_lt_of_pos U (show (0 : Int) < n by omega); omega
    obtain ⟨d, hd⟩ : ∃ d, 1 + U % 255 = d := ⟨_, rfl⟩
    have hd1 : 1 ≤ d ∧ d < 256 := by omega
    have ho1' : Own w w1 (.slice (some ⟨g, 0, none⟩) n cap) l0 := ho1
    have hcell := Kd.R_celln (d := (0 : Int)) ho1' (j : Int) (by omega) (by omega)
    obtain ⟨a, ha⟩ : ∃ a, rd l0 (j : Int) = a := ⟨_, rfl⟩
    have har := bytes_rd HR.out.2.2.1 j (by omega)
    rw [ha] at har
    rw [show rdOf (0 : Int) l0 (j : Int) = a from ha, Int.toNat_natCast] at hcell
    obtain ⟨x, hx⟩ : ∃ x, bits .xor .u8 a d = x := ⟨_, rfl⟩
    have hxm := xor_moves a d har.1 har.2 hd1.1 hd1.2
    rw [hx] at hxm
    have hput := Kd.R_putg ho1' (j : Int) x
    rw [Int.toNat_natCast] at hput
    have hne : decide (l0 = l0.set j x) = false := by
      refine decide_eq_false fun e => hxm.2 ?_
      have h1 : rd (l0.set j x) (j : Int) = x := by
        rw [rd_get _ j (by rw [List.length_set]; omega)]
        exact List.getElem_set_self ..
      rw [← e, ha] at h1
      exact h1.symm
    have hby : Bytes (l0.set j x) := by
      intro z hz
      rcases List.mem_or_eq_of_mem_set hz with hz | rfl
      · exact HR.out.2.2.1 z hz
      · exact hxm.1
    obtain ⟨W2, hW2⟩ : ∃ W2, W2 = w1.setCell ⟨g, j, none⟩ (.int .u8 x) := ⟨_, rfl⟩
    have HB1 := Lib.hid (show Below w.heap.size w W2 by rw [hW2]; exact hb1.setCell hg _)
    have HX := Lib.hid (show Own w W2 (.slice (some ⟨g, 0, none⟩) n cap) (l0.set j x) ∧ Bytes (l0.set j x) ∧ decide (l0 = l0.set j x) = false ∧ l0.length = n from ⟨by rw [hW2]; exact hput.1, hby, hne, hn.symm⟩)
    have HW2 := Lib.hid hW2
    obtain ⟨c1', f1⟩ := hcell
    have w1' : IntKind.u64.wrap (n : Int) = n := u64_id (by omega) (by omega)
    have w2' : IntKind.i64.wrap (j : Int) = j := by rw [IntKind.wrap_i64]; omega
    have w3' : IntKind.u64.wrap (1 + U % 255) = d := by rw [hd]; exact u64_id (by omega) (by omega)
    have w4' : IntKind.u8.wrap d = d := by rw [IntKind.wrap_u8]; omega
    have t1 : U.tmod n = j := by rw [Int.tmod_eq_emod_of_nonneg hU0]; exact hj
    have t2 : U.tmod 255 = U % 255 := by rw [Int.tmod_eq_emod_of_nonneg hU0]
    have n0 : ((n : Int) == 0) = false := beq_eq_false_iff_ne.2 (by omega)
    have n0' : (n == 0) = false := beq_eq_false_iff_ne.2 (by omega)
    have dg : decide (0 < (n : Int)) = true := decide_eq_true (by omega)
    have dg' : decide (0 < n) = true := decide_eq_true h0
    have jn : (j : Int) < n := by omega
    clear ho1 ho1' hb1 hput hne hby hxm har ha hn hW2 hU0 hU1 hd1 hd
    go_upto_region 4 with (fail)
    rw [← HW2.out]
    clear w1' w2' w3' w4' t1 t2 c1' f1 hx hU hj
    obtain ⟨b, hb⟩ : ∃ b, decide (l0 = l1) = b := ⟨_, rfl⟩
    have HD := Lib.hid hb
    clear hb
    go_wp2_with (first
      | (go_at_call 11; with_reducible refine (awake_calls _ (HR.out.2.2.2.2.below HB5.out HR.out.2.2.2.2.lt)).mono ?_; rintro e w6 ⟨rfl, hb6⟩; have HB6 := Lib.hid (below_step HB5.out hb6); clear hb6)
      | (go_at_call 21; with_reducible refine (Same_calls _ _ l0 _ _ (l0.set j x) _ (Kd.C_below HRN.out HB4.out) HRW.out HR.out.2.2.1 HX.out.2.1).mono ?_; rintro e w5 ⟨rfl, hd5⟩; rw [HX.out.2.2.1]; have HB5 := Lib.hid (below_step HB4.out hd5.below); clear hd5)
      | (go_at_call 21; with_reducible refine (Same_calls _ _ l0 _ _ l0 _ (Kd.C_below HRN.out HB3.out) (Kd.C_below HRN.out HB3.out) HR.out.2.2.1 HR.out.2.2.1).mono ?_; rintro e w4 ⟨he4, hd4⟩; obtain rfl : e = .returned (.bool true) := (by rw [he4]; simp); have HB4 := Lib.hid (below_step HB3.out hd4.below); have ho4 := (HO3.out.below hd4.below); have HRW := Lib.hid (show Rd w4 (some ⟨g, 0, none⟩) n (l0.set j x) by have h1 := (Kd.R_reads' ho4).2.2; rw [List.length_set, HX.out.2.2.2] at h1; exact h1); clear hd4 ho4)
      | (go_at_call 14; with_reducible refine (SEqual_calls _ _ l0 _ _ l1 _ (Kd.C_below HRN.out HB2.out) (Kd.C_below HR.out.2.1 HB2.out) HR.out.2.2.1 HR.out.2.2.2.1).mono ?_; rintro e w3 ⟨rfl, hd3⟩; rw [HD.out]; have HB3 := Lib.hid (below_step HB2.out hd3.below); have HO3 := Lib.hid (HO2.out.below hd3.below); clear hd3)
      | (go_at_call 21; with_reducible refine (Same_calls _ _ l0 _ _ l1 _ (Kd.C_below HRN.out HB1.out) (Kd.C_below HR.out.2.1 HB1.out) HR.out.2.2.1 HR.out.2.2.2.1).mono ?_; rintro e w2 ⟨rfl, hd2⟩; rw [HD.out]; have HB2 := Lib.hid (below_step HB1.out hd2.below); have HO2 := Lib.hid (HX.out.1.below hd2.below); clear hd2))
    go_ret
    exact ⟨rfl, HB6.out⟩
end Go.Proofs.YtfhnchabifklnaaDoor
