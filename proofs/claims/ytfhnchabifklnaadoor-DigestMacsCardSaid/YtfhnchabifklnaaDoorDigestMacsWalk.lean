/- DigestMacs: the walk of the law. -/
import Derived.Test.YtfhnchabifklnaaDoorMacRef
import Derived.Test.YtfhnchabifklnaaDoorHashEq
import Derived.Test.YtfhnchabifklnaaDoorAwake
import Derived.Test.YtfhnchabifklnaaDoorSEqual
import Derived.Test.YtfhnchabifklnaaDoorClone
namespace Go.Proofs.YtfhnchabifklnaaDoor
open Go.RowKit Go.Proofs.YtfhnchabifklnaaDoorW.PrintWords
set_option maxRecDepth 20000 in
set_option maxHeartbeats 4000000 in
theorem DigestMacs_walk (A0 : Option Addr) (c0 : Nat) (l0 : List Int) (A1 : Option Addr) (c1 : Nat) (l1 : List Int) (w : World) (hG : Laid w) (hr0 : Kd.C (Kd.int .u8) w A0 l0.length l0) (hc0 : l0.length ≤ c0) (hs0 : l0.length ≤ 140737488351232) (hb0 : Bytes l0)
    (hr1 : Kd.C (Kd.int .u8) w A1 l1.length l1) (hc1 : l1.length ≤ c1) (hs1 : l1.length ≤ 140737488351232) (hb1 : Bytes l1) :
    Calls Tryd.prog 8 #[.slice A0 l0.length c0, .slice A1 l1.length c1] w fun e w' => e = .returned (.bool true) ∧ Below w.heap.size w w' := by
  obtain ⟨n0, hn0⟩ : ∃ n, n = l0.length := ⟨_, rfl⟩
  obtain ⟨n1, hn1⟩ : ∃ n, n = l1.length := ⟨_, rfl⟩
  have hcl0 := fun W (h : Rd W A0 l0.length l0) => bytes_Clone.calls A0 c0 l0 l0 W h hc0 (if_pos (by omega))
  have hcl1 := fun W (h : Rd W A1 l1.length l1) => bytes_Clone.calls A1 c1 l1 l1 W h hc1 (if_pos (by omega))
  rw [← hn0] at hr0 hcl0 ⊢
  rw [← hn1] at hr1 hcl1 ⊢
  have HI := Lib.hid (show Rd w A0 n0 l0 ∧ Rd w A1 n1 l1 ∧ Bytes l0 ∧ Bytes l1 ∧ Laid w ∧ n0 = l0.length ∧ n1 = l1.length from ⟨hr0, hr1, hb0, hb1, hG, hn0, hn1⟩)
  have HC0 := Lib.hid hcl0
  have HC1 := Lib.hid hcl1
  clear hr0 hr1 hb0 hb1 hG hn0 hn1 hcl0 hcl1 hs0 hs1 hc0 hc1
  go_enter Tryd.func8, Tryd.ntmps8
  by_cases hbig : 20000 < n1 ∨ 20000 < n0
  · have hpick : (decide (20000 < (n1 : Int)) = true) ∨ (decide (20000 < (n1 : Int)) = false ∧ decide (20000 < (n0 : Int)) = true) := by
      by_cases h : 20000 < n1
      · exact .inl (decide_eq_true (by omega))
      · exact .inr ⟨decide_eq_false (by omega), decide_eq_true (by omega)⟩
    rcases hpick with d1 | ⟨d1, d2⟩
    · have d1' : decide (20000 < n1) = true := by rw [decide_eq_true_eq] at d1 ⊢; omega
      clear hbig
      go_wp2_with (go_at_call 11; with_reducible refine (awake_calls _ HI.out.2.2.2.2.1).mono ?_; rintro e w6 ⟨rfl, hb6⟩; have HB6 := Lib.hid hb6; clear hb6)
      go_ret
      exact ⟨rfl, HB6.out⟩
    · have d1' : decide (20000 < n1) = false := by rw [decide_eq_false_iff_not] at d1 ⊢; omega
      have d2' : decide (20000 < n0) = true := by rw [decide_eq_true_eq] at d2 ⊢; omega
      clear hbig
      go_wp2_with (go_at_call 11; with_reducible refine (awake_calls _ HI.out.2.2.2.2.1).mono ?_; rintro e w6 ⟨rfl, hb6⟩; have HB6 := Lib.hid hb6; clear hb6)
      go_ret
      exact ⟨rfl, HB6.out⟩
  · have d1 : decide (20000 < (n1 : Int)) = false := decide_eq_false (by omega)
    have d2 : decide (20000 < (n0 : Int)) = false := decide_eq_false (by omega)
    have d1' : decide (20000 < n1) = false := decide_eq_false (by omega)
    have d2' : decide (20000 < n0) = false := decide_eq_false (by omega)
    have HN := Lib.hid (show n0 ≤ 20000 ∧ n1 ≤ 20000 from by omega)
    clear hbig
    go_wp2_with fail
    refine (HC0.out _ HI.out.1).mono ?_
    rintro e w1 ⟨v1, rfl, ho1, hb1⟩
    replace ho1 : Own w w1 v1 l0 := ho1
    obtain ⟨A2, c2, rfl, hc2, hr2⟩ := ho1.reads
    rw [← HI.out.2.2.2.2.2.1] at hc2 hr2 ⊢
    have HR1 := Lib.hid (show Rd w1 A2 n0 l0 ∧ n0 ≤ c2 ∧ Below w.heap.size w w1 ∧ Rd w1 A1 n1 l1 from ⟨hr2, hc2, hb1, Kd.C_below HI.out.2.1 hb1⟩)
    clear ho1 hc2 hr2 hb1
    go_wp2_with fail
    refine (HC1.out _ HR1.out.2.2.2).mono ?_
    rintro e w2 ⟨v2, rfl, ho2, hb2⟩
    replace ho2 : Own w1 w2 v2 l1 := ho2
    obtain ⟨A3, c3, rfl, hc3, hr3⟩ := ho2.reads
    rw [← HI.out.2.2.2.2.2.2] at hc3 hr3 ⊢
    have HR2 := Lib.hid (show Rd w2 A2 n0 l0 ∧ n0 ≤ c2 ∧ Rd w2 A3 n1 l1 ∧ Below w.heap.size w w2 ∧ Laid w2 from ⟨Kd.C_below HR1.out.1 hb2, HR1.out.2.1, hr3, below_step HR1.out.2.2.1 hb2, HI.out.2.2.2.2.1.below (below_step HR1.out.2.2.1 hb2) HI.out.2.2.2.2.1.lt⟩)
    clear ho2 hc3 hr3 hb2 HR1
    obtain ⟨M, hM⟩ : ∃ M, M = mac l0 l1 := ⟨_, rfl⟩
    have HM := Lib.hid (show M.length = 32 ∧ Bytes M ∧ M = mac l0 l1 from ⟨by rw [hM]; exact mac_length l0 l1, by rw [hM]; exact mac_Bytes l0 l1, hM⟩)
    clear hM
    go_wp2_with fail
    refine (Mac_calls A2 c2 l0 A3 c3 l1 _ HR2.out.1 HI.out.2.2.1 HR2.out.2.1 (by have := HN.out; omega) HR2.out.2.2.1 HI.out.2.2.2.1 (by have := HN.out; omega) HR2.out.2.2.2.2).mono ?_
    rintro e w3 ⟨rfl, hb3⟩
    rw [← HM.out.2.2]
    obtain ⟨g6, hg6⟩ : ∃ g6, g6 = w3.heap.size := ⟨_, rfl⟩
    obtain ⟨W4, hW4⟩ : ∃ W4, W4 = w3.alloc (.cells #[.int .u8 0, .int .u8 0, .int .u8 0, .int .u8 0, .int .u8 0, .int .u8 0, .int .u8 0, .int .u8 0, .int .u8 0, .int .u8 0, .int .u8 0, .int .u8 0, .int .u8 0, .int .u8 0, .int .u8 0, .int .u8 0, .int .u8 0, .int .u8 0, .int .u8 0, .int .u8 0, .int .u8 0, .int .u8 0, .int .u8 0, .int .u8 0, .int .u8 0, .int .u8 0, .int .u8 0, .int .u8 0, .int .u8 0, .int .u8 0, .int .u8 0, .int .u8 0] 31) := ⟨_, rfl⟩
    have hB4 : Below g6 w3 W4 := by rw [hW4, hg6]; exact below_alloc (Below.refl _ _) _
    have HL := Lib.hid (show Blk W4 g6 31 .u8 (List.replicate 32 0) ∧ Below w2.heap.size w2 W4 ∧ w2.heap.size ≤ g6 from ⟨by rw [hW4, hg6]; exact Blk.new w3 31 .u8 (List.replicate 32 0), hb3.trans (hB4.mono (by rw [hg6]; exact hb3.size)), by rw [hg6]; exact hb3.size⟩)
    have HS2 := Lib.hid (show g6 = w3.heap.size ∧ W4 = w3.alloc _ from ⟨hg6, hW4⟩)
    clear hB4 hg6 hW4 hb3
    go_upto_region 5 with (refine gate_ (.store 31 (.tmp 7) (.tmp 23)) rfl ?_; rw [← HS2.out.1, ← HS2.out.2]; refine store_blk2 (m := M) rfl rfl rfl rfl rfl HL.out.1 (by rw [HM.out.1]; rfl) (by rw [HM.out.1]; kernel_rfl) ?_; intro w5 hk5 hb5 hf5; have HF := Lib.hid (show Rd w5 (some ⟨g6, 0, none⟩) 32 M ∧ Below w2.heap.size w2 w5 ∧ Below w.heap.size w w5 from ⟨by have hr := hk5.row (by rw [HM.out.1]; decide); rw [HM.out.1] at hr; exact hr, hb5 _ _ HL.out.2.1 HL.out.2.2, below_step HR2.out.2.2.2.1 (hb5 _ _ HL.out.2.1 HL.out.2.2)⟩); clear hk5 hb5 hf5)
    have HFd := Lib.hid (show Rd w5.drew (some ⟨g6, 0, none⟩) 32 M ∧ Below w2.heap.size w2 w5.drew ∧ Below w.heap.size w w5.drew ∧ Rd w5.drew A0 n0 l0 ∧ Rd w5.drew A1 n1 l1 from ⟨Kd.C_below HF.out.1 (below_drew (Below.refl _ _)), below_drew HF.out.2.1, below_drew HF.out.2.2, Kd.C_below HI.out.1 (below_drew HF.out.2.2), Kd.C_below HI.out.2.1 (below_drew HF.out.2.2)⟩)
    go_region_with (first
      | (go_at_call 11; with_reducible refine (awake_calls _ (HI.out.2.2.2.2.1.below HB9.out HI.out.2.2.2.2.1.lt)).mono ?_; rintro e w10 ⟨rfl, hb10⟩; have HB10 := Lib.hid (below_step HB9.out hb10); clear hb10)
      | (go_at_call 14; with_reducible refine (SEqual_calls _ _ l0 _ _ l0 _ (Kd.C_below HR2.out.1 HB8.out.1) (Kd.C_below HI.out.1 HB8.out.2) HI.out.2.2.1 HI.out.2.2.1).mono ?_; rintro e w9 ⟨he9, hd9⟩; obtain rfl : e = .returned (.bool true) := (by rw [he9]; simp); have HB9 := Lib.hid (below_step HB8.out.2 hd9.below); clear hd9)
      | (go_at_call 14; with_reducible refine (SEqual_calls _ _ l1 _ _ l1 _ (Kd.C_below HR2.out.2.2.1 HB7.out.1) (Kd.C_below HI.out.2.1 HB7.out.2) HI.out.2.2.2.1 HI.out.2.2.2.1).mono ?_; rintro e w8 ⟨he8, hd8⟩; obtain rfl : e = .returned (.bool true) := (by rw [he8]; simp); have HB8 := Lib.hid (show Below w2.heap.size w2 w8 ∧ Below w.heap.size w w8 from ⟨below_step HB7.out.1 hd8.below, below_step HB7.out.2 hd8.below⟩); clear hd8)
      | (go_at_call 14; with_reducible refine (SEqual_calls _ _ M _ _ M _ HR6.out.1 HR6.out.2.1 HM.out.2.1 HM.out.2.1).mono ?_; rintro e w7 ⟨he7, hd7⟩; obtain rfl : e = .returned (.bool true) := (by rw [he7]; simp); have HB7 := Lib.hid (show Below w2.heap.size w2 w7 ∧ Below w.heap.size w w7 from ⟨below_step HR6.out.2.2.1 hd7.below, below_step HR6.out.2.2.2 hd7.below⟩); clear hd7)
      | (go_at_call 23; with_reducible refine (MacRef_calls A0 c0 l0 A1 c1 l1 w5.drew HFd.out.2.2.2.1 HI.out.2.2.1 (by have := HN.out; omega) HFd.out.2.2.2.2 HI.out.2.2.2.1 (by have := HN.out; omega)).mono ?_; rintro e w6 ⟨v6, rfl, ho6, hb6⟩; rw [← HM.out.2.2] at ho6; obtain ⟨A6, c6, rfl, _, hr6⟩ := ho6.reads; rw [HM.out.1] at hr6 ⊢; have HR6 := Lib.hid (show Rd w6 (some ⟨g6, 0, none⟩) 32 M ∧ Rd w6 A6 32 M ∧ Below w2.heap.size w2 w6 ∧ Below w.heap.size w w6 from ⟨Kd.C_below HFd.out.1 hb6, hr6, below_step HFd.out.2.1 hb6, below_step HFd.out.2.2.1 hb6⟩); clear ho6 hb6 hr6))
    all_goals
      go_wp2
      go_ret
      exact ⟨rfl, HB10.out⟩
end Go.Proofs.YtfhnchabifklnaaDoor
