/- DigestLong: the walk of the law. -/
import Derived.Test.YtfhnchabifklnaaDoorSha256Ref
import Derived.Test.YtfhnchabifklnaaDoorAwake
import Derived.Test.YtfhnchabifklnaaDoorSEqual
import Derived.Test.YtfhnchabifklnaaDoorClone
namespace Go.Proofs.YtfhnchabifklnaaDoor
open Go.RowKit Go.Proofs.YtfhnchabifklnaaDoorW.PrintWords
set_option maxRecDepth 20000 in
set_option maxHeartbeats 4000000 in
theorem DigestLong_walk (A0 : Option Addr) (c0 : Nat) (l0 : List Int) (w : World) (hG : Laid w) (hr0 : Kd.C (Kd.int .u8) w A0 l0.length l0) (hc0 : l0.length ≤ c0) (hs0 : l0.length ≤ 140737488351232) (hb0 : Bytes l0) :
    Calls Tryd.prog 4 #[.slice A0 l0.length c0] w fun e w' => e = .returned (.bool true) ∧ Below w.heap.size w w' := by
  obtain ⟨n0, hn0⟩ : ∃ n, n = l0.length := ⟨_, rfl⟩
  have hcl := fun W (h : Rd W A0 l0.length l0) => bytes_Clone.calls A0 c0 l0 l0 W h hc0 (if_pos (by omega))
  rw [← hn0] at hr0 hc0 hcl ⊢
  have HI := Lib.hid (show Rd w A0 n0 l0 ∧ Bytes l0 ∧ Laid w ∧ n0 = l0.length from ⟨hr0, hb0, hG, hn0⟩)
  have HCL := Lib.hid hcl
  clear hr0 hb0 hG hn0 hcl hs0
  go_enter Tryd.func4, Tryd.ntmps4
  by_cases hbig : 20000 < n0
  · have d1 : decide (20000 < (n0 : Int)) = true := decide_eq_true (by omega)
    have d1' : decide (20000 < n0) = true := decide_eq_true hbig
    go_wp2_with (go_at_call 11; with_reducible refine (awake_calls _ HI.out.2.2.1).mono ?_; rintro e w6 ⟨rfl, hb6⟩; have HB6 := Lib.hid hb6; clear hb6)
    go_ret
    exact ⟨rfl, HB6.out⟩
  · have d1 : decide (20000 < (n0 : Int)) = false := decide_eq_false (by omega)
    have d1' : decide (20000 < n0) = false := decide_eq_false hbig
    go_wp2_with fail
    refine (HCL.out _ HI.out.1).mono ?_
    rintro e w1 ⟨v1, rfl, ho1, hb1⟩
    replace ho1 : Own w w1 v1 l0 := ho1
    obtain ⟨A1, c1, rfl, hc1, hr1⟩ := ho1.reads
    rw [← HI.out.2.2.2] at hc1 hr1 ⊢
    have HR1 := Lib.hid (show Rd w1 A1 n0 l0 ∧ n0 ≤ c1 ∧ Below w.heap.size w w1 from ⟨hr1, hc1, hb1⟩)
    have HN := Lib.hid (show n0 ≤ 20000 by omega)
    clear ho1 hc1 hr1 hb1 hbig
    go_wp2_with fail
    refine (Sha256_calls A1 c1 l0 _ HR1.out.1 HI.out.2.1 HR1.out.2.1 (by have := HN.out; omega) (HI.out.2.2.1.below HR1.out.2.2 HI.out.2.2.1.lt)).mono ?_
    rintro e w2 ⟨rfl, hb2⟩
    obtain ⟨g4, hg4⟩ : ∃ g4, g4 = w2.heap.size := ⟨_, rfl⟩
    obtain ⟨W3, hW3⟩ : ∃ W3, W3 = w2.alloc (.cells #[.int .u8 0, .int .u8 0, .int .u8 0, .int .u8 0, .int .u8 0, .int .u8 0, .int .u8 0, .int .u8 0, .int .u8 0, .int .u8 0, .int .u8 0, .int .u8 0, .int .u8 0, .int .u8 0, .int .u8 0, .int .u8 0, .int .u8 0, .int .u8 0, .int .u8 0, .int .u8 0, .int .u8 0, .int .u8 0, .int .u8 0, .int .u8 0, .int .u8 0, .int .u8 0, .int .u8 0, .int .u8 0, .int .u8 0, .int .u8 0, .int .u8 0, .int .u8 0] 31) := ⟨_, rfl⟩
    have hB3 : Below g4 w2 W3 := by rw [hW3, hg4]; exact below_alloc (Below.refl _ _) _
    have HL := Lib.hid (show Blk W3 g4 31 .u8 (List.replicate 32 0) ∧ Below w1.heap.size w1 W3 ∧ w1.heap.size ≤ g4 from ⟨by rw [hW3, hg4]; exact Blk.new w2 31 .u8 (List.replicate 32 0), hb2.trans (hB3.mono (by rw [hg4]; exact hb2.size)), by rw [hg4]; exact hb2.size⟩)
    have HS2 := Lib.hid (show g4 = w2.heap.size ∧ W3 = w2.alloc _ from ⟨hg4, hW3⟩)
    clear hB3 hg4 hW3 hb2
    go_upto_region 5 with (refine gate_ (.store 31 (.tmp 4) (.tmp 12)) rfl ?_; rw [← HS2.out.1, ← HS2.out.2]; refine store_blk2 (m := sha2 l0) rfl rfl rfl rfl rfl HL.out.1 rfl (by kernel_rfl) ?_; intro w5 hk5 hb5 hf5; have HF := Lib.hid (show Rd w5 (some ⟨g4, 0, none⟩) 32 (sha2 l0) ∧ Below w1.heap.size w1 w5 ∧ Below w.heap.size w w5 from ⟨by have hr := hk5.row (by rw [sha2_length]; decide); rw [sha2_length] at hr; exact hr, hb5 _ _ HL.out.2.1 HL.out.2.2, below_step HR1.out.2.2 (hb5 _ _ HL.out.2.1 HL.out.2.2)⟩); clear hk5 hb5 hf5)
    have HFd := Lib.hid (show Rd w5.drew (some ⟨g4, 0, none⟩) 32 (sha2 l0) ∧ Below w1.heap.size w1 w5.drew ∧ Below w.heap.size w w5.drew from ⟨Kd.C_below HF.out.1 (below_drew (Below.refl _ _)), below_drew HF.out.2.1, below_drew HF.out.2.2⟩)
    go_region_with (first
      | (go_at_call 11; with_reducible refine (awake_calls _ (HI.out.2.2.1.below HB8.out HI.out.2.2.1.lt)).mono ?_; rintro e w9 ⟨rfl, hb9⟩; have HB9 := Lib.hid (below_step HB8.out hb9); clear hb9)
      | (go_at_call 14; with_reducible refine (SEqual_calls _ _ l0 _ _ l0 _ (Kd.C_below HR1.out.1 HB7.out.1) (Kd.C_below HI.out.1 HB7.out.2) HI.out.2.1 HI.out.2.1).mono ?_; rintro e w8 ⟨he8, hd8⟩; obtain rfl : e = .returned (.bool true) := (by rw [he8]; simp); have HB8 := Lib.hid (below_step HB7.out.2 hd8.below); clear hd8)
      | (go_at_call 14; with_reducible refine (SEqual_calls _ _ (sha2 l0) _ _ (sha2 l0) _ HR6.out.1 HR6.out.2.1 (sha2_Bytes l0) (sha2_Bytes l0)).mono ?_; rintro e w7 ⟨he7, hd7⟩; obtain rfl : e = .returned (.bool true) := (by rw [he7]; simp); have HB7 := Lib.hid (show Below w1.heap.size w1 w7 ∧ Below w.heap.size w w7 from ⟨below_step HR6.out.2.2.1 hd7.below, below_step HR6.out.2.2.2 hd7.below⟩); clear hd7)
      | (go_at_call 17; with_reducible refine (Sha256Ref_calls A0 c0 l0 w5.drew (Kd.C_below HI.out.1 HFd.out.2.2) HI.out.2.1 hc0 (by have := HN.out; omega)).mono ?_; rintro e w6 ⟨v6, rfl, ho6, hb6⟩; obtain ⟨A6, c6, rfl, _, hr6⟩ := ho6.reads; rw [sha2_length] at hr6 ⊢; have HR6 := Lib.hid (show Rd w6 (some ⟨g4, 0, none⟩) 32 (sha2 l0) ∧ Rd w6 A6 32 (sha2 l0) ∧ Below w1.heap.size w1 w6 ∧ Below w.heap.size w w6 from ⟨Kd.C_below HFd.out.1 hb6, hr6, below_step HFd.out.2.1 hb6, below_step HFd.out.2.2 hb6⟩); clear ho6 hb6 hr6))
    all_goals
      go_wp2
      go_ret
      exact ⟨rfl, HB9.out⟩
end Go.Proofs.YtfhnchabifklnaaDoor
