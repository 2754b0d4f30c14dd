/- DigestKeys: the walk of the law. -/
import Derived.Test.YtfhnchabifklnaaDoorHashEq
import Derived.Test.YtfhnchabifklnaaDoorConcatD
namespace Go.Proofs.YtfhnchabifklnaaDoor
open Go.RowKit Go.Proofs.YtfhnchabifklnaaDoorW.PrintWords
theorem two_new (w : World) (x y : Value) (t : TypeId) : (w.alloc (.cells #[x, y] t)).cell? ⟨w.heap.size, 0, none⟩ = some x ∧ (w.alloc (.cells #[x, y] t)).cell? ⟨w.heap.size, 1, none⟩ = some y := by
  have h : (w.alloc (.cells #[x, y] t)).heap[w.heap.size]? = some (.cells #[x, y] t) := by
    show (w.heap.push _)[w.heap.size]? = _
    simp
  unfold World.cell?
  rw [h]
  exact ⟨rfl, rfl⟩
set_option maxRecDepth 20000 in
set_option maxHeartbeats 4000000 in
theorem DigestKeys_walk (A0 : Option Addr) (c0 : Nat) (l0 : List Int) (A1 : Option Addr) (c1 : Nat) (l1 : List Int) (k : Int) (w : World) (hG : Laid w) (hr0 : Kd.C (Kd.int .u8) w A0 l0.length l0) (hc0 : l0.length ≤ c0) (_hs0 : l0.length ≤ 140737488351232) (hb0 : Bytes l0)
    (hr1 : Kd.C (Kd.int .u8) w A1 l1.length l1) (_hc1 : l1.length ≤ c1) (_hs1 : l1.length ≤ 140737488351232) (hb1 : Bytes l1) (_hk : (Lit.int .i64 k).wf = true) :
    Calls Tryd.prog 10 #[.slice A0 l0.length c0, .slice A1 l1.length c1, .int .i64 k] w fun e w' => e = .returned (.bool true) ∧ Below w.heap.size w w' := by
  obtain ⟨n0, hn0⟩ : ∃ n, n = l0.length := ⟨_, rfl⟩
  obtain ⟨n1, hn1⟩ : ∃ n, n = l1.length := ⟨_, rfl⟩
  rw [← hn0] at hr0 hc0 ⊢
  rw [← hn1] at hr1 ⊢
  have HI := Lib.hid (show Rd w A0 n0 l0 ∧ Rd w A1 n1 l1 ∧ Bytes l0 ∧ Bytes l1 ∧ Laid w ∧ n0 = l0.length ∧ n1 = l1.length from ⟨hr0, hr1, hb0, hb1, hG, hn0, hn1⟩)
  clear hr0 hr1 hb0 hb1 hG hn0 hn1
  go_enter Tryd.func10, Tryd.ntmps10
  by_cases hbig : 20000 < n1 ∨ 20000 < n0
  · have hpick : (decide (20000 < (n1 : Int)) = true) ∨ (decide (20000 < (n1 : Int)) = false ∧ decide (20000 < (n0 : Int)) = true) := by
      by_cases h : 20000 < n1
      · exact .inl (decide_eq_true (by omega))
      · exact .inr ⟨decide_eq_false (by omega), decide_eq_true (by omega)⟩
    rcases hpick with d1 | ⟨d1, d2⟩
    · have d1' : decide (20000 < n1) = true := by rw [decide_eq_true_eq] at d1 ⊢; omega
      clear hbig
      go_wp2_with (go_at_call 11; with_reducible refine (awake_calls _ HI.out.2.2.2.2.1).mono ?_; rintro e w6 ⟨rfl, hb6⟩; have HB6 := Lib.hid hb6; clear hb6)
      go_ret
      exact ⟨rfl, HB6.out⟩
    · have d1' : decide (20000 < n1) = false := by rw [decide_eq_false_iff_not] at d1 ⊢; omega
      have d2' : decide (20000 < n0) = true := by rw [decide_eq_true_eq] at d2 ⊢; omega
      clear hbig
      go_wp2_with (go_at_call 11; with_reducible refine (awake_calls _ HI.out.2.2.2.2.1).mono ?_; rintro e w6 ⟨rfl, hb6⟩; have HB6 := Lib.hid hb6; clear hb6)
      go_ret
      exact ⟨rfl, HB6.out⟩
  · have d1 : decide (20000 < (n1 : Int)) = false := decide_eq_false (by omega)
    have d2 : decide (20000 < (n0 : Int)) = false := decide_eq_false (by omega)
    have d1' : decide (20000 < n1) = false := decide_eq_false (by omega)
    have d2' : decide (20000 < n0) = false := decide_eq_false (by omega)
    have HN := Lib.hid (show n0 ≤ 20000 ∧ n1 ≤ 20000 from by omega)
    clear hbig
    by_cases h64 : 64 < n0
    · have d3 : decide (64 < (n0 : Int)) = true := decide_eq_true (by omega)
      have d3' : decide (64 < n0) = true := decide_eq_true h64
      go_wp2_with fail
      refine (Sha256_calls A0 c0 l0 _ HI.out.1 HI.out.2.2.1 hc0 (by have := HN.out; omega) HI.out.2.2.2.2.1).mono ?_
      rintro e w3 ⟨rfl, hb3⟩
      obtain ⟨g6, hg6⟩ : ∃ g6, g6 = w3.heap.size := ⟨_, rfl⟩
      obtain ⟨W4, hW4⟩ : ∃ W4, W4 = w3.alloc (.cells #[.int .u8 0, .int .u8 0, .int .u8 0, .int .u8 0, .int .u8 0, .int .u8 0, .int .u8 0, .int .u8 0, .int .u8 0, .int .u8 0, .int .u8 0, .int .u8 0, .int .u8 0, .int .u8 0, .int .u8 0, .int .u8 0, .int .u8 0, .int .u8 0, .int .u8 0, .int .u8 0, .int .u8 0, .int .u8 0, .int .u8 0, .int .u8 0, .int .u8 0, .int .u8 0, .int .u8 0, .int .u8 0, .int .u8 0, .int .u8 0, .int .u8 0, .int .u8 0] 31) := ⟨_, rfl⟩
      have hB4 : Below g6 w3 W4 := by rw [hW4, hg6]; exact below_alloc (Below.refl _ _) _
      have HL := Lib.hid (show Blk W4 g6 31 .u8 (List.replicate 32 0) ∧ Below w.heap.size w W4 ∧ w.heap.size ≤ g6 from ⟨by rw [hW4, hg6]; exact Blk.new w3 31 .u8 (List.replicate 32 0), hb3.trans (hB4.mono (by rw [hg6]; exact hb3.size)), by rw [hg6]; exact hb3.size⟩)
      have HS2 := Lib.hid (show g6 = w3.heap.size ∧ W4 = w3.alloc _ from ⟨hg6, hW4⟩)
      clear hB4 hg6 hW4 hb3
      go_upto_region 5 with (refine gate_ (.store 31 (.tmp 7) (.tmp 21)) rfl ?_; rw [← HS2.out.1, ← HS2.out.2]; refine store_blk2 (m := sha2 l0) rfl rfl rfl rfl rfl HL.out.1 rfl (by kernel_rfl) ?_; intro w5 hk5 hb5 hf5; have HF := Lib.hid (show Rd w5 (some ⟨g6, 0, none⟩) 32 (sha2 l0) ∧ Below w.heap.size w w5 from ⟨by have hr := hk5.row (by rw [sha2_length]; decide); rw [sha2_length] at hr; exact hr, hb5 _ _ HL.out.2.1 HL.out.2.2⟩); clear hk5 hb5 hf5)
      have HQ := Lib.hid (show mac (sha2 l0) l1 = mac l0 l1 from mac_long l0 l1 (by rw [← HI.out.2.2.2.2.2.1]; exact h64))
      obtain ⟨M, hM⟩ : ∃ M, M = mac l0 l1 := ⟨_, rfl⟩
      have HM := Lib.hid hM
      have heq := fun W => mac_same l0 l1 W
      rw [← hM] at heq
      clear hM
      go_region_with (first
        | (go_at_call 11; refine (awake_calls _ (HI.out.2.2.2.2.1.below HB7.out HI.out.2.2.2.2.1.lt)).mono ?_; rintro e w8 ⟨rfl, hb8⟩; have HB8 := Lib.hid (below_step HB7.out hb8); clear hb8)
        | (go_at_call 22; with_reducible refine (Mac_calls _ _ (sha2 l0) _ _ l1 _ HR6.out (sha2_Bytes l0) (Nat.le_refl 32) (by decide) (Kd.C_below HI.out.2.1 HB6.out) HI.out.2.2.2.1 (by have := HN.out; omega) (HI.out.2.2.2.2.1.below HB6.out HI.out.2.2.2.2.1.lt)).mono ?_; rintro e w7 ⟨rfl, hb7⟩; rw [HQ.out, ← HM.out]; have HB7 := Lib.hid (below_step HB6.out hb7); clear hb7)
        | (go_at_call 22; with_reducible refine (Mac_calls _ _ l0 _ _ l1 _ (Kd.C_below HI.out.1 (below_drew HF.out.2)) HI.out.2.2.1 hc0 (by have := HN.out; omega) (Kd.C_below HI.out.2.1 (below_drew HF.out.2)) HI.out.2.2.2.1 (by have := HN.out; omega) (HI.out.2.2.2.2.1.below (below_drew HF.out.2) HI.out.2.2.2.2.1.lt)).mono ?_; rintro e w6 ⟨rfl, hb6⟩; rw [← HM.out]; have HB6 := Lib.hid (below_step (below_drew HF.out.2) hb6); have HR6 := Lib.hid (Kd.C_below (Kd.C_below HF.out.1 (below_drew (Below.refl _ _))) hb6); clear hb6))
      all_goals
        go_wp2
        go_ret
        exact ⟨rfl, HB8.out⟩
    · have d3 : decide (64 < (n0 : Int)) = false := decide_eq_false (by omega)
      have d3' : decide (64 < n0) = false := decide_eq_false h64
      obtain ⟨U, hU⟩ : ∃ U, IntKind.u64.wrap k = U := ⟨_, rfl⟩
      have hU0 : 0 ≤ U := by rw [← hU, IntKind.wrap_u64]; exact Int.emod_nonneg _ (by decide)
      obtain ⟨j, hj⟩ : ∃ j : Nat, U % (65 - (n0 : Int)) = j := Int.eq_ofNat_of_zero_le (Int.emod_nonneg _ (by omega))
      have hjn : n0 + j ≤ 64 := by have := Int.emod_lt_of_pos U (show (0 : Int) < 65 - n0 by omega); omega
      have w1' : IntKind.i64.wrap (65 - (n0 : Int)) = 65 - n0 := by rw [IntKind.wrap_i64]; omega
      have w2' : IntKind.u64.wrap (65 - (n0 : Int)) = 65 - n0 := u64_id (by omega) (by omega)
      have w3' : IntKind.i64.wrap (j : Int) = j := by rw [IntKind.wrap_i64]; omega
      have t1 : U.tmod (65 - (n0 : Int)) = j := by rw [Int.tmod_eq_emod_of_nonneg hU0]; exact hj
      have z0 : ((65 : Int) - n0 == 0) = false := beq_eq_false_iff_ne.2 (by omega)
      have HQ := Lib.hid (show mac (l0 ++ List.replicate j 0) l1 = mac l0 l1 from mac_noughts l0 l1 j (by rw [← HI.out.2.2.2.2.2.1]; exact hjn))
      obtain ⟨M, hM⟩ : ∃ M, M = mac l0 l1 := ⟨_, rfl⟩
      have HM := Lib.hid hM
      have heq := fun W => mac_same l0 l1 W
      rw [← hM] at heq
      have HJ := Lib.hid hjn
      clear hM hU0 h64
      go_upto_region 7 with (fail)
      clear t1 w1' w2' w3' hU hj z0 hjn
      go_wp2_with (refine gate_ (.makeSlice 22 (.tmp 41) (.tmp 41)) rfl ?_; refine Kd.R_make (Kd.int .u8) (w0 := w) w.heap.size 5 rfl rfl 22 (.tmp 41) (.tmp 41) rfl (j : Int) rfl rfl Tryd.underlying22 (.int .u8 0) 1 info_u8 rfl (by decide) (by decide) (0 : Int) (ok := fun _ => True) (okp := fun _ => False) rfl (fun _ hk => hk.elim) trivial (by omega) (by have := HJ.out; simp; omega) (Below.refl _ _) (Nat.le_refl _) ?_)
      intro v1 w1 ho1 hb1 _ _ _ _
      replace ho1 : Own w w1 v1 (List.replicate j 0) := ho1
      obtain ⟨A2, c2, rfl, _, hr2⟩ := ho1.reads
      rw [List.length_replicate] at hr2 ⊢
      obtain ⟨g5, hg5⟩ : ∃ g5, g5 = w1.heap.size := ⟨_, rfl⟩
      obtain ⟨W2, hW2⟩ : ∃ W2, W2 = w1.alloc (.cells #[.slice A0 n0 c0, .slice A2 j c2] 22) := ⟨_, rfl⟩
      have hB2 : Below w1.heap.size w1 W2 := by rw [hW2]; exact below_alloc (Below.refl _ _) _
      have HL := Lib.hid (show W2.cell? ⟨g5, 0, none⟩ = some (.slice A0 n0 c0) ∧ W2.cell? ⟨g5, 1, none⟩ = some (.slice A2 j c2) ∧ Rd W2 A2 j (List.replicate j 0) ∧ Below w.heap.size w W2 from
        ⟨by rw [hW2, hg5]; exact (two_new w1 _ _ _).1, by rw [hW2, hg5]; exact (two_new w1 _ _ _).2, Kd.C_below hr2 hB2, below_step hb1 hB2⟩)
      have HS2 := Lib.hid (show g5 = w1.heap.size ∧ W2 = w1.alloc _ from ⟨hg5, hW2⟩)
      clear ho1 hb1 hr2 hB2 hg5 hW2
      go_wp2_with fail
      rw [← HS2.out.1, ← HS2.out.2]
      refine (Concat_calls A0 c0 l0 A2 c2 (List.replicate j 0) g5 _ (Kd.C_below HI.out.1 HL.out.2.2.2) HL.out.2.2.1 HL.out.1 HL.out.2.1 (by have := HN.out; have := HJ.out; omega)).mono ?_
      rintro e w3 ⟨v3, rfl, ho3, hb3⟩
      obtain ⟨A3, c3, rfl, hc3, hr3⟩ := ho3.reads
      rw [show (l0 ++ List.replicate j (0 : Int)).length = n0 + j by rw [List.length_append, List.length_replicate, ← HI.out.2.2.2.2.2.1]] at hc3 hr3 ⊢
      have HR3 := Lib.hid (show Rd w3 A3 (n0 + j) (l0 ++ List.replicate j 0) ∧ Bytes (l0 ++ List.replicate j 0) ∧ n0 + j ≤ c3 ∧ Below w.heap.size w w3 from ⟨hr3, app_Bytes HI.out.2.2.1 (fun x (hx : x ∈ List.replicate j (0 : Int)) => by rw [List.mem_replicate] at hx; omega), hc3, below_step HL.out.2.2.2 hb3⟩)
      clear ho3 hb3 hc3 hr3
      go_wp2_with (first
        | (go_at_call 11; refine (awake_calls _ (HI.out.2.2.2.2.1.below HB7.out HI.out.2.2.2.2.1.lt)).mono ?_; rintro e w8 ⟨rfl, hb8⟩; have HB8 := Lib.hid (below_step HB7.out hb8); clear hb8)
        | (go_at_call 22; with_reducible refine (Mac_calls _ _ l0 _ _ l1 _ (Kd.C_below HI.out.1 HB6.out) HI.out.2.2.1 hc0 (by have := HN.out; omega) (Kd.C_below HI.out.2.1 HB6.out) HI.out.2.2.2.1 (by have := HN.out; omega) (HI.out.2.2.2.2.1.below HB6.out HI.out.2.2.2.2.1.lt)).mono ?_; rintro e w7 ⟨rfl, hb7⟩; rw [← HM.out]; have HB7 := Lib.hid (below_step HB6.out hb7); clear hb7)
        | (go_at_call 22; with_reducible refine (Mac_calls _ _ (l0 ++ List.replicate j 0) _ _ l1 _ HR3.out.1 HR3.out.2.1 HR3.out.2.2.1 (by have := HN.out; have := HJ.out; omega) (Kd.C_below HI.out.2.1 HR3.out.2.2.2) HI.out.2.2.2.1 (by have := HN.out; omega) (HI.out.2.2.2.2.1.below HR3.out.2.2.2 HI.out.2.2.2.2.1.lt)).mono ?_; rintro e w6 ⟨rfl, hb6⟩; rw [HQ.out, ← HM.out]; have HB6 := Lib.hid (below_step HR3.out.2.2.2 hb6); clear hb6))
      go_ret
      exact ⟨rfl, HB8.out⟩
end Go.Proofs.YtfhnchabifklnaaDoor
