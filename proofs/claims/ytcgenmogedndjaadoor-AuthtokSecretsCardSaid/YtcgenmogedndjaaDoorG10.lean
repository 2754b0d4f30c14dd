/- The texts Mac, Sum, Equal, Compare, Unframe, Cursor, CursorOps in one. -/
import Derived.Test.YtcgenmogedndjaaDoorG01
import Derived.Test.YtcgenmogedndjaaDoorG03
import Derived.Test.YtcgenmogedndjaaDoorG09
import Derived.Lib.Bytealg
import Derived.Shelf.Small.Strs
import Derived.Laws.StructEq
import Derived.Lib.BufferOwn
namespace Go.Proofs.YtcgenmogedndjaaDoor
open Go.RowKit Go.Proofs.YtcgenmogedndjaaDoorW.PrintWords
set_option maxRecDepth 20000 in
set_option maxHeartbeats 8000000 in
theorem Mac_calls {n0 n1 : Nat} (A0 : Option Addr) (c0 : Nat) (l0 : List Int) (A1 : Option Addr) (c1 : Nat) (l1 : List Int) (w : World) (hr0 : Rd w A0 n0 l0) (hb0 : Bytes l0) (hc0 : n0 ≤ c0) (hs0 : n0 ≤ 1099511627776) (hr1 : Rd w A1 n1 l1) (hb1 : Bytes l1) (hs1 : n1 ≤ 549755813888) (hG : Laid w) :
    Calls Tryd.prog 32 #[.slice A0 n0 c0, .slice A1 n1 c1] w fun e w' => e = .returned (.agg (nums .u8 (mac l0 l1)).toArray) ∧ Below w.heap.size w w' := by
  have hl0 := Kd.C_len hr0
  obtain ⟨g4, hg4⟩ : ∃ g4, g4 = w.heap.size := ⟨_, rfl⟩
  obtain ⟨g5, hg5⟩ : ∃ g5, g5 = g4 + 1 := ⟨_, rfl⟩
  obtain ⟨W1, hW1⟩ : ∃ W1, W1 = w.alloc (.cells #[.int .u8 0, .int .u8 0, .int .u8 0, .int .u8 0, .int .u8 0, .int .u8 0, .int .u8 0, .int .u8 0, .int .u8 0, .int .u8 0, .int .u8 0, .int .u8 0, .int .u8 0, .int .u8 0, .int .u8 0, .int .u8 0, .int .u8 0, .int .u8 0, .int .u8 0, .int .u8 0, .int .u8 0, .int .u8 0, .int .u8 0, .int .u8 0, .int .u8 0, .int .u8 0, .int .u8 0, .int .u8 0, .int .u8 0, .int .u8 0, .int .u8 0, .int .u8 0] 66) := ⟨_, rfl⟩
  obtain ⟨W2, hW2⟩ : ∃ W2, W2 = W1.alloc (.cells #[.int .u8 0, .int .u8 0, .int .u8 0, .int .u8 0, .int .u8 0, .int .u8 0, .int .u8 0, .int .u8 0, .int .u8 0, .int .u8 0, .int .u8 0, .int .u8 0, .int .u8 0, .int .u8 0, .int .u8 0, .int .u8 0, .int .u8 0, .int .u8 0, .int .u8 0, .int .u8 0, .int .u8 0, .int .u8 0, .int .u8 0, .int .u8 0, .int .u8 0, .int .u8 0, .int .u8 0, .int .u8 0, .int .u8 0, .int .u8 0, .int .u8 0, .int .u8 0, .int .u8 0, .int .u8 0, .int .u8 0, .int .u8 0, .int .u8 0, .int .u8 0, .int .u8 0, .int .u8 0, .int .u8 0, .int .u8 0, .int .u8 0, .int .u8 0, .int .u8 0, .int .u8 0, .int .u8 0, .int .u8 0, .int .u8 0, .int .u8 0, .int .u8 0, .int .u8 0, .int .u8 0, .int .u8 0, .int .u8 0, .int .u8 0, .int .u8 0, .int .u8 0, .int .u8 0, .int .u8 0, .int .u8 0, .int .u8 0, .int .u8 0, .int .u8 0] 85) := ⟨_, rfl⟩
  have hB1 : Below g4 w W1 := by rw [hW1, hg4]; exact below_alloc (Below.refl _ _) _
  have hz1 : W1.heap.size = g5 := by rw [hW1, size_alloc, hg5, hg4]
  have hB2 : Below g5 W1 W2 := by rw [hW2, ← hz1]; exact below_alloc (Below.refl _ _) _
  have hK4 : Blk W2 g4 66 .u8 (List.replicate 32 0) := (show Blk W1 g4 _ _ _ by rw [hW1, hg4]; exact Blk.new w 66 .u8 (List.replicate 32 0)).below hB2 (by omega)
  have hK5 : Blk W2 g5 85 .u8 (List.replicate 64 0) := by rw [hW2, ← hz1]; exact Blk.new W1 85 .u8 (List.replicate 64 0)
  have HI := Lib.hid (show Rd w A0 n0 l0 ∧ Bytes l0 ∧ Rd w A1 n1 l1 ∧ Bytes l1 ∧ Laid w ∧ g4 = w.heap.size ∧ g5 = g4 + 1 ∧ n1 ≤ 549755813888 ∧ l0.length = n0 from ⟨hr0, hb0, hr1, hb1, hG, hg4, hg5, hs1, hl0⟩)
  have HW := Lib.hid (show Blk W2 g4 66 .u8 (List.replicate 32 0) ∧ Blk W2 g5 85 .u8 (List.replicate 64 0) ∧ Below g4 w W2 from ⟨hK4, hK5, hB1.trans (hB2.mono (by omega))⟩)
  clear hr0 hb0 hr1 hb1 hG hK4 hK5 hB1 hB2 hz1 hl0
  go_enter Tryd.func32, Tryd.ntmps32
  go_upto_if 13 with (fail)
  rw [← hg4, ← hW1, ← hW2, ← hg5]
  have HS := Lib.hid (show W1 = w.alloc _ ∧ W2 = W1.alloc _ from ⟨hW1, hW2⟩)
  clear hg4 hg5 hW1 hW2
  go_cut [0] (fun v wc => ∃ (A : Option Addr) (n c : Nat) (kl : List Int), v = .slice A n c ∧ n ≤ c ∧ n ≤ 64 ∧ Hid (Rd wc A n kl ∧ Bytes kl ∧ kl = (if 64 < l0.length then sha2 l0 else l0) ∧ Blk wc g4 66 .u8 (List.replicate 32 0) ∧ Blk wc g5 85 .u8 (List.replicate 64 0) ∧ Below g4 w wc))
  case first =>
    by_cases h64 : 64 < n0
    · have d1 : decide (64 < (n0 : Int)) = true := decide_eq_true (by omega)
      have d1' : decide (64 < n0) = true := decide_eq_true h64
      go_wp2_with fail
      refine (Sha256_calls A0 c0 l0 _ (Kd.C_below HI.out.1 (HI.out.2.2.2.2.2.1 ▸ HW.out.2.2)) HI.out.2.1 hc0 hs0 (HI.out.2.2.2.2.1.below HW.out.2.2 (by rw [HI.out.2.2.2.2.2.1]; exact HI.out.2.2.2.2.1.lt))).mono ?_
      rintro e w3 ⟨rfl, hb3⟩
      have hk4 := HW.out.1.below hb3 HW.out.1.lt
      have hk5 := HW.out.2.1.below hb3 HW.out.2.1.lt
      have hbb : Below g4 w w3 := HW.out.2.2.trans (hb3.mono (Nat.le_of_lt HW.out.1.lt))
      obtain ⟨g6, hg6⟩ : ∃ g6, g6 = w3.heap.size := ⟨_, rfl⟩
      obtain ⟨W4, hW4⟩ : ∃ W4, W4 = w3.alloc (.cells #[.int .u8 0, .int .u8 0, .int .u8 0, .int .u8 0, .int .u8 0, .int .u8 0, .int .u8 0, .int .u8 0, .int .u8 0, .int .u8 0, .int .u8 0, .int .u8 0, .int .u8 0, .int .u8 0, .int .u8 0, .int .u8 0, .int .u8 0, .int .u8 0, .int .u8 0, .int .u8 0, .int .u8 0, .int .u8 0, .int .u8 0, .int .u8 0, .int .u8 0, .int .u8 0, .int .u8 0, .int .u8 0, .int .u8 0, .int .u8 0, .int .u8 0, .int .u8 0] 66) := ⟨_, rfl⟩
      have hB4 : Below g6 w3 W4 := by rw [hW4, hg6]; exact below_alloc (Below.refl _ _) _
      have HK6 := Lib.hid (show Blk W4 g6 66 .u8 (List.replicate 32 0) by rw [hW4, hg6]; exact Blk.new w3 66 .u8 (List.replicate 32 0))
      have HL := Lib.hid (show Blk W4 g4 66 .u8 (List.replicate 32 0) ∧ Blk W4 g5 85 .u8 (List.replicate 64 0) ∧ Below g4 w W4 ∧ g4 < g6 ∧ g5 < g6 from ⟨hk4.below hB4 (by rw [hg6]; exact hk4.lt), hk5.below hB4 (by rw [hg6]; exact hk5.lt), hbb.trans (hB4.mono (by have := hk4.lt; omega)), by rw [hg6]; exact hk4.lt, by rw [hg6]; exact hk5.lt⟩)
      have HS2 := Lib.hid (show g6 = w3.heap.size ∧ W4 = w3.alloc _ from ⟨hg6, hW4⟩)
      clear hk4 hk5 hbb hB4 hg6 hW4 hb3
      go_wp2_with (refine gate_ (.store 66 (.tmp 6) (.tmp 15)) rfl ?_; rw [← HS2.out.1, ← HS2.out.2]; refine store_blk2 (m := sha2 l0) rfl rfl rfl rfl rfl HK6.out rfl (by kernel_rfl) ?_; intro w5 hk5 hb5 hf5; have HF := Lib.hid (show Rd w5 (some ⟨g6, 0, none⟩) 32 (sha2 l0) ∧ Bytes (sha2 l0) ∧ sha2 l0 = (if 64 < l0.length then sha2 l0 else l0) ∧ Blk w5 g4 66 .u8 (List.replicate 32 0) ∧ Blk w5 g5 85 .u8 (List.replicate 64 0) ∧ Below g4 w w5 from ⟨by have hr := hk5.row (by rw [sha2_length]; decide); rw [sha2_length] at hr; exact hr, sha2_Bytes l0, by rw [HI.out.2.2.2.2.2.2.2.2, if_pos h64], hf5 _ _ _ _ (by have := HL.out; omega) HL.out.1, hf5 _ _ _ _ (by have := HL.out; omega) HL.out.2.1, hb5 _ _ HL.out.2.2.1 (by have := HL.out; omega)⟩); clear hk5 hb5 hf5)
      go_meet
      case rel => exact ⟨_, _, _, _, rfl, by omega, by omega, HF⟩
    · have d1 : decide (64 < (n0 : Int)) = false := decide_eq_false (by omega)
      have d1' : decide (64 < n0) = false := decide_eq_false h64
      have HF := Lib.hid (show Rd W2 A0 n0 l0 ∧ Bytes l0 ∧ l0 = (if 64 < l0.length then sha2 l0 else l0) ∧ Blk W2 g4 66 .u8 (List.replicate 32 0) ∧ Blk W2 g5 85 .u8 (List.replicate 64 0) ∧ Below g4 w W2 from ⟨Kd.C_below HI.out.1 (HI.out.2.2.2.2.2.1 ▸ HW.out.2.2), HI.out.2.1, by rw [HI.out.2.2.2.2.2.2.2.2, if_neg h64], HW.out.1, HW.out.2.1, HW.out.2.2⟩)
      go_wp2
      go_meet
      case rel => exact ⟨_, _, _, _, rfl, hc0, by omega, HF⟩
  case rest =>
    obtain ⟨A, n, c, kl, rfl, hnc, hn64, HF⟩ := hcut
    clear HW
    have hkl := Kd.C_len HF.out.1
    obtain ⟨KK, hKK⟩ : ∃ KK, KK = macKey l0 := ⟨_, rfl⟩
    have hKp : KK = pad64 kl := by rw [hKK, macKey, ← HF.out.2.2.1]
    have hKl : KK.length = 64 := by rw [hKK]; exact macKey_length l0
    have hcopy : ∃ Wc, (∀ ty, (Builtin.copy_ #[34, 34] ty #[.slice (some ⟨g5, 0, none⟩) 64 64, .slice A n c]).run Tryd.prog wc = .ok (.int .i64 n) Wc) ∧ Blk Wc g5 85 .u8 KK ∧ Blk Wc g4 66 .u8 (List.replicate 32 0) ∧ Below g4 w Wc := by
      have hg45 : g4 ≠ g5 := by have := HI.out; omega
      rcases Nat.eq_zero_or_pos n with h0 | h0
      · subst h0
        obtain rfl : kl = [] := List.eq_nil_of_length_eq_zero hkl
        refine ⟨wc, fun ty => run_copy_none (P := Tryd.prog) wc 34 34 ty 5 (some ⟨g5, 0, none⟩) A 64 64 0 c Tryd.underlying34 info_u8s (by simp), ?_, HF.out.2.2.2.1, HF.out.2.2.2.2.2⟩
        rw [hKp]
        exact HF.out.2.2.2.2.1
      · obtain ⟨ad, rfl, _⟩ := Rd.cells HF.out.1 h0
        have h1 := fun ty => HF.out.2.2.2.2.1.copy (off := 0) (dLen := 64) (dCap := 64) (ty := ty) (c := c) HF.out.1 (by simp; omega) hn64
        refine ⟨_, fun ty => (h1 ty).1, ?_, HF.out.2.2.2.1.farCells hg45 _, Below.setCells_ HF.out.2.2.2.2.2 (by have := HI.out; omega) _⟩
        have h2 := (h1 0).2
        rw [hKp]
        unfold pad64
        rw [List.take_zero, List.nil_append, Nat.zero_add, List.drop_replicate] at h2
        exact h2
    obtain ⟨Wc, hcp, hk5, hk4, hbw⟩ := hcopy
    have hcp1 := hcp 3
    have HC := Lib.hid (show Blk Wc g5 85 .u8 KK ∧ Blk Wc g4 66 .u8 (List.replicate 32 0) ∧ Below g4 w Wc ∧ KK.length = 64 ∧ KK = macKey l0 from ⟨hk5, hk4, hbw, hKl, hKK⟩)
    clear hcp hk5 hk4 hbw hKl hKK hKp hkl HF
    obtain ⟨g7, hg7⟩ : ∃ g7, g7 = Wc.heap.size := ⟨_, rfl⟩
    obtain ⟨g8, hg8⟩ : ∃ g8, g8 = g7 + 1 := ⟨_, rfl⟩
    obtain ⟨W5, hW5⟩ : ∃ W5, W5 = Wc.alloc (.cells #[.int .u8 0, .int .u8 0, .int .u8 0, .int .u8 0, .int .u8 0, .int .u8 0, .int .u8 0, .int .u8 0, .int .u8 0, .int .u8 0, .int .u8 0, .int .u8 0, .int .u8 0, .int .u8 0, .int .u8 0, .int .u8 0, .int .u8 0, .int .u8 0, .int .u8 0, .int .u8 0, .int .u8 0, .int .u8 0, .int .u8 0, .int .u8 0, .int .u8 0, .int .u8 0, .int .u8 0, .int .u8 0, .int .u8 0, .int .u8 0, .int .u8 0, .int .u8 0, .int .u8 0, .int .u8 0, .int .u8 0, .int .u8 0, .int .u8 0, .int .u8 0, .int .u8 0, .int .u8 0, .int .u8 0, .int .u8 0, .int .u8 0, .int .u8 0, .int .u8 0, .int .u8 0, .int .u8 0, .int .u8 0, .int .u8 0, .int .u8 0, .int .u8 0, .int .u8 0, .int .u8 0, .int .u8 0, .int .u8 0, .int .u8 0, .int .u8 0, .int .u8 0, .int .u8 0, .int .u8 0, .int .u8 0, .int .u8 0, .int .u8 0, .int .u8 0] 85) := ⟨_, rfl⟩
    obtain ⟨W6, hW6⟩ : ∃ W6, W6 = W5.alloc (.cells #[.int .u8 0, .int .u8 0, .int .u8 0, .int .u8 0, .int .u8 0, .int .u8 0, .int .u8 0, .int .u8 0, .int .u8 0, .int .u8 0, .int .u8 0, .int .u8 0, .int .u8 0, .int .u8 0, .int .u8 0, .int .u8 0, .int .u8 0, .int .u8 0, .int .u8 0, .int .u8 0, .int .u8 0, .int .u8 0, .int .u8 0, .int .u8 0, .int .u8 0, .int .u8 0, .int .u8 0, .int .u8 0, .int .u8 0, .int .u8 0, .int .u8 0, .int .u8 0, .int .u8 0, .int .u8 0, .int .u8 0, .int .u8 0, .int .u8 0, .int .u8 0, .int .u8 0, .int .u8 0, .int .u8 0, .int .u8 0, .int .u8 0, .int .u8 0, .int .u8 0, .int .u8 0, .int .u8 0, .int .u8 0, .int .u8 0, .int .u8 0, .int .u8 0, .int .u8 0, .int .u8 0, .int .u8 0, .int .u8 0, .int .u8 0, .int .u8 0, .int .u8 0, .int .u8 0, .int .u8 0, .int .u8 0, .int .u8 0, .int .u8 0, .int .u8 0] 85) := ⟨_, rfl⟩
    have hB5 : Below g7 Wc W5 := by rw [hW5, hg7]; exact below_alloc (Below.refl _ _) _
    have hz5 : W5.heap.size = g8 := by rw [hW5, size_alloc, hg8, hg7]
    have hB6 : Below g8 W5 W6 := by rw [hW6, ← hz5]; exact below_alloc (Below.refl _ _) _
    have hk7 : Blk W6 g7 85 .u8 (List.replicate 64 0) := (show Blk W5 g7 _ _ _ by rw [hW5, hg7]; exact Blk.new Wc 85 .u8 (List.replicate 64 0)).below hB6 (by omega)
    have hk8 : Blk W6 g8 85 .u8 (List.replicate 64 0) := by rw [hW6, ← hz5]; exact Blk.new W5 85 .u8 (List.replicate 64 0)
    have hBB : Below g7 Wc W6 := hB5.trans (hB6.mono (by omega))
    have hg47 : g4 < g7 := by rw [hg7]; exact HC.out.2.1.lt
    have HD := Lib.hid (show Blk W6 g7 85 .u8 (List.replicate 64 0) ∧ Blk W6 g8 85 .u8 (List.replicate 64 0) ∧ Blk W6 g4 66 .u8 (List.replicate 32 0) ∧ Below g4 w W6 ∧ g4 < g7 ∧ g7 < g8 from ⟨hk7, hk8, HC.out.2.1.below hBB hg47, HC.out.2.2.1.trans (hBB.mono (Nat.le_of_lt hg47)), hg47, by omega⟩)
    have HS5 := Lib.hid (show g7 = Wc.heap.size ∧ g8 = g7 + 1 ∧ W5 = Wc.alloc _ ∧ W6 = W5.alloc _ from ⟨hg7, hg8, hW5, hW6⟩)
    clear hB5 hz5 hB6 hk7 hk8 hBB hg47 hg7 hg8 hW5 hW6
    have HLD := Lib.hid (show Blk Wc g5 85 .u8 KK from HC.out.1)
    go_upto_region 7 with (first
      | (refine gate_ (.load 85 (.tmp 5)) rfl ?_; refine load_blk rfl rfl rfl HLD.out (by kernel_rfl) (by rw [HC.out.2.2.2.1]; kernel_rfl) ?_)
      | (refine gate_ (.store 85 (.tmp 7) (.tmp 20)) rfl ?_; rw [← HS5.out.1, ← HS5.out.2.1, ← HS5.out.2.2.1, ← HS5.out.2.2.2]; refine store_blk2 (m := KK) rfl rfl rfl rfl rfl HD.out.1 (by rw [HC.out.2.2.2.1]; rfl) (by rw [HC.out.2.2.2.1]; kernel_rfl) ?_; intro w7 hk7 hb7 hf7; have HE := Lib.hid (show Blk w7 g7 85 .u8 KK ∧ Blk w7 g8 85 .u8 (List.replicate 64 0) ∧ Blk w7 g4 66 .u8 (List.replicate 32 0) ∧ Below g4 w w7 from ⟨hk7, hf7 _ _ _ _ (by have := HD.out; omega) HD.out.2.1, hf7 _ _ _ _ (by have := HD.out; omega) HD.out.2.2.1, hb7 _ _ HD.out.2.2.2.1 (by have := HD.out; omega)⟩); clear hk7 hb7 hf7)
      | (refine gate_ (.store 85 (.tmp 8) (.tmp 21)) rfl ?_; refine store_blk2 (m := KK) rfl rfl rfl rfl rfl HE.out.2.1 (by rw [HC.out.2.2.2.1]; rfl) (by rw [HC.out.2.2.2.1]; kernel_rfl) ?_; intro w8 hk8 hb8 hf8; have HE2 := Lib.hid (show Blk w8 g7 85 .u8 (xorUp 54 KK 0) ∧ Blk w8 g8 85 .u8 (xorUp 92 KK 0) ∧ Blk w8 g4 66 .u8 (List.replicate 32 0) ∧ Below g4 w w8 from ⟨by rw [xorUp_zero]; exact hf8 _ _ _ _ (by have := HD.out; omega) HE.out.1, by rw [xorUp_zero]; exact hk8, hf8 _ _ _ _ (by have := HD.out; omega) HE.out.2.2.1, hb8 _ _ HE.out.2.2.2 (by have := HD.out; omega)⟩); clear hk8 hb8 hf8))
    go_wp2
    go_loopw [22] (fun v wi => ∃ i : Nat, v = .int .i64 i ∧ i ≤ 64 ∧ Hid (Blk wi g7 85 .u8 (xorUp 54 KK i) ∧ Blk wi g8 85 .u8 (xorUp 92 KK i) ∧ Blk wi g4 66 .u8 (List.replicate 32 0) ∧ Below g4 w wi)) (fun v _ => 64 - (intOf v).toNat)
    case atStart => exact ⟨0, rfl, by omega, HE2⟩
    case round =>
      clear HE2
      obtain ⟨i, rfl, hi, HE⟩ := hrel
      by_cases hi64 : i < 64
      · have d1 : decide ((i : Int) < 64) = true := decide_eq_true (by omega)
        have d1' : decide (i < 64) = true := decide_eq_true hi64
        have i64' : (i : Int) < 64 := by omega
        have hik : i < KK.length := by rw [HC.out.2.2.2.1]; exact hi64
        have hb7 := HE.out.1.both i (by rw [xorUp_length]; exact hik)
        have hb8 := HE.out.2.1.both i (by rw [xorUp_length]; exact hik)
        rw [xorUp_at 54 KK i hik] at hb7
        rw [xorUp_at 92 KK i hik] at hb8
        have hs7 := HE.out.1.set i (by rw [xorUp_length]; exact hik) (bits .xor .u8 (rd KK i) 54)
        rw [xorUp_set 54 KK i hik] at hs7
        have hf8 := HE.out.2.1.far (p := ⟨g7, i, none⟩) (by have := HD.out; show g8 ≠ g7; omega) (.int .u8 (bits .xor .u8 (rd KK i) 54))
        have hs8 := hf8.set i (by rw [xorUp_length]; exact hik) (bits .xor .u8 (rd KK i) 92)
        rw [xorUp_set 92 KK i hik] at hs8
        have hb8' := hf8.both i (by rw [xorUp_length]; exact hik)
        rw [xorUp_at 92 KK i hik] at hb8'
        have hf7 := hs7.far (p := ⟨g8, i, none⟩) (by have := HD.out; show g7 ≠ g8; omega) (.int .u8 (bits .xor .u8 (rd KK i) 92))
        have hf4 := (HE.out.2.2.1.far (p := ⟨g7, i, none⟩) (by have := HD.out; show g4 ≠ g7; omega) (.int .u8 (bits .xor .u8 (rd KK i) 54))).far (p := ⟨g8, i, none⟩) (by have := HD.out; show g4 ≠ g8; omega) (.int .u8 (bits .xor .u8 (rd KK i) 92))
        have hbl := (HE.out.2.2.2.setCell (p := ⟨g7, i, none⟩) (by have := HD.out; show g4 ≤ g7; omega) (.int .u8 (bits .xor .u8 (rd KK i) 54))).setCell (p := ⟨g8, i, none⟩) (by have := HD.out; show g4 ≤ g8; omega) (.int .u8 (bits .xor .u8 (rd KK i) 92))
        have HN := Lib.hid (And.intro hf7 (And.intro hs8 (And.intro hf4 hbl)))
        obtain ⟨y, hy⟩ : ∃ y, y = rd KK (i : Int) := ⟨_, rfl⟩
        rw [← hy] at hb7 hb8' HN
        obtain ⟨c7, f7⟩ := hb7
        obtain ⟨c8, f8⟩ := hb8'
        clear hb8 hs7 hf8 hs8 hf7 hf4 hbl hy hik
        go_wp2
        go_roundw
        case rel => exact ⟨i + 1, by go_num, by omega, HN⟩
        case measure => simp [intOf]; omega
      · obtain rfl : i = 64 := by omega
        have hx7 : xorUp 54 KK 64 = xorB 54 KK := by have := xorUp_all 54 KK; rwa [HC.out.2.2.2.1] at this
        have hx8 : xorUp 92 KK 64 = xorB 92 KK := by have := xorUp_all 92 KK; rwa [HC.out.2.2.2.1] at this
        have HE3 := Lib.hid (show Blk wr g7 85 .u8 (xorB 54 KK) ∧ Blk wr g8 85 .u8 (xorB 92 KK) ∧ Blk wr g4 66 .u8 (List.replicate 32 0) ∧ Below g4 w wr ∧ (xorB 54 KK).length = 64 ∧ (xorB 92 KK).length = 64 from ⟨by rw [← hx7]; exact HE.out.1, by rw [← hx8]; exact HE.out.2.1, HE.out.2.2.1, HE.out.2.2.2, by rw [xorB_length]; exact HC.out.2.2.2.1, by rw [xorB_length]; exact HC.out.2.2.2.1⟩)
        clear HE hx7 hx8
        have hr1 : Rd wr A1 n1 l1 := Kd.C_below HI.out.2.2.1 (HI.out.2.2.2.2.2.1 ▸ HE3.out.2.2.2.1)
        have HR1 := Lib.hid hr1
        have hlim : 64 + n1 ≤ 140737488355328 := by have := HI.out; omega
        clear hr1
        go_wp2_with (at_builtin; refine app_full rfl rfl rfl rfl HE3.out.2.2.2.2.1 HE3.out.1 HR1.out hlim ?_)
        intro A9 c9 w9 hc9 hr9 hb9
        have HR9 := Lib.hid (show Rd w9 A9 (64 + n1) (xorB 54 KK ++ l1) ∧ 64 + n1 ≤ c9 ∧ Below w.heap.size w w9 from ⟨hr9, hc9, HI.out.2.2.2.2.2.1 ▸ (HE3.out.2.2.2.1.trans (hb9.mono (Nat.le_of_lt HE3.out.2.2.1.lt)))⟩)
        have hk8 := HE3.out.2.1.below hb9 HE3.out.2.1.lt
        have hk4 := HE3.out.2.2.1.below hb9 HE3.out.2.2.1.lt
        have HK8 := Lib.hid (And.intro hk8 hk4)
        clear hr9 hc9 hb9 hk8 hk4
        go_wp2_with fail
        refine (Sha256_calls A9 c9 _ _ HR9.out.1 (app_Bytes (xorB_Bytes _ _) HI.out.2.2.2.1) HR9.out.2.1 (by have := HI.out; omega) (HI.out.2.2.2.2.1.below HR9.out.2.2 HI.out.2.2.2.2.1.lt)).mono ?_
        rintro e w10 ⟨rfl, hb10⟩
        obtain ⟨D, hD⟩ : ∃ D, D = sha2 (xorB 54 KK ++ l1) := ⟨_, rfl⟩
        have hDl : D.length = 32 := by rw [hD]; rfl
        rw [← hD]
        obtain ⟨g10, hg10⟩ : ∃ g10, g10 = w10.heap.size := ⟨_, rfl⟩
        obtain ⟨W11, hW11⟩ : ∃ W11, W11 = w10.alloc (.cells #[.int .u8 0, .int .u8 0, .int .u8 0, .int .u8 0, .int .u8 0, .int .u8 0, .int .u8 0, .int .u8 0, .int .u8 0, .int .u8 0, .int .u8 0, .int .u8 0, .int .u8 0, .int .u8 0, .int .u8 0, .int .u8 0, .int .u8 0, .int .u8 0, .int .u8 0, .int .u8 0, .int .u8 0, .int .u8 0, .int .u8 0, .int .u8 0, .int .u8 0, .int .u8 0, .int .u8 0, .int .u8 0, .int .u8 0, .int .u8 0, .int .u8 0, .int .u8 0] 66) := ⟨_, rfl⟩
        have hB11 : Below g10 w10 W11 := by rw [hW11, hg10]; exact below_alloc (Below.refl _ _) _
        have hk8 := HK8.out.1.below hb10 HK8.out.1.lt
        have hk4 := HK8.out.2.below hb10 HK8.out.2.lt
        have hbw := below_step HR9.out.2.2 hb10
        have HL := Lib.hid (show Blk W11 g10 66 .u8 (List.replicate 32 0) ∧ Blk W11 g8 85 .u8 (xorB 92 KK) ∧ Blk W11 g4 66 .u8 (List.replicate 32 0) ∧ Below w.heap.size w W11 ∧ g8 < g10 ∧ g4 < g10 ∧ w.heap.size ≤ g10 ∧ D.length = 32 ∧ D = sha2 (xorB 54 KK ++ l1) from
          ⟨by rw [hW11, hg10]; exact Blk.new w10 66 .u8 (List.replicate 32 0), hk8.below hB11 (by rw [hg10]; exact hk8.lt), hk4.below hB11 (by rw [hg10]; exact hk4.lt), hbw.trans (hB11.mono (by rw [hg10]; exact hbw.size)), by rw [hg10]; exact hk8.lt, by rw [hg10]; exact hk4.lt, by rw [hg10]; exact hbw.size, hDl, hD⟩)
        have HS11 := Lib.hid (show g10 = w10.heap.size ∧ W11 = w10.alloc _ from ⟨hg10, hW11⟩)
        clear hk8 hk4 hbw hB11 hg10 hW11 hb10 hD hDl
        go_upto_region 14 with (refine gate_ (.store 66 (.tmp 10) (.tmp 39)) rfl ?_; rw [← HS11.out.1, ← HS11.out.2]; refine store_blk2 (m := D) rfl rfl rfl rfl rfl HL.out.1 (by rw [HL.out.2.2.2.2.2.2.2.1]; rfl) (by rw [HL.out.2.2.2.2.2.2.2.1]; kernel_rfl) ?_; intro w12 hk12 hb12 hf12; have HM := Lib.hid (show Blk w12 g10 66 .u8 D ∧ Blk w12 g8 85 .u8 (xorB 92 KK) ∧ Blk w12 g4 66 .u8 (List.replicate 32 0) ∧ Below w.heap.size w w12 from ⟨hk12, hf12 _ _ _ _ (by have := HL.out; omega) HL.out.2.1, hf12 _ _ _ _ (by have := HL.out; omega) HL.out.2.2.1, hb12 _ _ HL.out.2.2.2.1 (by have := HL.out; omega)⟩); clear hk12 hb12 hf12)
        refine wp_region_quiet_tailC_at 2 (by kernel_rfl) (by kernel_rfl) (by kernel_rfl) (by kernel_rfl) ?_
        simp only [List.take_succ_cons, List.take_zero, List.drop_succ_cons, List.drop_zero]
        repeat (quiet_step (fail))
        refine wpQuiet_nil ?_
        intro _ hw'
        obtain ⟨nq, hw''⟩ := hw'
        subst hw''
        have HP := Lib.hid (show Blk (w12.drewN nq) g10 66 .u8 D ∧ Blk (w12.drewN nq) g8 85 .u8 (xorB 92 KK) ∧ Blk (w12.drewN nq) g4 66 .u8 (List.replicate 32 0) ∧ Below w.heap.size w (w12.drewN nq) from ⟨HM.out.1.drew nq, HM.out.2.1.drew nq, HM.out.2.2.1.drew nq, below_drewN HM.out.2.2.2 nq⟩)
        generalize w12.drewN nq = W12 at HP ⊢
        have hrD : Rd W12 (some ⟨g10, 0, none⟩) 32 D := by have := HP.out.1.row (by rw [HL.out.2.2.2.2.2.2.2.1]; decide); rwa [HL.out.2.2.2.2.2.2.2.1] at this
        have HRD := Lib.hid hrD
        clear hrD
        go_wp2_with (at_builtin; refine app_full rfl rfl rfl rfl HE3.out.2.2.2.2.2 HP.out.2.1 HRD.out (by decide) ?_)
        intro A13 c13 w13 hc13 hr13 hb13
        have HR13 := Lib.hid (show Rd w13 A13 (64 + 32) (xorB 92 KK ++ D) ∧ 64 + 32 ≤ c13 ∧ Below w.heap.size w w13 ∧ Blk w13 g4 66 .u8 (List.replicate 32 0) from ⟨hr13, hc13, below_step HP.out.2.2.2 hb13, HP.out.2.2.1.below hb13 HP.out.2.2.1.lt⟩)
        clear hr13 hc13 hb13
        go_wp2_with fail
        have HY := Lib.hid (show Bytes (xorB 92 KK ++ D) by rw [HL.out.2.2.2.2.2.2.2.2]; exact app_Bytes (xorB_Bytes _ _) (sha2_Bytes _))
        refine (Sha256_calls A13 c13 _ _ HR13.out.1 HY.out HR13.out.2.1 (by decide) (HI.out.2.2.2.2.1.below HR13.out.2.2.1 HI.out.2.2.2.2.1.lt)).mono ?_
        rintro e w14 ⟨rfl, hb14⟩
        have HZ := Lib.hid (show Blk w14 g4 66 .u8 (List.replicate 32 0) ∧ Below w.heap.size w w14 from ⟨HR13.out.2.2.2.below hb14 HR13.out.2.2.2.lt, below_step HR13.out.2.2.1 hb14⟩)
        clear hb14
        go_wp2_with (refine gate_ (.store 66 (.tmp 4) (.tmp 43)) rfl ?_; refine store_blk2 (m := sha2 (xorB 92 KK ++ D)) rfl rfl rfl rfl rfl HZ.out.1 rfl (by rw [sha2_length]; kernel_rfl) ?_; intro w15 hk15 hb15 hf15)
        refine bodyPost_ret (results_blk rfl rfl hk15 (by kernel_rfl) (by rw [sha2_length]; kernel_rfl)) rfl ?_
        refine ⟨?_, hb15 _ _ HZ.out.2 (by have := HI.out; omega)⟩
        have he : mac l0 l1 = sha2 (xorB 92 KK ++ D) := by rw [HL.out.2.2.2.2.2.2.2.2, HC.out.2.2.2.2]; rfl
        rw [he]
end Go.Proofs.YtcgenmogedndjaaDoor
namespace Go.Proofs.YtcgenmogedndjaaDoor
open Go.RowKit Go.Proofs.YtcgenmogedndjaaDoorW.PrintWords
/-- One bit's step, as the walk spells it. -/
def sumBit (c : Int) : Int := bits BinOp.xor IntKind.u32 (c / 2) (bits BinOp.and IntKind.u32 2197175160 (-(bits BinOp.and IntKind.u32 c 1) % 4294967296))
def sumByte (c x : Int) : Int := iter sumBit 8 (bits BinOp.xor IntKind.u32 c (x % 4294967296))
def sumBytes (l : List Int) : Int := l.foldl sumByte 4294967295
def wireSum (l : List Int) : Int := bits .xor .u32 4294967295 (sumBytes l)
def wire_Sum.f (l : List Int) : Option Int := some (wireSum l)
end Go.Proofs.YtcgenmogedndjaaDoor
namespace Go.Proofs.YtcgenmogedndjaaDoor
open Go.RowKit Go.Proofs.YtcgenmogedndjaaDoorW.PrintWords
set_option maxHeartbeats 800000 in
theorem Equal_calls {n m : Nat} (A0 : Option Addr) (c0 : Nat) (l0 : List Int) (A1 : Option Addr) (c1 : Nat) (l1 : List Int) (w : World) (hr0 : Kd.C (Kd.int .u8) w A0 n l0) (hr1 : Kd.C (Kd.int .u8) w A1 m l1) (hb0 : Bytes l0) (hb1 : Bytes l1) :
    Calls Tryd.prog 38 #[.slice A0 n c0, .slice A1 m c1] w fun e w' => e = .returned (.bool (decide (l0 = l1))) ∧ Drawn0 w w' := by
  have k0 := Kd.C_string (P := Tryd.prog) (src := 34) (dst := 9) (e := 5) Tryd.underlying34 Tryd.underlying5 Tryd.underlying9 (c := c0) hr0
  have k1 := Kd.C_string (P := Tryd.prog) (src := 34) (dst := 9) (e := 5) Tryd.underlying34 Tryd.underlying5 Tryd.underlying9 (c := c1) hr1
  clear hr0 hr1
  go_enter Tryd.func38, Tryd.ntmps38
  go_wp2
  go_ret
  exact ⟨ret_bool (strOf_eql hb0 hb1), Drawn0.refl _⟩
theorem Equal_true {n m : Nat} (A0 : Option Addr) (c0 : Nat) (l0 : List Int) (A1 : Option Addr) (c1 : Nat) (l1 : List Int) (w : World) (hr0 : Kd.C (Kd.int .u8) w A0 n l0) (hr1 : Kd.C (Kd.int .u8) w A1 m l1) (hb0 : Bytes l0) (he : l0 = l1) :
    Calls Tryd.prog 38 #[.slice A0 n c0, .slice A1 m c1] w fun e w' => e = .returned (.bool true) ∧ Drawn0 w w' := by
  subst he
  exact (Equal_calls A0 c0 l0 A1 c1 l0 w hr0 hr1 hb0 hb0).mono fun e w' ⟨h, k⟩ => ⟨by rw [h, decide_eq_true rfl], k⟩
end Go.Proofs.YtcgenmogedndjaaDoor
namespace Go.Proofs.YtcgenmogedndjaaDoor
open Go.RowKit Go.Proofs.YtcgenmogedndjaaDoorW.PrintWords
theorem Rd.take {w : World} {A : Option Addr} {n : Nat} {l : List Int} (h : Rd w A n l) (m : Nat) (hm : m ≤ n) : Rd w A m (l.take m) := by
  have hl := Kd.C_len h
  have := Kd.C_take (k := Kd.int .u8) (m := m) (hl ▸ h) (by omega)
  rwa [List.length_take, Nat.min_eq_left (by omega)] at this
end Go.Proofs.YtcgenmogedndjaaDoor
namespace Go.Proofs.YtcgenmogedndjaaDoor
open Go.RowKit Go.Proofs.YtcgenmogedndjaaDoorW.PrintWords
theorem wrap_id {x : Int} (h0 : 0 ≤ x) (h1 : x < 9223372036854775808) : IntKind.i64.wrap x = x := by rw [IntKind.wrap_i64]; omega
end Go.Proofs.YtcgenmogedndjaaDoor
namespace Go.Proofs.YtcgenmogedndjaaDoor
open Go.RowKit Go.Proofs.YtcgenmogedndjaaDoorW.PrintWords
/-- A cursor over bytes, a of which are read: its own block g, the place's block p. -/
structure Cur (w : World) (g p : Nat) (A : Option Addr) (n c : Nat) (l : List Int) (a : Nat) : Prop where
  own : w.heap[g]? = some (.cells #[.pointer (some ⟨p, 0, none⟩)] 100 (0, 0))
  place : w.heap[p]? = some (.cells #[.slice A n c, .int .i64 a] 98 (0, 0))
  row : Rd w A n l
  part : g ≠ p
  far : ∀ ad, A = some ad → ad.block ≠ p
  cap : n ≤ c
  le : a ≤ n
theorem Cur.x0 {w : World} {g p : Nat} {A : Option Addr} {n c : Nat} {l : List Int} {a : Nat} (h : Cur w g p A n c l a) : w.cell? ⟨g, 0, none⟩ = some (.pointer (some ⟨p, 0, none⟩)) := by
  simp [World.cell?, h.own]
theorem Cur.x1 {w : World} {g p : Nat} {A : Option Addr} {n c : Nat} {l : List Int} {a : Nat} (h : Cur w g p A n c l a) : w.cell? ⟨p, 0, none⟩ = some (.slice A n c) := by
  simp [World.cell?, h.place]
theorem Cur.x2 {w : World} {g p : Nat} {A : Option Addr} {n c : Nat} {l : List Int} {a : Nat} (h : Cur w g p A n c l a) : w.cell? ⟨p, 1, none⟩ = some (.int .i64 a) := by
  simp [World.cell?, h.place]
theorem Cur.f2 {w : World} {g p : Nat} {A : Option Addr} {n c : Nat} {l : List Int} {a : Nat} (h : Cur w g p A n c l a) : w.frozen? ⟨p, 1, none⟩ = false := by
  simp [World.frozen?, h.place]
theorem lt_of_heap {w : World} {k : Nat} {o : Obj} (h : w.heap[k]? = some o) : k < w.heap.size := by
  rcases Nat.lt_or_ge k w.heap.size with hl | hl
  · exact hl
  · rw [Array.getElem?_eq_none hl] at h
    cases h
theorem addr_block (a : Addr) (n : Nat) : (a.add n).block = a.block := by unfold Addr.add; split <;> rfl
theorem Rd.grown {w w' : World} {row : Option Nat} {A : Option Addr} {n : Nat} {l : List Int} (h : Rd w A n l) (hg : w.grownBy w' row) (hf : ∀ ad, A = some ad → some ad.block ≠ row) : Rd w' A n l := by
  cases A with
  | none =>
    obtain ⟨rfl, rfl⟩ := h.isNil
    exact Rd.empty _ _
  | some ad =>
    refine Rd.mk (Kd.C_len h) (Kd.C_max h) fun j hj => ?_
    obtain ⟨ad', e, hc⟩ := Rd.cells h (by omega)
    cases e
    exact hg.cell (hc j hj) (by rw [addr_block]; exact hf ad rfl)
theorem Cur.grown {w w' : World} {g p : Nat} {A : Option Addr} {n c : Nat} {l : List Int} {a : Nat} (h : Cur w g p A n c l a) {row : Option Nat} (hg : w.grownBy w' row) (h1 : some g ≠ row) (h2 : some p ≠ row) (h3 : ∀ ad, A = some ad → some ad.block ≠ row) : Cur w' g p A n c l a :=
  ⟨(hg.block g (lt_of_heap h.own) h1).trans h.own, (hg.block p (lt_of_heap h.place) h2).trans h.place, h.row.grown hg h3, h.part, h.far, h.cap, h.le⟩
theorem Cur.below {w w' : World} {g p : Nat} {A : Option Addr} {n c : Nat} {l : List Int} {a : Nat} (h : Cur w g p A n c l a) (hb : Below w.heap.size w w') : Cur w' g p A n c l a :=
  ⟨(hb.block g (lt_of_heap h.own)).trans h.own, (hb.block p (lt_of_heap h.place)).trans h.place, Kd.C_below h.row hb, h.part, h.far, h.cap, h.le⟩
theorem Cur.set {w : World} {g p : Nat} {A : Option Addr} {n c : Nat} {l : List Int} {a : Nat} (h : Cur w g p A n c l a) (b : Nat) (hb : b ≤ n) : Cur (w.setCell ⟨p, 1, none⟩ (.int .i64 b)) g p A n c l b := by
  have hg := Lib.grownBy_setCell w p 1 (.int .i64 b)
  refine ⟨(hg.block g (lt_of_heap h.own) (by intro e; exact h.part (Option.some.inj e))).trans h.own, ?_, h.row.grown hg (fun ad he e => h.far ad he (Option.some.inj e)), h.part, h.far, h.cap, hb⟩
  have hp := h.place
  simp [World.setCell, Array.getElem?_modify, hp]
set_option maxHeartbeats 400000 in
theorem made_calls {g p : Nat} {A : Option Addr} {n c : Nat} {l : List Int} {a : Nat} (w : World) (h : Cur w g p A n c l a) :
    Calls Tryd.prog 66 #[.pointer (some ⟨g, 0, none⟩)] w fun e w' => e = .returned (.bool true) ∧ w' = w := by
  have x0 := h.x0
  clear h
  go_enter Tryd.func66, Tryd.ntmps66
  go_wp2
  go_ret
  exact ⟨rfl, rfl⟩
set_option maxHeartbeats 400000 in
theorem left_calls {g p : Nat} {A : Option Addr} {n c : Nat} {l : List Int} {a : Nat} (w : World) (h : Cur w g p A n c l a) :
    Calls Tryd.prog 65 #[.pointer (some ⟨p, 0, none⟩)] w fun e w' => e = .returned (.int .i64 ((n : Int) - a)) ∧ Drawn0 w w' := by
  have x1 := h.x1
  have x2 := h.x2
  have hm := Kd.C_max h.row
  have hle := h.le
  clear h
  go_enter Tryd.func65, Tryd.ntmps65
  have hw : IntKind.i64.wrap ((n : Int) - a) = n - a := wrap_id (by omega) (by omega)
  go_wp2_with fail
  go_quiet (fail)
  go_wp2
  go_ret
  exact ⟨rfl, (Drawn0.refl _).step _⟩
end Go.Proofs.YtcgenmogedndjaaDoor
namespace Go.Proofs.YtcgenmogedndjaaDoor
open Go.RowKit Go.Proofs.YtcgenmogedndjaaDoorW.PrintWords
set_option maxHeartbeats 400000 in
theorem End_more {g p : Nat} {A : Option Addr} {n c : Nat} {l : List Int} {a : Nat} (w : World) (h : Cur w g p A n c l a) (ha : a < n) :
    Calls Tryd.prog 52 #[.pointer (some ⟨g, 0, none⟩)] w fun e w' => e = .returned (.int .i64 3) ∧ Drawn0 w w' := by
  have H := Lib.hid h
  have x0 := h.x0
  have hd : decide ((0 : Int) < n - a) = true := decide_eq_true (by omega)
  clear h
  go_enter Tryd.func52, Tryd.ntmps52
  go_wp2_with fail
  refine (made_calls _ H.out).mono ?_
  rintro e w1 ⟨rfl, rfl⟩
  go_wp2_with fail
  refine (left_calls _ H.out).mono ?_
  rintro e w2 ⟨rfl, hd2⟩
  have HD := Lib.hid hd2
  clear hd2
  go_wp2
  go_ret
  exact ⟨rfl, HD.out⟩
set_option maxHeartbeats 400000 in
theorem End_ok {g p : Nat} {A : Option Addr} {n c : Nat} {l : List Int} {a : Nat} (w : World) (h : Cur w g p A n c l a) (ha : a = n) :
    Calls Tryd.prog 52 #[.pointer (some ⟨g, 0, none⟩)] w fun e w' => e = .returned (.int .i64 0) ∧ Drawn0 w w' := by
  have H := Lib.hid h
  have x0 := h.x0
  have hd : decide ((0 : Int) < n - a) = false := decide_eq_false (by omega)
  clear h
  go_enter Tryd.func52, Tryd.ntmps52
  go_wp2_with fail
  refine (made_calls _ H.out).mono ?_
  rintro e w1 ⟨rfl, rfl⟩
  go_wp2_with fail
  refine (left_calls _ H.out).mono ?_
  rintro e w2 ⟨rfl, hd2⟩
  have HD := Lib.hid hd2
  clear hd2
  go_wp2
  go_ret
  exact ⟨rfl, HD.out⟩
set_option maxHeartbeats 400000 in
theorem From_calls {n : Nat} (A0 : Option Addr) (c0 : Nat) (l : List Int) (w : World) (hr0 : Rd w A0 n l) (hs : n ≤ 140737488351232) :
    Calls Tryd.prog 49 #[.slice A0 n c0] w fun e w' => ∃ (g p : Nat) (A : Option Addr) (c : Nat), e = .returned (.pointer (some ⟨g, 0, none⟩)) ∧ Cur w' g p A n c l 0 ∧ w.heap.size ≤ g ∧ w.heap.size ≤ p ∧ (∀ ad, A = some ad → w.heap.size ≤ ad.block) ∧ Below w.heap.size w w' := by
  have HR := Lib.hid hr0
  have hlen := Kd.C_len hr0
  have HL := Lib.hid hlen
  clear hr0 hlen
  go_enter Tryd.func49, Tryd.ntmps49
  go_wp2_with (at_builtin; refine app_row (Own.nil w w) HR.out (Below.refl _ _) (by simp; omega) rfl rfl rfl rfl ?_)
  intro v1 w1 ho1 hb1 _ _
  have hge := ho1.ge
  have hlt := ho1.lt
  obtain ⟨A1, c1, rfl, hc1, hrd1⟩ := ho1.reads
  have HGE := Lib.hid hge
  have HLT := Lib.hid hlt
  have HB := Lib.hid hb1
  have HR1 := Lib.hid hrd1
  have HC1 := Lib.hid hc1
  clear ho1 hge hlt hb1 hrd1 hc1 HR
  go_wp2
  go_ret
  rw [HL.out]
  rw [HL.out] at HR1 HC1
  have hq : Below w1.heap.size w1 ((w1.alloc (.cells #[.slice A1 n c1, .int .i64 0] 98)).alloc (.cells #[.pointer (some ⟨w1.heap.size, 0, none⟩)] 100)) := below_alloc (below_alloc (Below.refl _ _) _) _
  refine ⟨w1.heap.size + 1, w1.heap.size, A1, c1, rfl, ⟨?_, ?_, Kd.C_below HR1.out hq, by omega, fun ad he => ?_, HC1.out, Nat.zero_le _⟩, by have := HB.out.size; omega, HB.out.size, fun ad he => HGE.out ad.block (by rw [he]; rfl), below_step HB.out hq⟩
  · have := heap_alloc_new (w1.alloc (.cells #[.slice A1 n c1, .int .i64 0] 98)) (.cells #[.pointer (some ⟨w1.heap.size, 0, none⟩)] 100)
    simpa using this
  · rw [Below.heap_alloc _ _ _ (by simp)]
    exact heap_alloc_new _ _
  · have := HLT.out ad.block (by rw [he]; rfl)
    omega
end Go.Proofs.YtcgenmogedndjaaDoor
