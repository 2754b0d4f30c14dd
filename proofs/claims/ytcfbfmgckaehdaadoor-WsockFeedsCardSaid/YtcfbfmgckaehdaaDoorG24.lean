/- The texts WsShut in one. -/
import Derived.Test.YtcfbfmgckaehdaaDoorG23
namespace Go.Proofs.YtcfbfmgckaehdaaDoor
open Go.RowKit Go.Proofs.YtcfbfmgckaehdaaDoorW.PrintWords
/-- What shut answers. -/
def ShutPost (w0 w : World) (H : Nat → Prop) (gr : Nat) (c : Cn) (x : Evt) (Ab : Option Addr) (nb : Nat) (e : Ending) (w1 : World) : Prop :=
  ∃ (A : Option Addr) (n cb : Nat), EndR w0 w H gr c x.op x.code (.slice A n cb) x.bad e w1 ∧ Rd w1 A n x.load ∧ ∀ az, A = some az → 0 < n → ∃ ab, Ab = some ab ∧ 0 < nb ∧ az.block = ab.block
set_option maxRecDepth 20000 in
set_option maxHeartbeats 3200000 in
theorem WsShut_nil {n : Nat} (w0 w : World) (H : Nat → Prop) (gr : Nat) (c : Cn) (F : List Frm) (A : Option Addr) (cb : Nat) (b : List Int) (h : RefAt w0 w H gr c F) (hB : Below w0.heap.size w0 w) (hr : Rd w A n b) (hcb : n ≤ cb) (hgb : ∀ ad, A = some ad → 0 < n → ad.block ≠ gr ∧ ad.block < w.heap.size) (hby : Bytes b) (hn : n ≤ 16384) (h0 : n = 0) :
    Calls Tryd.prog 54 #[.pointer (some ⟨gr, 0, none⟩), .slice A n cb] w (ShutPost w0 w H gr c (closeE b) A n) := by
  have hbl : b.length = n := Kd.C_len hr
  obtain ⟨g4, hg4⟩ : ∃ g, g = w.heap.size := ⟨_, rfl⟩
  obtain ⟨W1, hW1⟩ : ∃ W, W = w.alloc (.cells #[.int .i64 0, .int .i64 0, .slice none 0 0, .bool false] 51) := ⟨_, rfl⟩
  have b1 : Below w.heap.size w W1 := by rw [hW1]; exact below_alloc (Below.refl _ _) _
  have k4 : Whole W1 g4 51 ev0 := by rw [hW1, hg4]; exact Whole.new w _ _
  have hgr := h.gr
  have HS := Lib.hid (show g4 = w.heap.size ∧ W1 = w.alloc _ from ⟨hg4, hW1⟩)
  have H1 := Lib.hid (show Below w.heap.size w W1 ∧ Below w0.heap.size w0 W1 ∧ RefAt w0 W1 (fun k => H k ∨ k = g4) gr c F ∧ Whole W1 g4 51 ev0 ∧ g4 ≠ gr ∧ w.heap.size ≤ g4 ∧ w0.heap.size ≤ g4 ∧ H gr from ⟨b1, below_step hB b1, h.set b1 (by omega), k4, by omega, by omega, by have := hB.size; omega, h.gr.1⟩)
  have HI := Lib.hid (show Rd W1 A n b ∧ n ≤ cb ∧ (∀ ad, A = some ad → 0 < n → ad.block ≠ gr ∧ ad.block ≠ g4 ∧ ad.block < w.heap.size) ∧ Bytes b ∧ n ≤ 16384 ∧ b.length = n from ⟨Kd.C_below hr b1, hcb, fun ad he h0 => ⟨(hgb ad he h0).1, by have := (hgb ad he h0).2; omega, (hgb ad he h0).2⟩, hby, hn, hbl⟩)
  clear b1 k4 hgr hg4 hW1 h hB hr hcb hgb hby hn hbl
  have HV := Lib.hid (show closeE b = ⟨8, 1005, [], false⟩ by unfold closeE closeV; rw [if_pos (by rw [HI.out.2.2.2.2.2]; exact h0)])
  have d0 : ((n : Int) == 0) = true := by rw [beq_iff_eq]; omega
  clear h0
  go_enter Tryd.func54, Tryd.ntmps54
  go_upto_region 1 with (fail)
  rw [← HS.out.1, ← HS.out.2]
  go_wp2_with fail
  refine (WsEnd_calls w0 _ (fun k => H k ∨ k = g4) gr c F 8 1005 none 0 0 false H1.out.2.2.1 H1.out.2.1).mono ?_
  rintro e w2 he2
  have H2 := Lib.hid (show EndR w0 W1 (fun k => H k ∨ k = g4) gr c 8 1005 (.slice none 0 0) false e w2 ∧ Below w0.heap.size w0 w2 ∧ Whole w2 g4 51 ev0 from ⟨he2, he2.2.2.2, H1.out.2.2.2.1.far (he2.2.2.1.2 g4 H1.out.2.2.2.1.lt H1.out.2.2.2.2.1)⟩)
  obtain rfl := he2.1
  clear he2
  go_wp2_with (refine gate_ (.store 51 (.tmp 4) (.tmp 13)) rfl ?_; refine store_whole rfl rfl rfl rfl rfl H2.out.2.2 rfl (by simp [Value.oneCell']) rfl (by kernel_rfl) ?_; intro w9 hk9 hb9 hf9 hg9)
  refine bodyPost_ret (results_ct rfl _ _ g4 _ _ _ _ rfl hk9 Tryd.underlying51 rfl (by kernel_rfl)) rfl ?_
  rw [HV.out]
  exact ⟨_, _, _, EndR.own H2.out.1 rfl (Keep1.of_below H1.out.1) H1.out.2.2.2.2.2.1 H1.out.2.2.2.2.1 H1.out.2.2.2.2.2.2.2 hf9 hg9.size (hb9 _ _ H2.out.2.1 H1.out.2.2.2.2.2.2.1), Rd.empty _ _, fun _ h => (nomatch h)⟩
set_option maxRecDepth 20000 in
set_option maxHeartbeats 3200000 in
theorem WsShut_one {n : Nat} (w0 w : World) (H : Nat → Prop) (gr : Nat) (c : Cn) (F : List Frm) (A : Option Addr) (cb : Nat) (b : List Int) (h : RefAt w0 w H gr c F) (hB : Below w0.heap.size w0 w) (hr : Rd w A n b) (hcb : n ≤ cb) (hgb : ∀ ad, A = some ad → 0 < n → ad.block ≠ gr ∧ ad.block < w.heap.size) (hby : Bytes b) (hn : n ≤ 16384) (h1 : n = 1) :
    Calls Tryd.prog 54 #[.pointer (some ⟨gr, 0, none⟩), .slice A n cb] w (ShutPost w0 w H gr c (closeE b) A n) := by
  have hbl : b.length = n := Kd.C_len hr
  obtain ⟨g4, hg4⟩ : ∃ g, g = w.heap.size := ⟨_, rfl⟩
  obtain ⟨W1, hW1⟩ : ∃ W, W = w.alloc (.cells #[.int .i64 0, .int .i64 0, .slice none 0 0, .bool false] 51) := ⟨_, rfl⟩
  have b1 : Below w.heap.size w W1 := by rw [hW1]; exact below_alloc (Below.refl _ _) _
  have k4 : Whole W1 g4 51 ev0 := by rw [hW1, hg4]; exact Whole.new w _ _
  have hgr := h.gr
  have HS := Lib.hid (show g4 = w.heap.size ∧ W1 = w.alloc _ from ⟨hg4, hW1⟩)
  have H1 := Lib.hid (show Below w.heap.size w W1 ∧ Below w0.heap.size w0 W1 ∧ RefAt w0 W1 (fun k => H k ∨ k = g4) gr c F ∧ Whole W1 g4 51 ev0 ∧ g4 ≠ gr ∧ w.heap.size ≤ g4 ∧ w0.heap.size ≤ g4 ∧ H gr from ⟨b1, below_step hB b1, h.set b1 (by omega), k4, by omega, by omega, by have := hB.size; omega, h.gr.1⟩)
  have HI := Lib.hid (show Rd W1 A n b ∧ n ≤ cb ∧ (∀ ad, A = some ad → 0 < n → ad.block ≠ gr ∧ ad.block ≠ g4 ∧ ad.block < w.heap.size) ∧ Bytes b ∧ n ≤ 16384 ∧ b.length = n from ⟨Kd.C_below hr b1, hcb, fun ad he h0 => ⟨(hgb ad he h0).1, by have := (hgb ad he h0).2; omega, (hgb ad he h0).2⟩, hby, hn, hbl⟩)
  clear b1 k4 hgr hg4 hW1 h hB hr hcb hgb hby hn hbl
  have HV := Lib.hid (show closeE b = ⟨0, 1002, [], true⟩ by unfold closeE closeV; rw [if_neg (by rw [HI.out.2.2.2.2.2]; omega), if_pos (.inl (by rw [HI.out.2.2.2.2.2]; exact h1))])
  have d0 : ((n : Int) == 0) = false := by rw [beq_eq_false_iff_ne]; omega
  have d1 : ((n : Int) == 1) = true := by rw [beq_iff_eq]; omega
  clear h1
  go_enter Tryd.func54, Tryd.ntmps54
  go_upto_region 1 with (fail)
  rw [← HS.out.1, ← HS.out.2]
  go_wp2_with fail
  refine (WsFailR_calls w0 _ (fun k => H k ∨ k = g4) gr c F 1002 H1.out.2.2.1 H1.out.2.1).mono ?_
  rintro e w2 he2
  have H2 := Lib.hid (show EndR w0 W1 (fun k => H k ∨ k = g4) gr c 0 1002 (.slice none 0 0) true e w2 ∧ Below w0.heap.size w0 w2 ∧ Whole w2 g4 51 ev0 from ⟨he2, he2.2.2.2, H1.out.2.2.2.1.far (he2.2.2.1.2 g4 H1.out.2.2.2.1.lt H1.out.2.2.2.2.1)⟩)
  obtain rfl := he2.1
  clear he2
  go_wp2_with (refine gate_ (.store 51 (.tmp 4) (.tmp 20)) rfl ?_; refine store_whole rfl rfl rfl rfl rfl H2.out.2.2 rfl (by simp [Value.oneCell']) rfl (by kernel_rfl) ?_; intro w9 hk9 hb9 hf9 hg9)
  refine bodyPost_ret (results_ct rfl _ _ g4 _ _ _ _ rfl hk9 Tryd.underlying51 rfl (by kernel_rfl)) rfl ?_
  rw [HV.out]
  exact ⟨_, _, _, EndR.own H2.out.1 rfl (Keep1.of_below H1.out.1) H1.out.2.2.2.2.2.1 H1.out.2.2.2.2.1 H1.out.2.2.2.2.2.2.2 hf9 hg9.size (hb9 _ _ H2.out.2.1 H1.out.2.2.2.2.2.2.1), Rd.empty _ _, fun _ h => (nomatch h)⟩
set_option maxRecDepth 20000 in
set_option maxHeartbeats 3200000 in
theorem WsShut_may {n : Nat} (w0 w : World) (H : Nat → Prop) (gr : Nat) (c : Cn) (F : List Frm) (A : Option Addr) (cb : Nat) (b : List Int) (h : RefAt w0 w H gr c F) (hB : Below w0.heap.size w0 w) (hr : Rd w A n b) (hcb : n ≤ cb) (hgb : ∀ ad, A = some ad → 0 < n → ad.block ≠ gr ∧ ad.block < w.heap.size) (hby : Bytes b) (hn : n ≤ 16384) (h2 : 2 ≤ n) (hm : mayB (256 * rd b 0 + rd b 1) = false) :
    Calls Tryd.prog 54 #[.pointer (some ⟨gr, 0, none⟩), .slice A n cb] w (ShutPost w0 w H gr c (closeE b) A n) := by
  have hbl : b.length = n := Kd.C_len hr
  obtain ⟨g4, hg4⟩ : ∃ g, g = w.heap.size := ⟨_, rfl⟩
  obtain ⟨W1, hW1⟩ : ∃ W, W = w.alloc (.cells #[.int .i64 0, .int .i64 0, .slice none 0 0, .bool false] 51) := ⟨_, rfl⟩
  have b1 : Below w.heap.size w W1 := by rw [hW1]; exact below_alloc (Below.refl _ _) _
  have k4 : Whole W1 g4 51 ev0 := by rw [hW1, hg4]; exact Whole.new w _ _
  have hgr := h.gr
  have HS := Lib.hid (show g4 = w.heap.size ∧ W1 = w.alloc _ from ⟨hg4, hW1⟩)
  have H1 := Lib.hid (show Below w.heap.size w W1 ∧ Below w0.heap.size w0 W1 ∧ RefAt w0 W1 (fun k => H k ∨ k = g4) gr c F ∧ Whole W1 g4 51 ev0 ∧ g4 ≠ gr ∧ w.heap.size ≤ g4 ∧ w0.heap.size ≤ g4 ∧ H gr from ⟨b1, below_step hB b1, h.set b1 (by omega), k4, by omega, by omega, by have := hB.size; omega, h.gr.1⟩)
  have HI := Lib.hid (show Rd W1 A n b ∧ n ≤ cb ∧ (∀ ad, A = some ad → 0 < n → ad.block ≠ gr ∧ ad.block ≠ g4 ∧ ad.block < w.heap.size) ∧ Bytes b ∧ n ≤ 16384 ∧ b.length = n from ⟨Kd.C_below hr b1, hcb, fun ad he h0 => ⟨(hgb ad he h0).1, by have := (hgb ad he h0).2; omega, (hgb ad he h0).2⟩, hby, hn, hbl⟩)
  clear b1 k4 hgr hg4 hW1 h hB hr hcb hgb hby hn hbl
  have HV := Lib.hid (show closeE b = ⟨0, 1002, [], true⟩ by unfold closeE closeV; rw [if_neg (by rw [HI.out.2.2.2.2.2]; omega), if_pos (.inr hm)])
  have d0 : ((n : Int) == 0) = false := by rw [beq_eq_false_iff_ne]; omega
  have d1 : ((n : Int) == 1) = false := by rw [beq_eq_false_iff_ne]; omega
  obtain ⟨ad, rfl, hcell⟩ := Rd.cells HI.out.1 (by omega)
  have x0 := Rd.at0 HI.out.1 (by omega)
  have x1 := (Rd.lit2 HI.out.1 1 (by decide) (by omega)).1
  obtain ⟨x, hx⟩ : ∃ x, x = rd b 0 := ⟨_, rfl⟩
  obtain ⟨y, hy⟩ : ∃ y, y = rd b ((1 : Nat) : Int) := ⟨_, rfl⟩
  have hxb : 0 ≤ x ∧ x < 256 := by rw [hx]; exact rd_bytes0 HI.out.2.2.2.1 0
  have hyb : 0 ≤ y ∧ y < 256 := by rw [hy]; exact rd_bytes0 HI.out.2.2.2.1 1
  rw [← hx] at x0
  rw [← hy] at x1
  have e1 : rd b 0 = x := hx.symm
  have e2 : rd b 1 = y := hy.symm
  rw [e1, e2] at hm
  obtain ⟨K, hK⟩ : ∃ K, K = 256 * x + y := ⟨_, rfl⟩
  rw [← hK] at hm
  have w1' : IntKind.i64.wrap x = x := by rw [IntKind.wrap_i64]; omega
  have w2' : IntKind.i64.wrap y = y := by rw [IntKind.wrap_i64]; omega
  have w3' : IntKind.i64.wrap (256 * x) = 256 * x := by rw [IntKind.wrap_i64]; omega
  have w4' : IntKind.i64.wrap (256 * x + y) = K := by rw [IntKind.wrap_i64, hK]; omega
  have i0 : (0 : Int) < n := by omega
  have i1 : (1 : Int) < n := by omega
  have HKK := Lib.hid (show 256 * rd b 0 + rd b 1 = K by rw [e1, e2, hK])
  have HM := Lib.hid hm
  have h2n := Lib.hid h2
  clear hx hy hxb hyb e1 e2 hcell hm hK h2
  go_enter Tryd.func54, Tryd.ntmps54
  go_upto_region 1 with (fail)
  rw [← HS.out.1, ← HS.out.2]
  go_upto_region 5 with (fail)
  go_quiet (fail)
  have HJ := Lib.hid (show RefAt w0 (W1.drewN nq) (fun k => H k ∨ k = g4) gr c F ∧ Below w0.heap.size w0 (W1.drewN nq) ∧ Whole (W1.drewN nq) g4 51 ev0 ∧ Below w.heap.size w (W1.drewN nq) ∧ Rd (W1.drewN nq) (some ad) n b from ⟨H1.out.2.2.1.below (pw_below_drewN (Below.refl _ _) _), pw_below_drewN H1.out.2.1 _, H1.out.2.2.2.1.below (pw_below_drewN (Below.refl _ _) _) H1.out.2.2.2.1.lt, pw_below_drewN H1.out.1 _, Kd.C_below HI.out.1 (pw_below_drewN (Below.refl _ _) _)⟩)
  generalize W1.drewN nq = W3 at HJ ⊢
  clear x0 x1 w1' w2' w3' w4' i0 i1
  go_wp2_with fail
  refine (MayRef_calls K _).mono ?_
  rintro e w4 ⟨rfl, hb4⟩
  have H4 := Lib.hid (show RefAt w0 w4 (fun k => H k ∨ k = g4) gr c F ∧ Below w0.heap.size w0 w4 ∧ Whole w4 g4 51 ev0 ∧ Below w.heap.size w w4 ∧ Rd w4 (some ad) n b from ⟨HJ.out.1.below hb4, below_step HJ.out.2.1 hb4, HJ.out.2.2.1.below hb4 HJ.out.2.2.1.lt, below_step HJ.out.2.2.2.1 hb4, Kd.C_below HJ.out.2.2.2.2 hb4⟩)
  rw [HM.out]
  clear hb4
  go_wp2_with fail
  refine (WsFailR_calls w0 _ (fun k => H k ∨ k = g4) gr c F 1002 H4.out.1 H4.out.2.1).mono ?_
  rintro e w2 he2
  have H2 := Lib.hid (show EndR w0 w4 (fun k => H k ∨ k = g4) gr c 0 1002 (.slice none 0 0) true e w2 ∧ Below w0.heap.size w0 w2 ∧ Whole w2 g4 51 ev0 from ⟨he2, he2.2.2.2, H4.out.2.2.1.far (he2.2.2.1.2 g4 H4.out.2.2.1.lt H1.out.2.2.2.2.1)⟩)
  obtain rfl := he2.1
  clear he2
  go_wp2_with (refine gate_ (.store 51 (.tmp 4) (.tmp 37)) rfl ?_; refine store_whole rfl rfl rfl rfl rfl H2.out.2.2 rfl (by simp [Value.oneCell']) rfl (by kernel_rfl) ?_; intro w9 hk9 hb9 hf9 hg9)
  refine bodyPost_ret (results_ct rfl _ _ g4 _ _ _ _ rfl hk9 Tryd.underlying51 rfl (by kernel_rfl)) rfl ?_
  rw [HV.out]
  exact ⟨_, _, _, EndR.own H2.out.1 rfl (Keep1.of_below H4.out.2.2.2.1) H1.out.2.2.2.2.2.1 H1.out.2.2.2.2.1 H1.out.2.2.2.2.2.2.2 hf9 hg9.size (hb9 _ _ H2.out.2.1 H1.out.2.2.2.2.2.2.1), Rd.empty _ _, fun _ h => (nomatch h)⟩
set_option maxRecDepth 20000 in
set_option maxHeartbeats 3200000 in
theorem WsShut_bad {n : Nat} (w0 w : World) (H : Nat → Prop) (gr : Nat) (c : Cn) (F : List Frm) (A : Option Addr) (cb : Nat) (b : List Int) (h : RefAt w0 w H gr c F) (hB : Below w0.heap.size w0 w) (hr : Rd w A n b) (hcb : n ≤ cb) (hgb : ∀ ad, A = some ad → 0 < n → ad.block ≠ gr ∧ ad.block < w.heap.size) (hby : Bytes b) (hn : n ≤ 16384) (h2 : 2 ≤ n) (hm : mayB (256 * rd b 0 + rd b 1) = true) (hc : 0 ≤ charsOf (b.drop 2)) :
    Calls Tryd.prog 54 #[.pointer (some ⟨gr, 0, none⟩), .slice A n cb] w (ShutPost w0 w H gr c (closeE b) A n) := by
  have hbl : b.length = n := Kd.C_len hr
  obtain ⟨g4, hg4⟩ : ∃ g, g = w.heap.size := ⟨_, rfl⟩
  obtain ⟨W1, hW1⟩ : ∃ W, W = w.alloc (.cells #[.int .i64 0, .int .i64 0, .slice none 0 0, .bool false] 51) := ⟨_, rfl⟩
  have b1 : Below w.heap.size w W1 := by rw [hW1]; exact below_alloc (Below.refl _ _) _
  have k4 : Whole W1 g4 51 ev0 := by rw [hW1, hg4]; exact Whole.new w _ _
  have hgr := h.gr
  have HS := Lib.hid (show g4 = w.heap.size ∧ W1 = w.alloc _ from ⟨hg4, hW1⟩)
  have H1 := Lib.hid (show Below w.heap.size w W1 ∧ Below w0.heap.size w0 W1 ∧ RefAt w0 W1 (fun k => H k ∨ k = g4) gr c F ∧ Whole W1 g4 51 ev0 ∧ g4 ≠ gr ∧ w.heap.size ≤ g4 ∧ w0.heap.size ≤ g4 ∧ H gr from ⟨b1, below_step hB b1, h.set b1 (by omega), k4, by omega, by omega, by have := hB.size; omega, h.gr.1⟩)
  have HI := Lib.hid (show Rd W1 A n b ∧ n ≤ cb ∧ (∀ ad, A = some ad → 0 < n → ad.block ≠ gr ∧ ad.block ≠ g4 ∧ ad.block < w.heap.size) ∧ Bytes b ∧ n ≤ 16384 ∧ b.length = n from ⟨Kd.C_below hr b1, hcb, fun ad he h0 => ⟨(hgb ad he h0).1, by have := (hgb ad he h0).2; omega, (hgb ad he h0).2⟩, hby, hn, hbl⟩)
  clear b1 k4 hgr hg4 hW1 h hB hr hcb hgb hby hn hbl
  have d0 : ((n : Int) == 0) = false := by rw [beq_eq_false_iff_ne]; omega
  have d1 : ((n : Int) == 1) = false := by rw [beq_eq_false_iff_ne]; omega
  obtain ⟨ad, rfl, hcell⟩ := Rd.cells HI.out.1 (by omega)
  have x0 := Rd.at0 HI.out.1 (by omega)
  have x1 := (Rd.lit2 HI.out.1 1 (by decide) (by omega)).1
  obtain ⟨x, hx⟩ : ∃ x, x = rd b 0 := ⟨_, rfl⟩
  obtain ⟨y, hy⟩ : ∃ y, y = rd b ((1 : Nat) : Int) := ⟨_, rfl⟩
  have hxb : 0 ≤ x ∧ x < 256 := by rw [hx]; exact rd_bytes0 HI.out.2.2.2.1 0
  have hyb : 0 ≤ y ∧ y < 256 := by rw [hy]; exact rd_bytes0 HI.out.2.2.2.1 1
  rw [← hx] at x0
  rw [← hy] at x1
  have e1 : rd b 0 = x := hx.symm
  have e2 : rd b 1 = y := hy.symm
  rw [e1, e2] at hm
  obtain ⟨K, hK⟩ : ∃ K, K = 256 * x + y := ⟨_, rfl⟩
  rw [← hK] at hm
  have w1' : IntKind.i64.wrap x = x := by rw [IntKind.wrap_i64]; omega
  have w2' : IntKind.i64.wrap y = y := by rw [IntKind.wrap_i64]; omega
  have w3' : IntKind.i64.wrap (256 * x) = 256 * x := by rw [IntKind.wrap_i64]; omega
  have w4' : IntKind.i64.wrap (256 * x + y) = K := by rw [IntKind.wrap_i64, hK]; omega
  have i0 : (0 : Int) < n := by omega
  have i1 : (1 : Int) < n := by omega
  have HKK := Lib.hid (show 256 * rd b 0 + rd b 1 = K by rw [e1, e2, hK])
  have HM := Lib.hid hm
  have h2n := Lib.hid h2
  clear hx hy hxb hyb e1 e2 hcell hm hK h2
  obtain ⟨ch, hch⟩ : ∃ x, x = charsOf (b.drop 2) := ⟨_, rfl⟩
  have HCH := Lib.hid hch
  have HV := Lib.hid (show closeE b = ⟨0, 1007, [], true⟩ by unfold closeE closeV; rw [if_neg (by have := h2n.out; rw [HI.out.2.2.2.2.2]; omega), if_neg (by rw [HKK.out, HM.out, HI.out.2.2.2.2.2]; have := h2n.out; simp; omega), if_pos hc])
  rw [← hch] at hc
  have d5 : decide (0 ≤ ch) = true := decide_eq_true hc
  clear hc hch
  have m1 : (2 : Int) ≤ n := by have := h2n.out; omega
  have m2 : (2 : Int) ≤ cb := by have := h2n.out; have := HI.out; omega
  have m3 : (n : Int) ≤ cb := by have := HI.out; omega
  have m4 : 2 ≤ cb := by omega
  by_cases hc2 : cb = 2
  · have HRD := Lib.hid (show ∀ W, Rd W (some ad) n b → Rd W (some ad) (n - 2) (b.drop 2) from fun W hW => by
      have hn2 : n = 2 := by have := h2n.out; have := HI.out; omega
      rw [hn2, List.drop_of_length_le (by rw [HI.out.2.2.2.2.2]; omega)]
      exact Rd.empty _ _)
    go_enter Tryd.func54, Tryd.ntmps54
    go_upto_region 1 with (fail)
    rw [← HS.out.1, ← HS.out.2]
    go_upto_region 5 with (fail)
    go_quiet (fail)
    have HJ := Lib.hid (show RefAt w0 (W1.drewN nq) (fun k => H k ∨ k = g4) gr c F ∧ Below w0.heap.size w0 (W1.drewN nq) ∧ Whole (W1.drewN nq) g4 51 ev0 ∧ Below w.heap.size w (W1.drewN nq) ∧ Rd (W1.drewN nq) (some ad) n b from ⟨H1.out.2.2.1.below (pw_below_drewN (Below.refl _ _) _), pw_below_drewN H1.out.2.1 _, H1.out.2.2.2.1.below (pw_below_drewN (Below.refl _ _) _) H1.out.2.2.2.1.lt, pw_below_drewN H1.out.1 _, Kd.C_below HI.out.1 (pw_below_drewN (Below.refl _ _) _)⟩)
    generalize W1.drewN nq = W3 at HJ ⊢
    clear x0 x1 w1' w2' w3' w4' i0 i1
    go_wp2_with fail
    refine (MayRef_calls K _).mono ?_
    rintro e w4 ⟨rfl, hb4⟩
    have H4 := Lib.hid (show RefAt w0 w4 (fun k => H k ∨ k = g4) gr c F ∧ Below w0.heap.size w0 w4 ∧ Whole w4 g4 51 ev0 ∧ Below w.heap.size w w4 ∧ Rd w4 (some ad) n b from ⟨HJ.out.1.below hb4, below_step HJ.out.2.1 hb4, HJ.out.2.2.1.below hb4 HJ.out.2.2.1.lt, below_step HJ.out.2.2.2.1 hb4, Kd.C_below HJ.out.2.2.2.2 hb4⟩)
    rw [HM.out]
    clear hb4
    go_wp2_with fail
    refine (CharsRef_calls (some ad) _ (b.drop 2) _ (HRD.out _ H4.out.2.2.2.2) (by have := HI.out; omega) (HI.out.2.2.2.1.dp 2)).mono ?_
    rintro e w5 ⟨rfl, hb5⟩
    have H5 := Lib.hid (show RefAt w0 w5 (fun k => H k ∨ k = g4) gr c F ∧ Below w0.heap.size w0 w5 ∧ Whole w5 g4 51 ev0 ∧ Below w.heap.size w w5 ∧ Rd w5 (some ad) n b from ⟨H4.out.1.below hb5, below_step H4.out.2.1 hb5, H4.out.2.2.1.below hb5 H4.out.2.2.1.lt, below_step H4.out.2.2.2.1 hb5, Kd.C_below H4.out.2.2.2.2 hb5⟩)
    rw [← HCH.out]
    clear hb5
    go_wp2_with fail
    refine (WsFailR_calls w0 _ (fun k => H k ∨ k = g4) gr c F 1007 H5.out.1 H5.out.2.1).mono ?_
    rintro e w2 he2
    have H2 := Lib.hid (show EndR w0 w5 (fun k => H k ∨ k = g4) gr c 0 1007 (.slice none 0 0) true e w2 ∧ Below w0.heap.size w0 w2 ∧ Whole w2 g4 51 ev0 from ⟨he2, he2.2.2.2, H5.out.2.2.1.far (he2.2.2.1.2 g4 H5.out.2.2.1.lt H1.out.2.2.2.2.1)⟩)
    obtain rfl := he2.1
    clear he2
    go_wp2_with (refine gate_ (.store 51 (.tmp 4) (.tmp 45)) rfl ?_; refine store_whole rfl rfl rfl rfl rfl H2.out.2.2 rfl (by simp [Value.oneCell']) rfl (by kernel_rfl) ?_; intro w9 hk9 hb9 hf9 hg9)
    refine bodyPost_ret (results_ct rfl _ _ g4 _ _ _ _ rfl hk9 Tryd.underlying51 rfl (by kernel_rfl)) rfl ?_
    rw [HV.out]
    exact ⟨_, _, _, EndR.own H2.out.1 rfl (Keep1.of_below H5.out.2.2.2.1) H1.out.2.2.2.2.2.1 H1.out.2.2.2.2.1 H1.out.2.2.2.2.2.2.2 hf9 hg9.size (hb9 _ _ H2.out.2.1 H1.out.2.2.2.2.2.2.1), Rd.empty _ _, fun _ h => (nomatch h)⟩
  · have HRD := Lib.hid (show ∀ W, Rd W (some ad) n b → Rd W (some ⟨ad.block, ad.off + 2, none⟩) (n - 2) (b.drop 2) from fun W hW => by
      have hq := Rd.mid (x := ⟨ad.block, ad.off + 2, none⟩) hW 2 n (by have := h2n.out; omega) (Nat.le_refl _) (fun _ => by show _ = (if 2 = 0 then _ else _); rw [if_neg (by omega)])
      rwa [List.take_of_length_le (by rw [HI.out.2.2.2.2.2]; exact Nat.le_refl _)] at hq)
    go_enter Tryd.func54, Tryd.ntmps54
    go_upto_region 1 with (fail)
    rw [← HS.out.1, ← HS.out.2]
    go_upto_region 5 with (fail)
    go_quiet (fail)
    have HJ := Lib.hid (show RefAt w0 (W1.drewN nq) (fun k => H k ∨ k = g4) gr c F ∧ Below w0.heap.size w0 (W1.drewN nq) ∧ Whole (W1.drewN nq) g4 51 ev0 ∧ Below w.heap.size w (W1.drewN nq) ∧ Rd (W1.drewN nq) (some ad) n b from ⟨H1.out.2.2.1.below (pw_below_drewN (Below.refl _ _) _), pw_below_drewN H1.out.2.1 _, H1.out.2.2.2.1.below (pw_below_drewN (Below.refl _ _) _) H1.out.2.2.2.1.lt, pw_below_drewN H1.out.1 _, Kd.C_below HI.out.1 (pw_below_drewN (Below.refl _ _) _)⟩)
    generalize W1.drewN nq = W3 at HJ ⊢
    clear x0 x1 w1' w2' w3' w4' i0 i1
    go_wp2_with fail
    refine (MayRef_calls K _).mono ?_
    rintro e w4 ⟨rfl, hb4⟩
    have H4 := Lib.hid (show RefAt w0 w4 (fun k => H k ∨ k = g4) gr c F ∧ Below w0.heap.size w0 w4 ∧ Whole w4 g4 51 ev0 ∧ Below w.heap.size w w4 ∧ Rd w4 (some ad) n b from ⟨HJ.out.1.below hb4, below_step HJ.out.2.1 hb4, HJ.out.2.2.1.below hb4 HJ.out.2.2.1.lt, below_step HJ.out.2.2.2.1 hb4, Kd.C_below HJ.out.2.2.2.2 hb4⟩)
    rw [HM.out]
    clear hb4
    go_wp2_with fail
    refine (CharsRef_calls (some ⟨ad.block, ad.off + 2, none⟩) _ (b.drop 2) _ (HRD.out _ H4.out.2.2.2.2) (by have := HI.out; omega) (HI.out.2.2.2.1.dp 2)).mono ?_
    rintro e w5 ⟨rfl, hb5⟩
    have H5 := Lib.hid (show RefAt w0 w5 (fun k => H k ∨ k = g4) gr c F ∧ Below w0.heap.size w0 w5 ∧ Whole w5 g4 51 ev0 ∧ Below w.heap.size w w5 ∧ Rd w5 (some ad) n b from ⟨H4.out.1.below hb5, below_step H4.out.2.1 hb5, H4.out.2.2.1.below hb5 H4.out.2.2.1.lt, below_step H4.out.2.2.2.1 hb5, Kd.C_below H4.out.2.2.2.2 hb5⟩)
    rw [← HCH.out]
    clear hb5
    go_wp2_with fail
    refine (WsFailR_calls w0 _ (fun k => H k ∨ k = g4) gr c F 1007 H5.out.1 H5.out.2.1).mono ?_
    rintro e w2 he2
    have H2 := Lib.hid (show EndR w0 w5 (fun k => H k ∨ k = g4) gr c 0 1007 (.slice none 0 0) true e w2 ∧ Below w0.heap.size w0 w2 ∧ Whole w2 g4 51 ev0 from ⟨he2, he2.2.2.2, H5.out.2.2.1.far (he2.2.2.1.2 g4 H5.out.2.2.1.lt H1.out.2.2.2.2.1)⟩)
    obtain rfl := he2.1
    clear he2
    go_wp2_with (refine gate_ (.store 51 (.tmp 4) (.tmp 45)) rfl ?_; refine store_whole rfl rfl rfl rfl rfl H2.out.2.2 rfl (by simp [Value.oneCell']) rfl (by kernel_rfl) ?_; intro w9 hk9 hb9 hf9 hg9)
    refine bodyPost_ret (results_ct rfl _ _ g4 _ _ _ _ rfl hk9 Tryd.underlying51 rfl (by kernel_rfl)) rfl ?_
    rw [HV.out]
    exact ⟨_, _, _, EndR.own H2.out.1 rfl (Keep1.of_below H5.out.2.2.2.1) H1.out.2.2.2.2.2.1 H1.out.2.2.2.2.1 H1.out.2.2.2.2.2.2.2 hf9 hg9.size (hb9 _ _ H2.out.2.1 H1.out.2.2.2.2.2.2.1), Rd.empty _ _, fun _ h => (nomatch h)⟩
set_option maxRecDepth 20000 in
set_option maxHeartbeats 3200000 in
theorem WsShut_ok {n : Nat} (w0 w : World) (H : Nat → Prop) (gr : Nat) (c : Cn) (F : List Frm) (A : Option Addr) (cb : Nat) (b : List Int) (h : RefAt w0 w H gr c F) (hB : Below w0.heap.size w0 w) (hr : Rd w A n b) (hcb : n ≤ cb) (hgb : ∀ ad, A = some ad → 0 < n → ad.block ≠ gr ∧ ad.block < w.heap.size) (hby : Bytes b) (hn : n ≤ 16384) (h2 : 2 ≤ n) (hm : mayB (256 * rd b 0 + rd b 1) = true) (hc : ¬ 0 ≤ charsOf (b.drop 2)) :
    Calls Tryd.prog 54 #[.pointer (some ⟨gr, 0, none⟩), .slice A n cb] w (ShutPost w0 w H gr c (closeE b) A n) := by
  have hbl : b.length = n := Kd.C_len hr
  obtain ⟨g4, hg4⟩ : ∃ g, g = w.heap.size := ⟨_, rfl⟩
  obtain ⟨W1, hW1⟩ : ∃ W, W = w.alloc (.cells #[.int .i64 0, .int .i64 0, .slice none 0 0, .bool false] 51) := ⟨_, rfl⟩
  have b1 : Below w.heap.size w W1 := by rw [hW1]; exact below_alloc (Below.refl _ _) _
  have k4 : Whole W1 g4 51 ev0 := by rw [hW1, hg4]; exact Whole.new w _ _
  have hgr := h.gr
  have HS := Lib.hid (show g4 = w.heap.size ∧ W1 = w.alloc _ from ⟨hg4, hW1⟩)
  have H1 := Lib.hid (show Below w.heap.size w W1 ∧ Below w0.heap.size w0 W1 ∧ RefAt w0 W1 (fun k => H k ∨ k = g4) gr c F ∧ Whole W1 g4 51 ev0 ∧ g4 ≠ gr ∧ w.heap.size ≤ g4 ∧ w0.heap.size ≤ g4 ∧ H gr from ⟨b1, below_step hB b1, h.set b1 (by omega), k4, by omega, by omega, by have := hB.size; omega, h.gr.1⟩)
  have HI := Lib.hid (show Rd W1 A n b ∧ n ≤ cb ∧ (∀ ad, A = some ad → 0 < n → ad.block ≠ gr ∧ ad.block ≠ g4 ∧ ad.block < w.heap.size) ∧ Bytes b ∧ n ≤ 16384 ∧ b.length = n from ⟨Kd.C_below hr b1, hcb, fun ad he h0 => ⟨(hgb ad he h0).1, by have := (hgb ad he h0).2; omega, (hgb ad he h0).2⟩, hby, hn, hbl⟩)
  clear b1 k4 hgr hg4 hW1 h hB hr hcb hgb hby hn hbl
  have d0 : ((n : Int) == 0) = false := by rw [beq_eq_false_iff_ne]; omega
  have d1 : ((n : Int) == 1) = false := by rw [beq_eq_false_iff_ne]; omega
  obtain ⟨ad, rfl, hcell⟩ := Rd.cells HI.out.1 (by omega)
  have x0 := Rd.at0 HI.out.1 (by omega)
  have x1 := (Rd.lit2 HI.out.1 1 (by decide) (by omega)).1
  obtain ⟨x, hx⟩ : ∃ x, x = rd b 0 := ⟨_, rfl⟩
  obtain ⟨y, hy⟩ : ∃ y, y = rd b ((1 : Nat) : Int) := ⟨_, rfl⟩
  have hxb : 0 ≤ x ∧ x < 256 := by rw [hx]; exact rd_bytes0 HI.out.2.2.2.1 0
  have hyb : 0 ≤ y ∧ y < 256 := by rw [hy]; exact rd_bytes0 HI.out.2.2.2.1 1
  rw [← hx] at x0
  rw [← hy] at x1
  have e1 : rd b 0 = x := hx.symm
  have e2 : rd b 1 = y := hy.symm
  rw [e1, e2] at hm
  obtain ⟨K, hK⟩ : ∃ K, K = 256 * x + y := ⟨_, rfl⟩
  rw [← hK] at hm
  have w1' : IntKind.i64.wrap x = x := by rw [IntKind.wrap_i64]; omega
  have w2' : IntKind.i64.wrap y = y := by rw [IntKind.wrap_i64]; omega
  have w3' : IntKind.i64.wrap (256 * x) = 256 * x := by rw [IntKind.wrap_i64]; omega
  have w4' : IntKind.i64.wrap (256 * x + y) = K := by rw [IntKind.wrap_i64, hK]; omega
  have i0 : (0 : Int) < n := by omega
  have i1 : (1 : Int) < n := by omega
  have HKK := Lib.hid (show 256 * rd b 0 + rd b 1 = K by rw [e1, e2, hK])
  have HM := Lib.hid hm
  have h2n := Lib.hid h2
  clear hx hy hxb hyb e1 e2 hcell hm hK h2
  obtain ⟨ch, hch⟩ : ∃ x, x = charsOf (b.drop 2) := ⟨_, rfl⟩
  have HCH := Lib.hid hch
  have HV := Lib.hid (show closeE b = ⟨8, K, b.drop 2, false⟩ by unfold closeE closeV; rw [if_neg (by have := h2n.out; rw [HI.out.2.2.2.2.2]; omega), if_neg (by rw [HKK.out, HM.out, HI.out.2.2.2.2.2]; have := h2n.out; simp; omega), if_neg hc, HKK.out])
  rw [← hch] at hc
  have d5 : decide (0 ≤ ch) = false := decide_eq_false hc
  clear hc hch
  have m1 : (2 : Int) ≤ n := by have := h2n.out; omega
  have m2 : (2 : Int) ≤ cb := by have := h2n.out; have := HI.out; omega
  have m3 : (n : Int) ≤ cb := by have := HI.out; omega
  have m4 : 2 ≤ cb := by omega
  by_cases hc2 : cb = 2
  · have HRD := Lib.hid (show ∀ W, Rd W (some ad) n b → Rd W (some ad) (n - 2) (b.drop 2) from fun W hW => by
      have hn2 : n = 2 := by have := h2n.out; have := HI.out; omega
      rw [hn2, List.drop_of_length_le (by rw [HI.out.2.2.2.2.2]; omega)]
      exact Rd.empty _ _)
    go_enter Tryd.func54, Tryd.ntmps54
    go_upto_region 1 with (fail)
    rw [← HS.out.1, ← HS.out.2]
    go_upto_region 5 with (fail)
    go_quiet (fail)
    have HJ := Lib.hid (show RefAt w0 (W1.drewN nq) (fun k => H k ∨ k = g4) gr c F ∧ Below w0.heap.size w0 (W1.drewN nq) ∧ Whole (W1.drewN nq) g4 51 ev0 ∧ Below w.heap.size w (W1.drewN nq) ∧ Rd (W1.drewN nq) (some ad) n b from ⟨H1.out.2.2.1.below (pw_below_drewN (Below.refl _ _) _), pw_below_drewN H1.out.2.1 _, H1.out.2.2.2.1.below (pw_below_drewN (Below.refl _ _) _) H1.out.2.2.2.1.lt, pw_below_drewN H1.out.1 _, Kd.C_below HI.out.1 (pw_below_drewN (Below.refl _ _) _)⟩)
    generalize W1.drewN nq = W3 at HJ ⊢
    clear x0 x1 w1' w2' w3' w4' i0 i1
    go_wp2_with fail
    refine (MayRef_calls K _).mono ?_
    rintro e w4 ⟨rfl, hb4⟩
    have H4 := Lib.hid (show RefAt w0 w4 (fun k => H k ∨ k = g4) gr c F ∧ Below w0.heap.size w0 w4 ∧ Whole w4 g4 51 ev0 ∧ Below w.heap.size w w4 ∧ Rd w4 (some ad) n b from ⟨HJ.out.1.below hb4, below_step HJ.out.2.1 hb4, HJ.out.2.2.1.below hb4 HJ.out.2.2.1.lt, below_step HJ.out.2.2.2.1 hb4, Kd.C_below HJ.out.2.2.2.2 hb4⟩)
    rw [HM.out]
    clear hb4
    go_wp2_with fail
    refine (CharsRef_calls (some ad) _ (b.drop 2) _ (HRD.out _ H4.out.2.2.2.2) (by have := HI.out; omega) (HI.out.2.2.2.1.dp 2)).mono ?_
    rintro e w5 ⟨rfl, hb5⟩
    have H5 := Lib.hid (show RefAt w0 w5 (fun k => H k ∨ k = g4) gr c F ∧ Below w0.heap.size w0 w5 ∧ Whole w5 g4 51 ev0 ∧ Below w.heap.size w w5 ∧ Rd w5 (some ad) n b from ⟨H4.out.1.below hb5, below_step H4.out.2.1 hb5, H4.out.2.2.1.below hb5 H4.out.2.2.1.lt, below_step H4.out.2.2.2.1 hb5, Kd.C_below H4.out.2.2.2.2 hb5⟩)
    rw [← HCH.out]
    clear hb5
    go_wp2_with fail
    refine (WsEnd_calls w0 _ (fun k => H k ∨ k = g4) gr c F 8 K (some ad) (n - 2) _ false H5.out.1 H5.out.2.1).mono ?_
    rintro e w2 he2
    have H2 := Lib.hid (show EndR w0 w5 (fun k => H k ∨ k = g4) gr c 8 K (.slice (some ad) (n - 2) _) false e w2 ∧ Below w0.heap.size w0 w2 ∧ Whole w2 g4 51 ev0 from ⟨he2, he2.2.2.2, H5.out.2.2.1.far (he2.2.2.1.2 g4 H5.out.2.2.1.lt H1.out.2.2.2.2.1)⟩)
    obtain rfl := he2.1
    clear he2
    go_wp2_with (refine gate_ (.store 51 (.tmp 4) (.tmp 53)) rfl ?_; refine store_whole rfl rfl rfl rfl rfl H2.out.2.2 rfl (by simp [Value.oneCell']) rfl (by kernel_rfl) ?_; intro w9 hk9 hb9 hf9 hg9)
    refine bodyPost_ret (results_ct rfl _ _ g4 _ _ _ _ rfl hk9 Tryd.underlying51 rfl (by kernel_rfl)) rfl ?_
    rw [HV.out]
    have hk9' := H2.out.1.2.2.1
    exact ⟨_, _, _, EndR.own H2.out.1 rfl (Keep1.of_below H5.out.2.2.2.1) H1.out.2.2.2.2.2.1 H1.out.2.2.2.2.1 H1.out.2.2.2.2.2.2.2 hf9 hg9.size (hb9 _ _ H2.out.2.1 H1.out.2.2.2.2.2.2.1), HRD.out _ (H5.out.2.2.2.2.same (fun ad' he h0 => by obtain rfl := Option.some.inj he; have h3 := HI.out.2.2.1 _ rfl h0; exact (hf9 _ h3.2.1).trans (hk9'.2 _ (by have := H5.out.2.2.2.1.size; omega) h3.1))), fun az he h0 => ⟨ad, rfl, by omega, by obtain rfl := Option.some.inj he; rfl⟩⟩
  · have HRD := Lib.hid (show ∀ W, Rd W (some ad) n b → Rd W (some ⟨ad.block, ad.off + 2, none⟩) (n - 2) (b.drop 2) from fun W hW => by
      have hq := Rd.mid (x := ⟨ad.block, ad.off + 2, none⟩) hW 2 n (by have := h2n.out; omega) (Nat.le_refl _) (fun _ => by show _ = (if 2 = 0 then _ else _); rw [if_neg (by omega)])
      rwa [List.take_of_length_le (by rw [HI.out.2.2.2.2.2]; exact Nat.le_refl _)] at hq)
    go_enter Tryd.func54, Tryd.ntmps54
    go_upto_region 1 with (fail)
    rw [← HS.out.1, ← HS.out.2]
    go_upto_region 5 with (fail)
    go_quiet (fail)
    have HJ := Lib.hid (show RefAt w0 (W1.drewN nq) (fun k => H k ∨ k = g4) gr c F ∧ Below w0.heap.size w0 (W1.drewN nq) ∧ Whole (W1.drewN nq) g4 51 ev0 ∧ Below w.heap.size w (W1.drewN nq) ∧ Rd (W1.drewN nq) (some ad) n b from ⟨H1.out.2.2.1.below (pw_below_drewN (Below.refl _ _) _), pw_below_drewN H1.out.2.1 _, H1.out.2.2.2.1.below (pw_below_drewN (Below.refl _ _) _) H1.out.2.2.2.1.lt, pw_below_drewN H1.out.1 _, Kd.C_below HI.out.1 (pw_below_drewN (Below.refl _ _) _)⟩)
    generalize W1.drewN nq = W3 at HJ ⊢
    clear x0 x1 w1' w2' w3' w4' i0 i1
    go_wp2_with fail
    refine (MayRef_calls K _).mono ?_
    rintro e w4 ⟨rfl, hb4⟩
    have H4 := Lib.hid (show RefAt w0 w4 (fun k => H k ∨ k = g4) gr c F ∧ Below w0.heap.size w0 w4 ∧ Whole w4 g4 51 ev0 ∧ Below w.heap.size w w4 ∧ Rd w4 (some ad) n b from ⟨HJ.out.1.below hb4, below_step HJ.out.2.1 hb4, HJ.out.2.2.1.below hb4 HJ.out.2.2.1.lt, below_step HJ.out.2.2.2.1 hb4, Kd.C_below HJ.out.2.2.2.2 hb4⟩)
    rw [HM.out]
    clear hb4
    go_wp2_with fail
    refine (CharsRef_calls (some ⟨ad.block, ad.off + 2, none⟩) _ (b.drop 2) _ (HRD.out _ H4.out.2.2.2.2) (by have := HI.out; omega) (HI.out.2.2.2.1.dp 2)).mono ?_
    rintro e w5 ⟨rfl, hb5⟩
    have H5 := Lib.hid (show RefAt w0 w5 (fun k => H k ∨ k = g4) gr c F ∧ Below w0.heap.size w0 w5 ∧ Whole w5 g4 51 ev0 ∧ Below w.heap.size w w5 ∧ Rd w5 (some ad) n b from ⟨H4.out.1.below hb5, below_step H4.out.2.1 hb5, H4.out.2.2.1.below hb5 H4.out.2.2.1.lt, below_step H4.out.2.2.2.1 hb5, Kd.C_below H4.out.2.2.2.2 hb5⟩)
    rw [← HCH.out]
    clear hb5
    go_wp2_with fail
    refine (WsEnd_calls w0 _ (fun k => H k ∨ k = g4) gr c F 8 K (some ⟨ad.block, ad.off + 2, none⟩) (n - 2) _ false H5.out.1 H5.out.2.1).mono ?_
    rintro e w2 he2
    have H2 := Lib.hid (show EndR w0 w5 (fun k => H k ∨ k = g4) gr c 8 K (.slice (some ⟨ad.block, ad.off + 2, none⟩) (n - 2) _) false e w2 ∧ Below w0.heap.size w0 w2 ∧ Whole w2 g4 51 ev0 from ⟨he2, he2.2.2.2, H5.out.2.2.1.far (he2.2.2.1.2 g4 H5.out.2.2.1.lt H1.out.2.2.2.2.1)⟩)
    obtain rfl := he2.1
    clear he2
    go_wp2_with (refine gate_ (.store 51 (.tmp 4) (.tmp 53)) rfl ?_; refine store_whole rfl rfl rfl rfl rfl H2.out.2.2 rfl (by simp [Value.oneCell']) rfl (by kernel_rfl) ?_; intro w9 hk9 hb9 hf9 hg9)
    refine bodyPost_ret (results_ct rfl _ _ g4 _ _ _ _ rfl hk9 Tryd.underlying51 rfl (by kernel_rfl)) rfl ?_
    rw [HV.out]
    have hk9' := H2.out.1.2.2.1
    exact ⟨_, _, _, EndR.own H2.out.1 rfl (Keep1.of_below H5.out.2.2.2.1) H1.out.2.2.2.2.2.1 H1.out.2.2.2.2.1 H1.out.2.2.2.2.2.2.2 hf9 hg9.size (hb9 _ _ H2.out.2.1 H1.out.2.2.2.2.2.2.1), HRD.out _ (H5.out.2.2.2.2.same (fun ad' he h0 => by obtain rfl := Option.some.inj he; have h3 := HI.out.2.2.1 _ rfl h0; exact (hf9 _ h3.2.1).trans (hk9'.2 _ (by have := H5.out.2.2.2.1.size; omega) h3.1))), fun az he h0 => ⟨ad, rfl, by omega, by obtain rfl := Option.some.inj he; rfl⟩⟩
theorem WsShut_calls {n : Nat} (w0 w : World) (H : Nat → Prop) (gr : Nat) (c : Cn) (F : List Frm) (A : Option Addr) (cb : Nat) (b : List Int) (h : RefAt w0 w H gr c F) (hB : Below w0.heap.size w0 w) (hr : Rd w A n b) (hcb : n ≤ cb) (hgb : ∀ ad, A = some ad → 0 < n → ad.block ≠ gr ∧ ad.block < w.heap.size) (hby : Bytes b) (hn : n ≤ 16384) :
    Calls Tryd.prog 54 #[.pointer (some ⟨gr, 0, none⟩), .slice A n cb] w (ShutPost w0 w H gr c (closeE b) A n) := by
  by_cases h0 : n = 0
  · exact WsShut_nil w0 w H gr c F A cb b h hB hr hcb hgb hby hn h0
  by_cases h1 : n = 1
  · exact WsShut_one w0 w H gr c F A cb b h hB hr hcb hgb hby hn h1
  have h2 : 2 ≤ n := by omega
  cases hm : mayB (256 * rd b 0 + rd b 1) with
  | false => exact WsShut_may w0 w H gr c F A cb b h hB hr hcb hgb hby hn h2 hm
  | true =>
    by_cases hc : 0 ≤ charsOf (b.drop 2)
    · exact WsShut_bad w0 w H gr c F A cb b h hB hr hcb hgb hby hn h2 hm hc
    · exact WsShut_ok w0 w H gr c F A cb b h hB hr hcb hgb hby hn h2 hm hc
end Go.Proofs.YtcfbfmgckaehdaaDoor
