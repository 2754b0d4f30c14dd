/- The texts WsClose in one. -/
import Derived.Test.YtcfbfmgckaehdaaDoorG13
import Derived.Test.YtcfbfmgckaehdaaDoorG17
import Derived.Test.YtcfbfmgckaehdaaDoorG18
namespace Go.Proofs.YtcfbfmgckaehdaaDoor
open Go.RowKit Go.Proofs.YtcfbfmgckaehdaaDoorW.PrintWords
/-- What a close's load tells: kind, code, load, bad. -/
def closeV (b : List Int) : Int × Int × List Int × Bool :=
  if b.length = 0 then (8, 1005, [], false)
  else if b.length = 1 ∨ mayB (256 * rd b 0 + rd b 1) = false then (0, 1002, [], true)
  else if 0 ≤ charsOf (b.drop 2) then (0, 1007, [], true)
  else (8, 256 * rd b 0 + rd b 1, b.drop 2, false)
def ClosePost (w0 w : World) (g : Nat) (c : Cn) (vw vl : Value) (b : List Int) (e : Ending) (w' : World) : Prop :=
  ∃ (op code : Int) (l : List Int) (bad : Bool) (v : Value), e = .returned (.tuple #[.agg #[.int .i64 op, .int .i64 code, v, .bool bad], .bool true]) ∧ closeV b = (op, code, l, bad) ∧ Own w w' v l ∧ EndPost w0 w g c vw vl w'
theorem ConnAt.outside {w0 w : World} {g : Nat} {c : Cn} {vw vl : Value} (h : ConnAt w0 w g c vw vl) (k : Nat) (hk : w.heap.size ≤ k) : ¬ Foot g vw vl k := by
  rintro (h1 | h1 | h1)
  · have := h.1.lt; omega
  · have := h.2.1.lt k h1.symm; omega
  · have := h.2.2.1.lt k h1.symm; omega
/-- An end that has ended, seen from the start of the call, behind a store of the call's own. -/
theorem EndPost.fin {w0 w W1 w2 w9 : World} {g g0 : Nat} {c : Cn} {vw vl : Value} (h : EndPost w0 W1 g c vw vl w2) (hb : Below w.heap.size w W1) (hg : w.heap.size ≤ g0) (hgg : g0 ≠ g) (hf : ∀ k, k < w2.heap.size → k ≠ g0 → w9.heap[k]? = w2.heap[k]?) (hs : w2.heap.size ≤ w9.heap.size) (hB : Below w0.heap.size w0 w9) : EndPost w0 w g c vw vl w9 := by
  refine ⟨h.1.step (fun k hk _ => ?_), ⟨Nat.le_trans (Nat.le_trans hb.size h.2.1.1) hs, fun k hk hF => ?_, fun k hk => ?_⟩, hB⟩
  · rcases hk with h1 | h1 | h1
    · exact hf k (by rw [h1]; exact h.1.1.lt) (by omega)
    · simp [Value.ownBlock] at h1
    · simp [Value.ownBlock] at h1
  · rw [hf k (Nat.lt_of_lt_of_le (Nat.lt_of_lt_of_le hk hb.size) h.2.1.1) (by omega), h.2.1.2.1 k (Nat.lt_of_lt_of_le hk hb.size) hF]
    exact hb.block k hk
  · rcases h.2.1.2.2 k hk with h1 | h1
    · exact .inl h1
    · exact .inr (Nat.le_trans hb.size h1)
set_option maxRecDepth 20000 in
set_option maxHeartbeats 3200000 in
theorem WsClose_nil {n : Nat} (w0 w : World) (g : Nat) (c : Cn) (vw vl : Value) (A : Option Addr) (cb : Nat) (b : List Int) (h : ConnAt w0 w g c vw vl) (hB : Below w0.heap.size w0 w) (hb : Own w0 w (.slice A n cb) b) (hap : ∀ k, Foot g vw vl k → some k ≠ (Value.slice A n cb).ownBlock) (hby : Bytes b) (hn : n ≤ 16384) (h0 : n = 0) :
    Calls Tryd.prog 51 #[.pointer (some ⟨g, 0, none⟩), .slice A n cb] w (ClosePost w0 w g c vw vl b) := by
  have hrd := Kd.R_reads' hb
  have hbl : b.length = n := hrd.1.symm
  obtain ⟨g0, hg0⟩ : ∃ g, g = w.heap.size := ⟨_, rfl⟩
  obtain ⟨W1, hW1⟩ : ∃ W1, W1 = w.alloc (.cells #[.int .i64 0, .int .i64 0, .slice none 0 0, .bool false] 51) := ⟨_, rfl⟩
  have hb1 : Below w.heap.size w W1 := by rw [hW1]; exact below_alloc (Below.refl _ _) _
  have hk1 : Whole W1 g0 51 ev0 := by rw [hW1, hg0]; exact Whole.new w _ _
  have hlt := h.1.lt
  have HS := Lib.hid (show g0 = w.heap.size ∧ W1 = w.alloc _ from ⟨hg0, hW1⟩)
  have HI := Lib.hid (show ConnAt w0 W1 g c vw vl ∧ Below w0.heap.size w0 W1 ∧ Whole W1 g0 51 ev0 ∧ g0 ≠ g ∧ w.heap.size ≤ g0 ∧ Below w.heap.size w W1 ∧ w0.heap.size ≤ g0 ∧ ¬ Foot g vw vl g0 from ⟨h.below hb1, below_step hB hb1, hk1, by omega, by rw [hg0]; exact Nat.le_refl _, hb1, by rw [hg0]; exact hB.size, h.outside g0 (by omega)⟩)
  have HR := Lib.hid (show Own w0 W1 (.slice A n cb) b ∧ (∀ k, Foot g vw vl k → some k ≠ (Value.slice A n cb).ownBlock) ∧ Bytes b ∧ n ≤ 16384 ∧ b.length = n from ⟨hb.below hb1, hap, hby, hn, hbl⟩)
  have HG0 := Lib.hid (show some g0 ≠ (Value.slice A n cb).ownBlock from fun e => by have h1 := hb.lt g0 e.symm; omega)
  clear h hB hb1 hk1 hg0 hW1 hlt hrd hbl hb hap hby hn
  have HV := Lib.hid (show closeV b = (8, 1005, [], false) by unfold closeV; rw [if_pos (by rw [HR.out.2.2.2.2]; exact h0)])
  have d0 : ((n : Int) == 0) = true := by rw [beq_iff_eq]; omega
  clear h0
  go_enter Tryd.func51, Tryd.ntmps51
  go_upto_region 1 with (fail)
  rw [← HS.out.1, ← HS.out.2]
  go_wp2_with fail
  refine (WsFail_calls w0 _ g c vw vl 0 HI.out.1 HI.out.2.1).mono ?_
  rintro e w2 ⟨rfl, he2⟩
  have H2 := Lib.hid (show EndPost w0 W1 g c vw vl w2 ∧ Whole w2 g0 51 ev0 from ⟨he2, HI.out.2.2.1.far (he2.2.1.2.1 g0 HI.out.2.2.1.lt HI.out.2.2.2.2.2.2.2)⟩)
  clear he2
  go_wp2_with (refine gate_ (.store 51 (.tmp 4) (.tmp 11)) rfl ?_; refine store_whole rfl rfl rfl rfl rfl H2.out.2 rfl (by simp [Value.oneCell']) rfl (by kernel_rfl) ?_; intro w9 hk9 hb9 hf9 hg9)
  refine bodyPost_ret (results_ct rfl _ _ g0 _ _ _ _ rfl hk9 Tryd.underlying51 rfl (by kernel_rfl)) rfl ?_
  exact ⟨8, 1005, [], false, .slice none 0 0, rfl, HV.out, Own.nil _ _, H2.out.1.fin HI.out.2.2.2.2.2.1 HI.out.2.2.2.2.1 HI.out.2.2.2.1 (fun k _ h => hf9 k h) hg9.size (hb9 _ _ H2.out.1.2.2 HI.out.2.2.2.2.2.2.1)⟩
set_option maxRecDepth 20000 in
set_option maxHeartbeats 3200000 in
theorem WsClose_one {n : Nat} (w0 w : World) (g : Nat) (c : Cn) (vw vl : Value) (A : Option Addr) (cb : Nat) (b : List Int) (h : ConnAt w0 w g c vw vl) (hB : Below w0.heap.size w0 w) (hb : Own w0 w (.slice A n cb) b) (hap : ∀ k, Foot g vw vl k → some k ≠ (Value.slice A n cb).ownBlock) (hby : Bytes b) (hn : n ≤ 16384) (h1 : n = 1) :
    Calls Tryd.prog 51 #[.pointer (some ⟨g, 0, none⟩), .slice A n cb] w (ClosePost w0 w g c vw vl b) := by
  have hrd := Kd.R_reads' hb
  have hbl : b.length = n := hrd.1.symm
  obtain ⟨g0, hg0⟩ : ∃ g, g = w.heap.size := ⟨_, rfl⟩
  obtain ⟨W1, hW1⟩ : ∃ W1, W1 = w.alloc (.cells #[.int .i64 0, .int .i64 0, .slice none 0 0, .bool false] 51) := ⟨_, rfl⟩
  have hb1 : Below w.heap.size w W1 := by rw [hW1]; exact below_alloc (Below.refl _ _) _
  have hk1 : Whole W1 g0 51 ev0 := by rw [hW1, hg0]; exact Whole.new w _ _
  have hlt := h.1.lt
  have HS := Lib.hid (show g0 = w.heap.size ∧ W1 = w.alloc _ from ⟨hg0, hW1⟩)
  have HI := Lib.hid (show ConnAt w0 W1 g c vw vl ∧ Below w0.heap.size w0 W1 ∧ Whole W1 g0 51 ev0 ∧ g0 ≠ g ∧ w.heap.size ≤ g0 ∧ Below w.heap.size w W1 ∧ w0.heap.size ≤ g0 ∧ ¬ Foot g vw vl g0 from ⟨h.below hb1, below_step hB hb1, hk1, by omega, by rw [hg0]; exact Nat.le_refl _, hb1, by rw [hg0]; exact hB.size, h.outside g0 (by omega)⟩)
  have HR := Lib.hid (show Own w0 W1 (.slice A n cb) b ∧ (∀ k, Foot g vw vl k → some k ≠ (Value.slice A n cb).ownBlock) ∧ Bytes b ∧ n ≤ 16384 ∧ b.length = n from ⟨hb.below hb1, hap, hby, hn, hbl⟩)
  have HG0 := Lib.hid (show some g0 ≠ (Value.slice A n cb).ownBlock from fun e => by have h1 := hb.lt g0 e.symm; omega)
  clear h hB hb1 hk1 hg0 hW1 hlt hrd hbl hb hap hby hn
  have HV := Lib.hid (show closeV b = (0, 1002, [], true) by unfold closeV; rw [if_neg (by rw [HR.out.2.2.2.2]; omega), if_pos (.inl (by rw [HR.out.2.2.2.2]; exact h1))])
  have d0 : ((n : Int) == 0) = false := by rw [beq_eq_false_iff_ne]; omega
  have d1 : ((n : Int) == 1) = true := by rw [beq_iff_eq]; omega
  clear h1
  go_enter Tryd.func51, Tryd.ntmps51
  go_upto_region 1 with (fail)
  rw [← HS.out.1, ← HS.out.2]
  go_upto_region 4 with (fail)
  go_quiet (fail)
  have HJ := Lib.hid (show ConnAt w0 (W1.drewN nq) g c vw vl ∧ Below w0.heap.size w0 (W1.drewN nq) ∧ Whole (W1.drewN nq) g0 51 ev0 ∧ Below w.heap.size w (W1.drewN nq) from ⟨HI.out.1.below (pw_below_drewN (Below.refl _ _) _), pw_below_drewN HI.out.2.1 _, HI.out.2.2.1.below (pw_below_drewN (Below.refl _ _) _) HI.out.2.2.1.lt, pw_below_drewN HI.out.2.2.2.2.2.1 _⟩)
  generalize W1.drewN nq = W3 at HJ ⊢
  go_wp2_with fail
  refine (WsFail_calls w0 _ g c vw vl 1002 HJ.out.1 HJ.out.2.1).mono ?_
  rintro e w2 ⟨rfl, he2⟩
  have H2 := Lib.hid (show EndPost w0 W3 g c vw vl w2 ∧ Whole w2 g0 51 ev0 from ⟨he2, HJ.out.2.2.1.far (he2.2.1.2.1 g0 HJ.out.2.2.1.lt HI.out.2.2.2.2.2.2.2)⟩)
  clear he2
  go_wp2_with (refine gate_ (.store 51 (.tmp 4) (.tmp 31)) rfl ?_; refine store_whole rfl rfl rfl rfl rfl H2.out.2 rfl (by simp [Value.oneCell']) rfl (by kernel_rfl) ?_; intro w9 hk9 hb9 hf9 hg9)
  refine bodyPost_ret (results_ct rfl _ _ g0 _ _ _ _ rfl hk9 Tryd.underlying51 rfl (by kernel_rfl)) rfl ?_
  exact ⟨0, 1002, [], true, .slice none 0 0, rfl, HV.out, Own.nil _ _, H2.out.1.fin HJ.out.2.2.2 HI.out.2.2.2.2.1 HI.out.2.2.2.1 (fun k _ h => hf9 k h) hg9.size (hb9 _ _ H2.out.1.2.2 HI.out.2.2.2.2.2.2.1)⟩
set_option maxRecDepth 20000 in
set_option maxHeartbeats 3200000 in
theorem WsClose_may {n : Nat} (w0 w : World) (g : Nat) (c : Cn) (vw vl : Value) (A : Option Addr) (cb : Nat) (b : List Int) (h : ConnAt w0 w g c vw vl) (hB : Below w0.heap.size w0 w) (hb : Own w0 w (.slice A n cb) b) (hap : ∀ k, Foot g vw vl k → some k ≠ (Value.slice A n cb).ownBlock) (hby : Bytes b) (hn : n ≤ 16384) (h2 : 2 ≤ n) (hm : mayB (256 * rd b 0 + rd b 1) = false) :
    Calls Tryd.prog 51 #[.pointer (some ⟨g, 0, none⟩), .slice A n cb] w (ClosePost w0 w g c vw vl b) := by
  have hrd := Kd.R_reads' hb
  have hbl : b.length = n := hrd.1.symm
  obtain ⟨g0, hg0⟩ : ∃ g, g = w.heap.size := ⟨_, rfl⟩
  obtain ⟨W1, hW1⟩ : ∃ W1, W1 = w.alloc (.cells #[.int .i64 0, .int .i64 0, .slice none 0 0, .bool false] 51) := ⟨_, rfl⟩
  have hb1 : Below w.heap.size w W1 := by rw [hW1]; exact below_alloc (Below.refl _ _) _
  have hk1 : Whole W1 g0 51 ev0 := by rw [hW1, hg0]; exact Whole.new w _ _
  have hlt := h.1.lt
  have HS := Lib.hid (show g0 = w.heap.size ∧ W1 = w.alloc _ from ⟨hg0, hW1⟩)
  have HI := Lib.hid (show ConnAt w0 W1 g c vw vl ∧ Below w0.heap.size w0 W1 ∧ Whole W1 g0 51 ev0 ∧ g0 ≠ g ∧ w.heap.size ≤ g0 ∧ Below w.heap.size w W1 ∧ w0.heap.size ≤ g0 ∧ ¬ Foot g vw vl g0 from ⟨h.below hb1, below_step hB hb1, hk1, by omega, by rw [hg0]; exact Nat.le_refl _, hb1, by rw [hg0]; exact hB.size, h.outside g0 (by omega)⟩)
  have HR := Lib.hid (show Own w0 W1 (.slice A n cb) b ∧ (∀ k, Foot g vw vl k → some k ≠ (Value.slice A n cb).ownBlock) ∧ Bytes b ∧ n ≤ 16384 ∧ b.length = n from ⟨hb.below hb1, hap, hby, hn, hbl⟩)
  have HG0 := Lib.hid (show some g0 ≠ (Value.slice A n cb).ownBlock from fun e => by have h1 := hb.lt g0 e.symm; omega)
  clear h hB hb1 hk1 hg0 hW1 hlt hrd hbl hb hap hby hn
  have HV := Lib.hid (show closeV b = (0, 1002, [], true) by unfold closeV; rw [if_neg (by rw [HR.out.2.2.2.2]; omega), if_pos (.inr hm)])
  obtain ⟨ad, hA, hcl⟩ := Rd.cells (Kd.R_reads' HR.out.1).2.2 (by have := HR.out; omega)
  subst hA
  have hrw : Rd W1 (some ad) n b := by have h := Kd.R_reads' HR.out.1; rw [← h.1] at h; exact h.2.2
  have x0 := Rd.at0 hrw (by omega)
  have x1 : W1.cell? ⟨ad.block, ad.off + 1, none⟩ = some (.int .u8 (rd b 1)) := (Rd.lit2 hrw 1 (by decide) (by omega)).1
  have r0 : 0 ≤ rd b 0 ∧ rd b 0 < 256 := bytes_rd HR.out.2.2.1 0 (by rw [HR.out.2.2.2.2]; omega)
  have r1 : 0 ≤ rd b 1 ∧ rd b 1 < 256 := bytes_rd HR.out.2.2.1 1 (by rw [HR.out.2.2.2.2]; omega)
  have hwr0 : ¬ n = 0 := by omega
  have d0 : ((n : Int) == 0) = false := by rw [beq_eq_false_iff_ne]; omega
  have d1 : ((n : Int) == 1) = false := by rw [beq_eq_false_iff_ne]; omega
  have HRW := Lib.hid hrw
  have HN := Lib.hid h2
  obtain ⟨x, hx⟩ : ∃ x, x = rd b 0 := ⟨_, rfl⟩
  obtain ⟨y, hy⟩ : ∃ y, y = rd b 1 := ⟨_, rfl⟩
  rw [← hx] at x0 r0
  rw [← hy] at x1 r1
  have a1 : IntKind.i64.wrap x = x := wrap_id r0.1 (by omega)
  have a2 : IntKind.i64.wrap y = y := wrap_id r1.1 (by omega)
  have a3 : IntKind.i64.wrap (x * 256) = x * 256 := wrap_id (by omega) (by omega)
  have a4 : bits .or .i64 (x * 256) y = x * 256 + y := bits_join .i64 63 (by decide) wraps_i64 8 (x * 256) y (by omega) (by omega) (by omega) (by omega) (by omega) (by omega)
  have i0 : (0 : Int) < n := by omega
  have i1 : (1 : Int) < n := by omega
  have n0 : 0 < n := by omega
  have n1 : 1 < n := by omega
  obtain ⟨C, hC⟩ : ∃ C, C = x * 256 + y := ⟨_, rfl⟩
  rw [← hC] at a4
  have HC := Lib.hid (show C = 256 * rd b 0 + rd b 1 by rw [hC, hx, hy]; omega)
  clear hcl hrw h2 hx hy hC r0 r1 hwr0
  have hm2 : mayB C = false := by rw [HC.out]; exact hm
  go_enter Tryd.func51, Tryd.ntmps51
  go_upto_region 1 with (fail)
  rw [← HS.out.1, ← HS.out.2]
  go_upto_region 4 with (fail)
  go_quiet (first | (go_at_call 46; refine (may_calls C _).mono ?_; rintro e w' ⟨rfl, rfl⟩; rw [hm2]; exact ⟨rfl, _, rfl⟩))
  have HJ := Lib.hid (show ConnAt w0 (W1.drewN nq) g c vw vl ∧ Below w0.heap.size w0 (W1.drewN nq) ∧ Whole (W1.drewN nq) g0 51 ev0 ∧ Below w.heap.size w (W1.drewN nq) ∧ Own w0 (W1.drewN nq) (.slice (some ad) n cb) b from ⟨HI.out.1.below (pw_below_drewN (Below.refl _ _) _), pw_below_drewN HI.out.2.1 _, HI.out.2.2.1.below (pw_below_drewN (Below.refl _ _) _) HI.out.2.2.1.lt, pw_below_drewN HI.out.2.2.2.2.2.1 _, HR.out.1.below (pw_below_drewN (Below.refl _ _) _)⟩)
  generalize W1.drewN nq = W3 at HJ ⊢
  clear x0 x1
  go_wp2_with fail
  refine (WsFail_calls w0 _ g c vw vl 1002 HJ.out.1 HJ.out.2.1).mono ?_
  rintro e w2 ⟨rfl, he2⟩
  have H2 := Lib.hid (show EndPost w0 W3 g c vw vl w2 ∧ Whole w2 g0 51 ev0 from ⟨he2, HJ.out.2.2.1.far (he2.2.1.2.1 g0 HJ.out.2.2.1.lt HI.out.2.2.2.2.2.2.2)⟩)
  clear he2
  go_wp2_with (refine gate_ (.store 51 (.tmp 4) (.tmp 31)) rfl ?_; refine store_whole rfl rfl rfl rfl rfl H2.out.2 rfl (by simp [Value.oneCell']) rfl (by kernel_rfl) ?_; intro w9 hk9 hb9 hf9 hg9)
  refine bodyPost_ret (results_ct rfl _ _ g0 _ _ _ _ rfl hk9 Tryd.underlying51 rfl (by kernel_rfl)) rfl ?_
  exact ⟨0, 1002, [], true, .slice none 0 0, rfl, HV.out, Own.nil _ _, H2.out.1.fin HJ.out.2.2.2.1 HI.out.2.2.2.2.1 HI.out.2.2.2.1 (fun k _ h => hf9 k h) hg9.size (hb9 _ _ H2.out.1.2.2 HI.out.2.2.2.2.2.2.1)⟩
set_option maxRecDepth 20000 in
set_option maxHeartbeats 3200000 in
theorem WsClose_bad {n : Nat} (w0 w : World) (g : Nat) (c : Cn) (vw vl : Value) (A : Option Addr) (cb : Nat) (b : List Int) (h : ConnAt w0 w g c vw vl) (hB : Below w0.heap.size w0 w) (hb : Own w0 w (.slice A n cb) b) (hap : ∀ k, Foot g vw vl k → some k ≠ (Value.slice A n cb).ownBlock) (hby : Bytes b) (hn : n ≤ 16384) (h2 : 2 ≤ n) (hm : mayB (256 * rd b 0 + rd b 1) = true) (hc : 0 ≤ charsOf (b.drop 2)) :
    Calls Tryd.prog 51 #[.pointer (some ⟨g, 0, none⟩), .slice A n cb] w (ClosePost w0 w g c vw vl b) := by
  have hrd := Kd.R_reads' hb
  have hbl : b.length = n := hrd.1.symm
  obtain ⟨g0, hg0⟩ : ∃ g, g = w.heap.size := ⟨_, rfl⟩
  obtain ⟨W1, hW1⟩ : ∃ W1, W1 = w.alloc (.cells #[.int .i64 0, .int .i64 0, .slice none 0 0, .bool false] 51) := ⟨_, rfl⟩
  have hb1 : Below w.heap.size w W1 := by rw [hW1]; exact below_alloc (Below.refl _ _) _
  have hk1 : Whole W1 g0 51 ev0 := by rw [hW1, hg0]; exact Whole.new w _ _
  have hlt := h.1.lt
  have HS := Lib.hid (show g0 = w.heap.size ∧ W1 = w.alloc _ from ⟨hg0, hW1⟩)
  have HI := Lib.hid (show ConnAt w0 W1 g c vw vl ∧ Below w0.heap.size w0 W1 ∧ Whole W1 g0 51 ev0 ∧ g0 ≠ g ∧ w.heap.size ≤ g0 ∧ Below w.heap.size w W1 ∧ w0.heap.size ≤ g0 ∧ ¬ Foot g vw vl g0 from ⟨h.below hb1, below_step hB hb1, hk1, by omega, by rw [hg0]; exact Nat.le_refl _, hb1, by rw [hg0]; exact hB.size, h.outside g0 (by omega)⟩)
  have HR := Lib.hid (show Own w0 W1 (.slice A n cb) b ∧ (∀ k, Foot g vw vl k → some k ≠ (Value.slice A n cb).ownBlock) ∧ Bytes b ∧ n ≤ 16384 ∧ b.length = n from ⟨hb.below hb1, hap, hby, hn, hbl⟩)
  have HG0 := Lib.hid (show some g0 ≠ (Value.slice A n cb).ownBlock from fun e => by have h1 := hb.lt g0 e.symm; omega)
  clear h hB hb1 hk1 hg0 hW1 hlt hrd hbl hb hap hby hn
  have HV := Lib.hid (show closeV b = (0, 1007, [], true) by unfold closeV; rw [if_neg (by rw [HR.out.2.2.2.2]; omega), if_neg (by rw [HR.out.2.2.2.2, hm]; simp; omega), if_pos hc])
  obtain ⟨ad, hA, hcl⟩ := Rd.cells (Kd.R_reads' HR.out.1).2.2 (by have := HR.out; omega)
  subst hA
  have hrw : Rd W1 (some ad) n b := by have h := Kd.R_reads' HR.out.1; rw [← h.1] at h; exact h.2.2
  have x0 := Rd.at0 hrw (by omega)
  have x1 : W1.cell? ⟨ad.block, ad.off + 1, none⟩ = some (.int .u8 (rd b 1)) := (Rd.lit2 hrw 1 (by decide) (by omega)).1
  have r0 : 0 ≤ rd b 0 ∧ rd b 0 < 256 := bytes_rd HR.out.2.2.1 0 (by rw [HR.out.2.2.2.2]; omega)
  have r1 : 0 ≤ rd b 1 ∧ rd b 1 < 256 := bytes_rd HR.out.2.2.1 1 (by rw [HR.out.2.2.2.2]; omega)
  have hwr0 : ¬ n = 0 := by omega
  have d0 : ((n : Int) == 0) = false := by rw [beq_eq_false_iff_ne]; omega
  have d1 : ((n : Int) == 1) = false := by rw [beq_eq_false_iff_ne]; omega
  have HRW := Lib.hid hrw
  have HN := Lib.hid h2
  obtain ⟨x, hx⟩ : ∃ x, x = rd b 0 := ⟨_, rfl⟩
  obtain ⟨y, hy⟩ : ∃ y, y = rd b 1 := ⟨_, rfl⟩
  rw [← hx] at x0 r0
  rw [← hy] at x1 r1
  have a1 : IntKind.i64.wrap x = x := wrap_id r0.1 (by omega)
  have a2 : IntKind.i64.wrap y = y := wrap_id r1.1 (by omega)
  have a3 : IntKind.i64.wrap (x * 256) = x * 256 := wrap_id (by omega) (by omega)
  have a4 : bits .or .i64 (x * 256) y = x * 256 + y := bits_join .i64 63 (by decide) wraps_i64 8 (x * 256) y (by omega) (by omega) (by omega) (by omega) (by omega) (by omega)
  have i0 : (0 : Int) < n := by omega
  have i1 : (1 : Int) < n := by omega
  have n0 : 0 < n := by omega
  have n1 : 1 < n := by omega
  obtain ⟨C, hC⟩ : ∃ C, C = x * 256 + y := ⟨_, rfl⟩
  rw [← hC] at a4
  have HC := Lib.hid (show C = 256 * rd b 0 + rd b 1 by rw [hC, hx, hy]; omega)
  clear hcl hrw h2 hx hy hC r0 r1 hwr0
  have hm2 : mayB C = true := by rw [HC.out]; exact hm
  have h2n : 2 ≤ n := HN.out
  have hcap := (Kd.R_reads' HR.out.1).2.1
  have m1 : (2 : Int) ≤ n := by omega
  have m2 : (2 : Int) ≤ cb := by omega
  have m3 : 2 ≤ cb := by omega
  have m4 : (n : Int) ≤ cb := by omega
  have hrd3 : ∀ W, Own w0 W (.slice (some ad) n cb) b → Rd W (if cb = 2 then some ad else some ⟨ad.block, ad.off + 2, none⟩) (n - 2) (b.drop 2) := fun W hW => by
    have hrw : Rd W (some ad) n b := by have h := Kd.R_reads' hW; rw [← h.1] at h; exact h.2.2
    by_cases hc2 : cb = 2
    · have hn2 : n = 2 := by omega
      rw [if_pos hc2, hn2, List.drop_of_length_le (by rw [HR.out.2.2.2.2]; omega)]
      exact Rd.empty _ _
    · rw [if_neg hc2]
      have hq := Rd.mid (x := ⟨ad.block, ad.off + 2, none⟩) hrw 2 n (by omega) (Nat.le_refl _) (fun _ => by show _ = (if 2 = 0 then _ else _); rw [if_neg (by omega)])
      rwa [List.take_of_length_le (by rw [HR.out.2.2.2.2]; exact Nat.le_refl _)] at hq
  have HRD := Lib.hid hrd3
  have HCAP := Lib.hid hcap
  clear hrd3 h2n hcap
  obtain ⟨ch, hch⟩ : ∃ c, c = charsOf (b.drop 2) := ⟨_, rfl⟩
  rw [← hch] at hc
  have d5 : decide (0 ≤ ch) = true := decide_eq_true hc
  go_enter Tryd.func51, Tryd.ntmps51
  go_upto_region 1 with (fail)
  rw [← HS.out.1, ← HS.out.2]
  go_upto_region 4 with (fail)
  go_quiet (first | (go_at_call 46; refine (may_calls C _).mono ?_; rintro e w' ⟨rfl, rfl⟩; rw [hm2]; exact ⟨rfl, _, rfl⟩))
  have HJ := Lib.hid (show ConnAt w0 (W1.drewN nq) g c vw vl ∧ Below w0.heap.size w0 (W1.drewN nq) ∧ Whole (W1.drewN nq) g0 51 ev0 ∧ Below w.heap.size w (W1.drewN nq) ∧ Own w0 (W1.drewN nq) (.slice (some ad) n cb) b from ⟨HI.out.1.below (pw_below_drewN (Below.refl _ _) _), pw_below_drewN HI.out.2.1 _, HI.out.2.2.1.below (pw_below_drewN (Below.refl _ _) _) HI.out.2.2.1.lt, pw_below_drewN HI.out.2.2.2.2.2.1 _, HR.out.1.below (pw_below_drewN (Below.refl _ _) _)⟩)
  generalize W1.drewN nq = W3 at HJ ⊢
  clear x0 x1
  have HJR := Lib.hid (HRD.out _ HJ.out.2.2.2.2)
  by_cases hc2 : cb = 2
  · rw [if_pos hc2] at HJR
    go_wp2_with fail
    refine (Chars_calls _ _ (b.drop 2) _ HJR.out (HR.out.2.2.1.dp 2)).mono ?_
    rintro e w4 ⟨rfl, hd4⟩
    have HK := Lib.hid (show ConnAt w0 w4 g c vw vl ∧ Below w0.heap.size w0 w4 ∧ Whole w4 g0 51 ev0 ∧ Below w.heap.size w w4 ∧ Own w0 w4 (.slice (some ad) n cb) b from ⟨HJ.out.1.below hd4.below, below_step HJ.out.2.1 hd4.below, HJ.out.2.2.1.below hd4.below HJ.out.2.2.1.lt, below_step HJ.out.2.2.2.1 hd4.below, HJ.out.2.2.2.2.below hd4.below⟩)
    rw [← hch]
    clear hd4
    go_wp2_with fail
    refine (WsFail_calls w0 _ g c vw vl 1007 HK.out.1 HK.out.2.1).mono ?_
    rintro e w2 ⟨rfl, he2⟩
    have H2 := Lib.hid (show EndPost w0 w4 g c vw vl w2 ∧ Whole w2 g0 51 ev0 from ⟨he2, HK.out.2.2.1.far (he2.2.1.2.1 g0 HK.out.2.2.1.lt HI.out.2.2.2.2.2.2.2)⟩)
    clear he2
    go_wp2_with (refine gate_ (.store 51 (.tmp 4) (.tmp 39)) rfl ?_; refine store_whole rfl rfl rfl rfl rfl H2.out.2 rfl (by simp [Value.oneCell']) rfl (by kernel_rfl) ?_; intro w9 hk9 hb9 hf9 hg9)
    refine bodyPost_ret (results_ct rfl _ _ g0 _ _ _ _ rfl hk9 Tryd.underlying51 rfl (by kernel_rfl)) rfl ?_
    exact ⟨0, 1007, [], true, .slice none 0 0, rfl, HV.out, Own.nil _ _, H2.out.1.fin HK.out.2.2.2.1 HI.out.2.2.2.2.1 HI.out.2.2.2.1 (fun k _ h => hf9 k h) hg9.size (hb9 _ _ H2.out.1.2.2 HI.out.2.2.2.2.2.2.1)⟩
  · rw [if_neg hc2] at HJR
    go_wp2_with fail
    refine (Chars_calls _ _ (b.drop 2) _ HJR.out (HR.out.2.2.1.dp 2)).mono ?_
    rintro e w4 ⟨rfl, hd4⟩
    have HK := Lib.hid (show ConnAt w0 w4 g c vw vl ∧ Below w0.heap.size w0 w4 ∧ Whole w4 g0 51 ev0 ∧ Below w.heap.size w w4 ∧ Own w0 w4 (.slice (some ad) n cb) b from ⟨HJ.out.1.below hd4.below, below_step HJ.out.2.1 hd4.below, HJ.out.2.2.1.below hd4.below HJ.out.2.2.1.lt, below_step HJ.out.2.2.2.1 hd4.below, HJ.out.2.2.2.2.below hd4.below⟩)
    rw [← hch]
    clear hd4
    go_wp2_with fail
    refine (WsFail_calls w0 _ g c vw vl 1007 HK.out.1 HK.out.2.1).mono ?_
    rintro e w2 ⟨rfl, he2⟩
    have H2 := Lib.hid (show EndPost w0 w4 g c vw vl w2 ∧ Whole w2 g0 51 ev0 from ⟨he2, HK.out.2.2.1.far (he2.2.1.2.1 g0 HK.out.2.2.1.lt HI.out.2.2.2.2.2.2.2)⟩)
    clear he2
    go_wp2_with (refine gate_ (.store 51 (.tmp 4) (.tmp 39)) rfl ?_; refine store_whole rfl rfl rfl rfl rfl H2.out.2 rfl (by simp [Value.oneCell']) rfl (by kernel_rfl) ?_; intro w9 hk9 hb9 hf9 hg9)
    refine bodyPost_ret (results_ct rfl _ _ g0 _ _ _ _ rfl hk9 Tryd.underlying51 rfl (by kernel_rfl)) rfl ?_
    exact ⟨0, 1007, [], true, .slice none 0 0, rfl, HV.out, Own.nil _ _, H2.out.1.fin HK.out.2.2.2.1 HI.out.2.2.2.2.1 HI.out.2.2.2.1 (fun k _ h => hf9 k h) hg9.size (hb9 _ _ H2.out.1.2.2 HI.out.2.2.2.2.2.2.1)⟩
set_option maxRecDepth 20000 in
set_option maxHeartbeats 3200000 in
theorem WsClose_ok {n : Nat} (w0 w : World) (g : Nat) (c : Cn) (vw vl : Value) (A : Option Addr) (cb : Nat) (b : List Int) (h : ConnAt w0 w g c vw vl) (hB : Below w0.heap.size w0 w) (hb : Own w0 w (.slice A n cb) b) (hap : ∀ k, Foot g vw vl k → some k ≠ (Value.slice A n cb).ownBlock) (hby : Bytes b) (hn : n ≤ 16384) (h2 : 2 ≤ n) (hm : mayB (256 * rd b 0 + rd b 1) = true) (hc : ¬ 0 ≤ charsOf (b.drop 2)) :
    Calls Tryd.prog 51 #[.pointer (some ⟨g, 0, none⟩), .slice A n cb] w (ClosePost w0 w g c vw vl b) := by
  have hrd := Kd.R_reads' hb
  have hbl : b.length = n := hrd.1.symm
  obtain ⟨g0, hg0⟩ : ∃ g, g = w.heap.size := ⟨_, rfl⟩
  obtain ⟨W1, hW1⟩ : ∃ W1, W1 = w.alloc (.cells #[.int .i64 0, .int .i64 0, .slice none 0 0, .bool false] 51) := ⟨_, rfl⟩
  have hb1 : Below w.heap.size w W1 := by rw [hW1]; exact below_alloc (Below.refl _ _) _
  have hk1 : Whole W1 g0 51 ev0 := by rw [hW1, hg0]; exact Whole.new w _ _
  have hlt := h.1.lt
  have HS := Lib.hid (show g0 = w.heap.size ∧ W1 = w.alloc _ from ⟨hg0, hW1⟩)
  have HI := Lib.hid (show ConnAt w0 W1 g c vw vl ∧ Below w0.heap.size w0 W1 ∧ Whole W1 g0 51 ev0 ∧ g0 ≠ g ∧ w.heap.size ≤ g0 ∧ Below w.heap.size w W1 ∧ w0.heap.size ≤ g0 ∧ ¬ Foot g vw vl g0 from ⟨h.below hb1, below_step hB hb1, hk1, by omega, by rw [hg0]; exact Nat.le_refl _, hb1, by rw [hg0]; exact hB.size, h.outside g0 (by omega)⟩)
  have HR := Lib.hid (show Own w0 W1 (.slice A n cb) b ∧ (∀ k, Foot g vw vl k → some k ≠ (Value.slice A n cb).ownBlock) ∧ Bytes b ∧ n ≤ 16384 ∧ b.length = n from ⟨hb.below hb1, hap, hby, hn, hbl⟩)
  have HG0 := Lib.hid (show some g0 ≠ (Value.slice A n cb).ownBlock from fun e => by have h1 := hb.lt g0 e.symm; omega)
  clear h hB hb1 hk1 hg0 hW1 hlt hrd hbl hb hap hby hn
  have HV := Lib.hid (show closeV b = (8, 256 * rd b 0 + rd b 1, b.drop 2, false) by unfold closeV; rw [if_neg (by rw [HR.out.2.2.2.2]; omega), if_neg (by rw [HR.out.2.2.2.2, hm]; simp; omega), if_neg hc])
  obtain ⟨ad, hA, hcl⟩ := Rd.cells (Kd.R_reads' HR.out.1).2.2 (by have := HR.out; omega)
  subst hA
  have hrw : Rd W1 (some ad) n b := by have h := Kd.R_reads' HR.out.1; rw [← h.1] at h; exact h.2.2
  have x0 := Rd.at0 hrw (by omega)
  have x1 : W1.cell? ⟨ad.block, ad.off + 1, none⟩ = some (.int .u8 (rd b 1)) := (Rd.lit2 hrw 1 (by decide) (by omega)).1
  have r0 : 0 ≤ rd b 0 ∧ rd b 0 < 256 := bytes_rd HR.out.2.2.1 0 (by rw [HR.out.2.2.2.2]; omega)
  have r1 : 0 ≤ rd b 1 ∧ rd b 1 < 256 := bytes_rd HR.out.2.2.1 1 (by rw [HR.out.2.2.2.2]; omega)
  have hwr0 : ¬ n = 0 := by omega
  have d0 : ((n : Int) == 0) = false := by rw [beq_eq_false_iff_ne]; omega
  have d1 : ((n : Int) == 1) = false := by rw [beq_eq_false_iff_ne]; omega
  have HRW := Lib.hid hrw
  have HN := Lib.hid h2
  obtain ⟨x, hx⟩ : ∃ x, x = rd b 0 := ⟨_, rfl⟩
  obtain ⟨y, hy⟩ : ∃ y, y = rd b 1 := ⟨_, rfl⟩
  rw [← hx] at x0 r0
  rw [← hy] at x1 r1
  have a1 : IntKind.i64.wrap x = x := wrap_id r0.1 (by omega)
  have a2 : IntKind.i64.wrap y = y := wrap_id r1.1 (by omega)
  have a3 : IntKind.i64.wrap (x * 256) = x * 256 := wrap_id (by omega) (by omega)
  have a4 : bits .or .i64 (x * 256) y = x * 256 + y := bits_join .i64 63 (by decide) wraps_i64 8 (x * 256) y (by omega) (by omega) (by omega) (by omega) (by omega) (by omega)
  have i0 : (0 : Int) < n := by omega
  have i1 : (1 : Int) < n := by omega
  have n0 : 0 < n := by omega
  have n1 : 1 < n := by omega
  obtain ⟨C, hC⟩ : ∃ C, C = x * 256 + y := ⟨_, rfl⟩
  rw [← hC] at a4
  have HC := Lib.hid (show C = 256 * rd b 0 + rd b 1 by rw [hC, hx, hy]; omega)
  have HXY := Lib.hid (And.intro hx hy)
  clear hcl hrw h2 hx hy hC r0 r1 hwr0
  have hm2 : mayB C = true := by rw [HC.out]; exact hm
  have h2n : 2 ≤ n := HN.out
  have hcap := (Kd.R_reads' HR.out.1).2.1
  have m1 : (2 : Int) ≤ n := by omega
  have m2 : (2 : Int) ≤ cb := by omega
  have m3 : 2 ≤ cb := by omega
  have m4 : (n : Int) ≤ cb := by omega
  have hrd3 : ∀ W, Own w0 W (.slice (some ad) n cb) b → Rd W (if cb = 2 then some ad else some ⟨ad.block, ad.off + 2, none⟩) (n - 2) (b.drop 2) := fun W hW => by
    have hrw : Rd W (some ad) n b := by have h := Kd.R_reads' hW; rw [← h.1] at h; exact h.2.2
    by_cases hc2 : cb = 2
    · have hn2 : n = 2 := by omega
      rw [if_pos hc2, hn2, List.drop_of_length_le (by rw [HR.out.2.2.2.2]; omega)]
      exact Rd.empty _ _
    · rw [if_neg hc2]
      have hq := Rd.mid (x := ⟨ad.block, ad.off + 2, none⟩) hrw 2 n (by omega) (Nat.le_refl _) (fun _ => by show _ = (if 2 = 0 then _ else _); rw [if_neg (by omega)])
      rwa [List.take_of_length_le (by rw [HR.out.2.2.2.2]; exact Nat.le_refl _)] at hq
  have HRD := Lib.hid hrd3
  have HCAP := Lib.hid hcap
  clear hrd3 h2n hcap
  obtain ⟨ch, hch⟩ : ∃ c, c = charsOf (b.drop 2) := ⟨_, rfl⟩
  rw [← hch] at hc
  have d5 : decide (0 ≤ ch) = false := decide_eq_false hc
  go_enter Tryd.func51, Tryd.ntmps51
  go_upto_region 1 with (fail)
  rw [← HS.out.1, ← HS.out.2]
  go_upto_region 4 with (fail)
  go_quiet (first | (go_at_call 46; refine (may_calls C _).mono ?_; rintro e w' ⟨rfl, rfl⟩; rw [hm2]; exact ⟨rfl, _, rfl⟩))
  have HJ := Lib.hid (show ConnAt w0 (W1.drewN nq) g c vw vl ∧ Below w0.heap.size w0 (W1.drewN nq) ∧ Whole (W1.drewN nq) g0 51 ev0 ∧ Below w.heap.size w (W1.drewN nq) ∧ Own w0 (W1.drewN nq) (.slice (some ad) n cb) b from ⟨HI.out.1.below (pw_below_drewN (Below.refl _ _) _), pw_below_drewN HI.out.2.1 _, HI.out.2.2.1.below (pw_below_drewN (Below.refl _ _) _) HI.out.2.2.1.lt, pw_below_drewN HI.out.2.2.2.2.2.1 _, HR.out.1.below (pw_below_drewN (Below.refl _ _) _)⟩)
  generalize W1.drewN nq = W3 at HJ ⊢
  clear x0 x1
  have HJR := Lib.hid (HRD.out _ HJ.out.2.2.2.2)
  by_cases hc2 : cb = 2
  · rw [if_pos hc2] at HJR
    go_wp2_with fail
    refine (Chars_calls _ _ (b.drop 2) _ HJR.out (HR.out.2.2.1.dp 2)).mono ?_
    rintro e w4 ⟨rfl, hd4⟩
    have HK := Lib.hid (show ConnAt w0 w4 g c vw vl ∧ Below w0.heap.size w0 w4 ∧ Whole w4 g0 51 ev0 ∧ Below w.heap.size w w4 ∧ Own w0 w4 (.slice (some ad) n cb) b from ⟨HJ.out.1.below hd4.below, below_step HJ.out.2.1 hd4.below, HJ.out.2.2.1.below hd4.below HJ.out.2.2.1.lt, below_step HJ.out.2.2.2.1 hd4.below, HJ.out.2.2.2.2.below hd4.below⟩)
    rw [← hch]
    clear hd4
    go_wp2_with fail
    refine (WsFail_calls w0 _ g c vw vl 0 HK.out.1 HK.out.2.1).mono ?_
    rintro e w5 ⟨rfl, he5⟩
    have hb5 : Own w0 w5 (.slice (some ad) n cb) b := HK.out.2.2.2.2.keep (fun k hk hl => he5.2.1.2.1 k hl (fun hF => HR.out.2.1 k hF hk))
    have H5 := Lib.hid (show EndPost w0 w4 g c vw vl w5 ∧ Whole w5 g0 51 ev0 ∧ Own w0 w5 (.slice (some ad) n cb) b from ⟨he5, HK.out.2.2.1.far (he5.2.1.2.1 g0 HK.out.2.2.1.lt HI.out.2.2.2.2.2.2.2), hb5⟩)
    clear he5 hb5
    have HX := Lib.hid (show ∀ W, Below w5.heap.size w5 W → W.cell? ad = some (.int .u8 x) ∧ W.cell? ⟨ad.block, ad.off + 1, none⟩ = some (.int .u8 y) from fun W hW => by
      have hrw : Rd W (some ad) n b := by have h := Kd.R_reads' (H5.out.2.2.below hW); rw [← h.1] at h; exact h.2.2
      exact ⟨by rw [HXY.out.1]; exact Rd.at0 hrw n0, by rw [HXY.out.2]; exact (Rd.lit2 hrw 1 (by decide) n1).1⟩)
    have HCL := Lib.hid (show ∀ cc, n - 2 ≤ cc → Calls Tryd.prog 14 #[.slice (some ad) (n - 2) cc] w5.drew (fun e w6 => ∃ A6 c6, e = .returned (.slice A6 (n - 2) c6) ∧ Own w5.drew w6 (.slice A6 (n - 2) c6) (b.drop 2) ∧ Below w5.drew.heap.size w5.drew w6) from fun cc hcc => by
      have hl2 : (b.drop 2).length = n - 2 := by rw [List.length_drop, HR.out.2.2.2.2]
      have hrow := HRD.out w5.drew (H5.out.2.2.below (below_drew (Below.refl _ _)))
      rw [if_pos hc2, ← hl2] at hrow
      have h := bytes_Clone.calls (some ad) cc (b.drop 2) (b.drop 2) w5.drew hrow (by rw [hl2]; exact hcc) (if_pos (by rw [hl2]; have := HR.out; omega))
      rw [hl2] at h
      refine h.mono ?_
      rintro e w6 ⟨v6, rfl, ho6, hb6⟩
      obtain ⟨A6, c6, rfl, _, _⟩ := Own.reads ho6
      rw [hl2] at ho6 ⊢
      exact ⟨A6, c6, rfl, ho6, hb6⟩)
    obtain ⟨gb, cap, ee, _, _, _⟩ := Own.form (show Own w0 W3 (.slice (some ad) b.length cb) b by rw [HR.out.2.2.2.2]; exact HJ.out.2.2.2.2) (by rw [HR.out.2.2.2.2]; exact n0)
    have hgb : g0 ≠ gb := fun h => HG0.out (by injection ee with ea _ _; rw [Option.some.inj ea, h]; rfl)
    have had : ad = ⟨gb, 0, none⟩ := by injection ee with ea _ _; exact Option.some.inj ea
    have HN1 := Lib.hid (show ∀ i, (⟨g0, i, none⟩ : Addr) ≠ ad from fun i h => by rw [had] at h; injection h with h1; exact hgb h1)
    have HN2 := Lib.hid (show ∀ i, (⟨g0, i, none⟩ : Addr) ≠ ⟨ad.block, ad.off + 1, none⟩ from fun i h => by rw [had] at h; injection h with h1; exact hgb h1)
    clear had hgb ee
    go_upto_region 9 with (fail)
    have x0 := (HX.out w5 (Below.refl _ _)).1
    have x1 := (HX.out w5 (Below.refl _ _)).2
    go_region_held3 (fun w' => w'.cell? ad = some (.int .u8 x) ∧ w'.cell? ⟨ad.block, ad.off + 1, none⟩ = some (.int .u8 y)) (first | with_reducible exact HX.out _ (below_drew (Below.refl _ _)) | with_reducible exact HX.out _ H6.out.1 | (refine ⟨?_, ?_⟩ <;> (rw [World.cell?_setCell_other _ _ _ _ (HN1.out _), World.cell?_setCell_other _ _ _ _ (HN1.out _), World.cell?_setCell_other _ _ _ _ (HN1.out _), World.cell?_setCell_other _ _ _ _ (HN1.out _)]; exact (HX.out _ H6.out.1).1)) | (refine ⟨?_, ?_⟩; (rw [World.cell?_setCell_other _ _ _ _ (HN1.out _), World.cell?_setCell_other _ _ _ _ (HN1.out _), World.cell?_setCell_other _ _ _ _ (HN1.out _), World.cell?_setCell_other _ _ _ _ (HN1.out _)]; exact (HX.out _ H6.out.1).1); (rw [World.cell?_setCell_other _ _ _ _ (HN2.out _), World.cell?_setCell_other _ _ _ _ (HN2.out _), World.cell?_setCell_other _ _ _ _ (HN2.out _), World.cell?_setCell_other _ _ _ _ (HN2.out _)]; exact (HX.out _ H6.out.1).2))) (first | (go_at_call 14; (with_reducible refine (HCL.out _ (by have := HCAP.out; omega)).mono ?_); rintro e w6 ⟨A6, c6, rfl, ho6, hb6⟩; have H6 := Lib.hid (show Below w5.heap.size w5 w6 ∧ Own w5.drew w6 (.slice A6 (n - 2) c6) (b.drop 2) ∧ Whole w6 g0 51 ev0 from ⟨below_step (below_drew (Below.refl _ _)) hb6, ho6, H5.out.2.1.below (below_step (below_drew (Below.refl _ _)) hb6) H5.out.2.1.lt⟩); have f0 := H6.out.2.2.free 0; have f1 := H6.out.2.2.free 1; have f2 := H6.out.2.2.free 2; have f3 := H6.out.2.2.free 3; have y0 := H6.out.2.2.cell 0 _ rfl; have y1 := H6.out.2.2.cell 1 _ rfl; have y2 := H6.out.2.2.cell 2 _ rfl; have y3 := H6.out.2.2.cell 3 _ rfl; clear ho6 hb6) | (fail))
    all_goals
      go_wp2
      refine bodyPost_ret (results_ct rfl _ _ g0 _ #[_, _, _, _] _ _ rfl ((((H6.out.2.2.set 0 _).set 1 _).set 2 _).set 3 _) Tryd.underlying51 rfl (by kernel_rfl)) rfl ?_
      have hno : some g0 ≠ (Value.slice A6 (n - 2) c6).ownBlock := fun e => by have h1 := H6.out.2.1.ge g0 e.symm; have h2 := H5.out.2.1.lt; have h3 : w5.drew.heap.size = w5.heap.size := rfl; omega
      have hwl : w.heap.size ≤ w5.heap.size := Nat.le_trans HK.out.2.2.2.1.size H5.out.1.2.1.1
      exact ⟨8, C, b.drop 2, false, _, rfl, by rw [HV.out, HC.out], ((((H6.out.2.1.lower hwl).far hno _).far hno _).far hno _).far hno _, H5.out.1.fin HK.out.2.2.2.1 HI.out.2.2.2.2.1 HI.out.2.2.2.1 (fun k hk hne => by rw [heap_far hne, heap_far hne, heap_far hne, heap_far hne]; exact H6.out.1.block k hk) (by rw [World.size_setCell, World.size_setCell, World.size_setCell, World.size_setCell]; exact H6.out.1.size) ((((below_step H5.out.1.2.2 H6.out.1).setCell HI.out.2.2.2.2.2.2.1 _).setCell HI.out.2.2.2.2.2.2.1 _).setCell HI.out.2.2.2.2.2.2.1 _ |>.setCell HI.out.2.2.2.2.2.2.1 _)⟩
  · rw [if_neg hc2] at HJR
    go_wp2_with fail
    refine (Chars_calls _ _ (b.drop 2) _ HJR.out (HR.out.2.2.1.dp 2)).mono ?_
    rintro e w4 ⟨rfl, hd4⟩
    have HK := Lib.hid (show ConnAt w0 w4 g c vw vl ∧ Below w0.heap.size w0 w4 ∧ Whole w4 g0 51 ev0 ∧ Below w.heap.size w w4 ∧ Own w0 w4 (.slice (some ad) n cb) b from ⟨HJ.out.1.below hd4.below, below_step HJ.out.2.1 hd4.below, HJ.out.2.2.1.below hd4.below HJ.out.2.2.1.lt, below_step HJ.out.2.2.2.1 hd4.below, HJ.out.2.2.2.2.below hd4.below⟩)
    rw [← hch]
    clear hd4
    go_wp2_with fail
    refine (WsFail_calls w0 _ g c vw vl 0 HK.out.1 HK.out.2.1).mono ?_
    rintro e w5 ⟨rfl, he5⟩
    have hb5 : Own w0 w5 (.slice (some ad) n cb) b := HK.out.2.2.2.2.keep (fun k hk hl => he5.2.1.2.1 k hl (fun hF => HR.out.2.1 k hF hk))
    have H5 := Lib.hid (show EndPost w0 w4 g c vw vl w5 ∧ Whole w5 g0 51 ev0 ∧ Own w0 w5 (.slice (some ad) n cb) b from ⟨he5, HK.out.2.2.1.far (he5.2.1.2.1 g0 HK.out.2.2.1.lt HI.out.2.2.2.2.2.2.2), hb5⟩)
    clear he5 hb5
    have HX := Lib.hid (show ∀ W, Below w5.heap.size w5 W → W.cell? ad = some (.int .u8 x) ∧ W.cell? ⟨ad.block, ad.off + 1, none⟩ = some (.int .u8 y) from fun W hW => by
      have hrw : Rd W (some ad) n b := by have h := Kd.R_reads' (H5.out.2.2.below hW); rw [← h.1] at h; exact h.2.2
      exact ⟨by rw [HXY.out.1]; exact Rd.at0 hrw n0, by rw [HXY.out.2]; exact (Rd.lit2 hrw 1 (by decide) n1).1⟩)
    have HCL := Lib.hid (show ∀ cc, n - 2 ≤ cc → Calls Tryd.prog 14 #[.slice (some ⟨ad.block, ad.off + 2, none⟩) (n - 2) cc] w5.drew (fun e w6 => ∃ A6 c6, e = .returned (.slice A6 (n - 2) c6) ∧ Own w5.drew w6 (.slice A6 (n - 2) c6) (b.drop 2) ∧ Below w5.drew.heap.size w5.drew w6) from fun cc hcc => by
      have hl2 : (b.drop 2).length = n - 2 := by rw [List.length_drop, HR.out.2.2.2.2]
      have hrow := HRD.out w5.drew (H5.out.2.2.below (below_drew (Below.refl _ _)))
      rw [if_neg hc2, ← hl2] at hrow
      have h := bytes_Clone.calls (some ⟨ad.block, ad.off + 2, none⟩) cc (b.drop 2) (b.drop 2) w5.drew hrow (by rw [hl2]; exact hcc) (if_pos (by rw [hl2]; have := HR.out; omega))
      rw [hl2] at h
      refine h.mono ?_
      rintro e w6 ⟨v6, rfl, ho6, hb6⟩
      obtain ⟨A6, c6, rfl, _, _⟩ := Own.reads ho6
      rw [hl2] at ho6 ⊢
      exact ⟨A6, c6, rfl, ho6, hb6⟩)
    obtain ⟨gb, cap, ee, _, _, _⟩ := Own.form (show Own w0 W3 (.slice (some ad) b.length cb) b by rw [HR.out.2.2.2.2]; exact HJ.out.2.2.2.2) (by rw [HR.out.2.2.2.2]; exact n0)
    have hgb : g0 ≠ gb := fun h => HG0.out (by injection ee with ea _ _; rw [Option.some.inj ea, h]; rfl)
    have had : ad = ⟨gb, 0, none⟩ := by injection ee with ea _ _; exact Option.some.inj ea
    have HN1 := Lib.hid (show ∀ i, (⟨g0, i, none⟩ : Addr) ≠ ad from fun i h => by rw [had] at h; injection h with h1; exact hgb h1)
    have HN2 := Lib.hid (show ∀ i, (⟨g0, i, none⟩ : Addr) ≠ ⟨ad.block, ad.off + 1, none⟩ from fun i h => by rw [had] at h; injection h with h1; exact hgb h1)
    clear had hgb ee
    go_upto_region 9 with (fail)
    have x0 := (HX.out w5 (Below.refl _ _)).1
    have x1 := (HX.out w5 (Below.refl _ _)).2
    go_region_held3 (fun w' => w'.cell? ad = some (.int .u8 x) ∧ w'.cell? ⟨ad.block, ad.off + 1, none⟩ = some (.int .u8 y)) (first | with_reducible exact HX.out _ (below_drew (Below.refl _ _)) | with_reducible exact HX.out _ H6.out.1 | (refine ⟨?_, ?_⟩ <;> (rw [World.cell?_setCell_other _ _ _ _ (HN1.out _), World.cell?_setCell_other _ _ _ _ (HN1.out _), World.cell?_setCell_other _ _ _ _ (HN1.out _), World.cell?_setCell_other _ _ _ _ (HN1.out _)]; exact (HX.out _ H6.out.1).1)) | (refine ⟨?_, ?_⟩; (rw [World.cell?_setCell_other _ _ _ _ (HN1.out _), World.cell?_setCell_other _ _ _ _ (HN1.out _), World.cell?_setCell_other _ _ _ _ (HN1.out _), World.cell?_setCell_other _ _ _ _ (HN1.out _)]; exact (HX.out _ H6.out.1).1); (rw [World.cell?_setCell_other _ _ _ _ (HN2.out _), World.cell?_setCell_other _ _ _ _ (HN2.out _), World.cell?_setCell_other _ _ _ _ (HN2.out _), World.cell?_setCell_other _ _ _ _ (HN2.out _)]; exact (HX.out _ H6.out.1).2))) (first | (go_at_call 14; (with_reducible refine (HCL.out _ (by have := HCAP.out; omega)).mono ?_); rintro e w6 ⟨A6, c6, rfl, ho6, hb6⟩; have H6 := Lib.hid (show Below w5.heap.size w5 w6 ∧ Own w5.drew w6 (.slice A6 (n - 2) c6) (b.drop 2) ∧ Whole w6 g0 51 ev0 from ⟨below_step (below_drew (Below.refl _ _)) hb6, ho6, H5.out.2.1.below (below_step (below_drew (Below.refl _ _)) hb6) H5.out.2.1.lt⟩); have f0 := H6.out.2.2.free 0; have f1 := H6.out.2.2.free 1; have f2 := H6.out.2.2.free 2; have f3 := H6.out.2.2.free 3; have y0 := H6.out.2.2.cell 0 _ rfl; have y1 := H6.out.2.2.cell 1 _ rfl; have y2 := H6.out.2.2.cell 2 _ rfl; have y3 := H6.out.2.2.cell 3 _ rfl; clear ho6 hb6) | (fail))
    all_goals
      go_wp2
      refine bodyPost_ret (results_ct rfl _ _ g0 _ #[_, _, _, _] _ _ rfl ((((H6.out.2.2.set 0 _).set 1 _).set 2 _).set 3 _) Tryd.underlying51 rfl (by kernel_rfl)) rfl ?_
      have hno : some g0 ≠ (Value.slice A6 (n - 2) c6).ownBlock := fun e => by have h1 := H6.out.2.1.ge g0 e.symm; have h2 := H5.out.2.1.lt; have h3 : w5.drew.heap.size = w5.heap.size := rfl; omega
      have hwl : w.heap.size ≤ w5.heap.size := Nat.le_trans HK.out.2.2.2.1.size H5.out.1.2.1.1
      exact ⟨8, C, b.drop 2, false, _, rfl, by rw [HV.out, HC.out], ((((H6.out.2.1.lower hwl).far hno _).far hno _).far hno _).far hno _, H5.out.1.fin HK.out.2.2.2.1 HI.out.2.2.2.2.1 HI.out.2.2.2.1 (fun k hk hne => by rw [heap_far hne, heap_far hne, heap_far hne, heap_far hne]; exact H6.out.1.block k hk) (by rw [World.size_setCell, World.size_setCell, World.size_setCell, World.size_setCell]; exact H6.out.1.size) ((((below_step H5.out.1.2.2 H6.out.1).setCell HI.out.2.2.2.2.2.2.1 _).setCell HI.out.2.2.2.2.2.2.1 _).setCell HI.out.2.2.2.2.2.2.1 _ |>.setCell HI.out.2.2.2.2.2.2.1 _)⟩
/-- What a close's load tells, of any bytes. -/
theorem WsClose_calls {n : Nat} (w0 w : World) (g : Nat) (c : Cn) (vw vl : Value) (A : Option Addr) (cb : Nat) (b : List Int) (h : ConnAt w0 w g c vw vl) (hB : Below w0.heap.size w0 w) (hb : Own w0 w (.slice A n cb) b) (hap : ∀ k, Foot g vw vl k → some k ≠ (Value.slice A n cb).ownBlock) (hby : Bytes b) (hn : n ≤ 16384) :
    Calls Tryd.prog 51 #[.pointer (some ⟨g, 0, none⟩), .slice A n cb] w (ClosePost w0 w g c vw vl b) := by
  by_cases h0 : n = 0
  · exact WsClose_nil w0 w g c vw vl A cb b h hB hb hap hby hn h0
  by_cases h1 : n = 1
  · exact WsClose_one w0 w g c vw vl A cb b h hB hb hap hby hn h1
  have h2 : 2 ≤ n := by omega
  cases hm : mayB (256 * rd b 0 + rd b 1) with
  | false => exact WsClose_may w0 w g c vw vl A cb b h hB hb hap hby hn h2 hm
  | true =>
    by_cases hc : 0 ≤ charsOf (b.drop 2)
    · exact WsClose_bad w0 w g c vw vl A cb b h hB hb hap hby hn h2 hm hc
    · exact WsClose_ok w0 w g c vw vl A cb b h hB hb hap hby hn h2 hm hc
end Go.Proofs.YtcfbfmgckaehdaaDoor
