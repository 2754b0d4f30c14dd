/- The walk of a law: AuthtokReadsWalk. -/
import Derived.Test.YtcgenmogedndjaaDoorG27
import Derived.Test.YtcgenmogedndjaaDoorG29
namespace Go.Proofs.YtcgenmogedndjaaDoor
open Go.RowKit Go.Proofs.YtcgenmogedndjaaDoorW.PrintWords
set_option maxRecDepth 20000 in
set_option maxHeartbeats 6400000 in
theorem AuthtokReads_walk (A : Option Addr) (n c : Nat) (L : List Sec) (now : Int) (s : ByteArray) (w : World) (hG : Laid w) (hr0 : RdS w A n L) (_hc0 : n ≤ c) (hok : SecOk L) (_hwnow : (Lit.int .i64 now).wf = true) (_hs : s.size ≤ 140737488351232) :
    Calls Tryd.prog 8 #[.slice A n c, .int .i64 now, .string s] w fun e w' => e = .returned (.bool true) ∧ Below w.heap.size w w' := by
  have HI := Lib.hid (show RdS w A n L ∧ SecOk L ∧ Laid w ∧ Below w.heap.size w w ∧ L.length = n from ⟨hr0, hok, hG, Below.refl _ _, Kd.C_len hr0⟩)
  clear hr0 hok hG
  clear _hs _hwnow
  go_enter Tryd.func8, Tryd.ntmps8
  go_wp2_with fail
  refine (secrets_calls A c L w HI.out.1 HI.out.2.1).mono ?_
  rintro e w1 ⟨v1, b1, rfl, hb1, ho1⟩
  have H1 := Lib.hid (show Below w.heap.size w w1 ∧ Laid w1 ∧ RdS w1 A n L ∧ SecOk L ∧ L.length = n from ⟨below_step HI.out.2.2.2.1 hb1, HI.out.2.2.1.below hb1 HI.out.2.2.1.lt, Kd.C_below HI.out.1 hb1, HI.out.2.1, HI.out.2.2.2.2⟩)
  have HO := Lib.hid ho1
  clear ho1 hb1
  cases b1 with
  | false =>
    clear HO
    go_wp2_with (go_at_call 11; (with_reducible refine (aw_calls _ H1.out.2.1).mono ?_); rintro e w99 ⟨rfl, hb99⟩; have HB99 := Lib.hid (below_step H1.out.1 hb99); clear hb99)
    go_ret
    exact ⟨rfl, HB99.out⟩
  | true =>
    by_cases hz0 : 65536 < s.size
    case' pos =>
      have dz0 : decide (65536 < (s.size : Int)) = true := decide_eq_true (by omega)
      have dz0' : decide (65536 < s.size) = true := decide_eq_true hz0
      clear hz0
      have HO2 := HO
      clear HO
      go_wp2_with (go_at_call 11; (with_reducible refine (aw_calls _ H1.out.2.1).mono ?_); rintro e w99 ⟨rfl, hb99⟩; have HB99 := Lib.hid (below_step H1.out.1 hb99); clear hb99)
      go_ret
      exact ⟨rfl, HB99.out⟩
    have dz0 : decide (65536 < (s.size : Int)) = false := decide_eq_false (by omega)
    have dz0' : decide (65536 < s.size) = false := decide_eq_false hz0
    have HZ0 := Lib.hid (show s.size ≤ 65536 by omega)
    clear hz0
    obtain ⟨A1, c1, rfl, hc1, hr1⟩ := (HO.out rfl).1.reads
    have hn1 := H1.out.2.2.2.2
    rw [hn1] at hr1 hc1 ⊢
    have HR1 := Lib.hid (show RdS w1 A1 n L ∧ n ≤ c1 ∧ n ≤ 21 from ⟨hr1, hc1, hn1 ▸ (HO.out rfl).2⟩)
    clear hr1 hc1 hn1
    go_wp2_with fail
    refine (AuthRead_calls A1 c1 L now s _ HR1.out.1 H1.out.2.2.2.1 (by have := HZ0.out; omega) H1.out.2.1).mono ?_
    rintro e w2 ⟨x, f, rfl, hsp2, hb2⟩
    obtain ⟨xa, xb, xu⟩ := x
    simp only
    obtain ⟨g2, hg2⟩ : ∃ g, g = w2.heap.size := ⟨_, rfl⟩
    obtain ⟨W2, hW2⟩ : ∃ W, W = w2.alloc (.cells #[.string xa, .string xb, .int .i64 xu] 24) := ⟨_, rfl⟩
    have hbb2 : Below w1.heap.size w1 W2 := by rw [hW2]; exact below_alloc hb2 _
    have hw2 : Whole W2 g2 24 #[.string xa, .string xb, .int .i64 xu] := by rw [hW2, hg2]; exact Whole.new w2 _ _
    have HS2 := Lib.hid (show g2 = w2.heap.size ∧ W2 = w2.alloc _ from ⟨hg2, hW2⟩)
    have H2 := Lib.hid (show Below w1.heap.size w1 W2 ∧ Whole W2 g2 24 #[.string xa, .string xb, .int .i64 xu] ∧ RdSpec L now s ⟨xa, xb, xu⟩ f from ⟨hbb2, hw2, hsp2⟩)
    clear hsp2 hb2 hg2 hW2 hbb2 hw2
    go_upto_region 5 with (fail)
    rw [← HS2.out.1, ← HS2.out.2]
    go_wp2_with fail
    refine (AuthReadRef_calls A c L now s _ (Kd.C_below H1.out.2.2.1 H2.out.1) H1.out.2.2.2.1 (by have := HZ0.out; omega)).mono ?_
    rintro e w3 ⟨y, f3, rfl, hsp3, hb3⟩
    obtain ⟨hxy, hff⟩ := H2.out.2.2.unique hsp3
    subst hxy hff
    simp only
    obtain ⟨g3, hg3⟩ : ∃ g, g = w3.heap.size := ⟨_, rfl⟩
    obtain ⟨W3, hW3⟩ : ∃ W, W = w3.alloc (.cells #[.string xa, .string xb, .int .i64 xu] 24) := ⟨_, rfl⟩
    have hbb3 : Below W2.heap.size W2 W3 := by rw [hW3]; exact below_alloc hb3 _
    have hw3 : Whole W3 g3 24 #[.string xa, .string xb, .int .i64 xu] := by rw [hW3, hg3]; exact Whole.new w3 _ _
    have hq2 := H2.out.2.1.below hbb3 H2.out.2.1.lt
    have x0 := hq2.cell 0 _ rfl
    have x1 := hq2.cell 1 _ rfl
    have x2 := hq2.cell 2 _ rfl
    have y0 := hw3.cell 0 _ rfl
    have y1 := hw3.cell 1 _ rfl
    have y2 := hw3.cell 2 _ rfl
    have HS3 := Lib.hid (show g3 = w3.heap.size ∧ W3 = w3.alloc _ from ⟨hg3, hW3⟩)
    have H3 := Lib.hid (show Below w.heap.size w W3 ∧ Below w1.heap.size w1 W3 from ⟨below_step H1.out.1 (below_step H2.out.1 hbb3), below_step H2.out.1 hbb3⟩)
    clear hsp3 hb3 hg3 hW3 hbb3 hw3 hq2
    go_upto_region 6 with (fail)
    rw [← HS3.out.1, ← HS3.out.2]
    go_wp2_with fail
    refine (same_calls A1 c1 A c L _ (Kd.C_below HR1.out.1 H3.out.2) (Kd.C_below H1.out.2.2.1 H3.out.2) H1.out.2.2.2.1).mono ?_
    rintro e w4 ⟨rfl, hb4⟩
    have H4 := Lib.hid (show Below w.heap.size w w4 ∧ Below w1.heap.size w1 w4 from ⟨below_step H3.out.1 hb4, below_step H3.out.2 hb4⟩)
    clear hb4 x0 x1 x2 y0 y1 y2
    go_wp2_with (go_at_call 11; (with_reducible refine (aw_calls _ (H1.out.2.1.below H4.out.2 H1.out.2.1.lt)).mono ?_); rintro e w99 ⟨rfl, hb99⟩; have HB99 := Lib.hid (below_step H4.out.1 hb99); clear hb99)
    go_ret
    exact ⟨rfl, HB99.out⟩
end Go.Proofs.YtcgenmogedndjaaDoor
