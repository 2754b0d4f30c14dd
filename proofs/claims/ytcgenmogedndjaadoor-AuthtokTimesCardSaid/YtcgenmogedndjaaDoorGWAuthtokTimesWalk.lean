/- The walk of a law: AuthtokTimesWalk. -/
import Derived.Test.YtcgenmogedndjaaDoorG27
import Derived.Test.YtcgenmogedndjaaDoorG29
namespace Go.Proofs.YtcgenmogedndjaaDoor
open Go.RowKit Go.Proofs.YtcgenmogedndjaaDoorW.PrintWords
set_option maxRecDepth 20000 in
set_option maxHeartbeats 6400000 in
theorem AuthtokTimes_walk (A : Option Addr) (n c : Nat) (L : List Sec) (s : ByteArray) (a : Int) (b : Int) (w : World) (hG : Laid w) (hr0 : RdS w A n L) (_hc0 : n ≤ c) (hok : SecOk L) (_hs : s.size ≤ 140737488351232) (_hwa : (Lit.int .i64 a).wf = true) (_hwb : (Lit.int .i64 b).wf = true) :
    Calls Tryd.prog 5 #[.slice A n c, .string s, .int .i64 a, .int .i64 b] w fun e w' => e = .returned (.bool true) ∧ Below w.heap.size w w' := by
  have HI := Lib.hid (show RdS w A n L ∧ SecOk L ∧ Laid w ∧ Below w.heap.size w w ∧ L.length = n from ⟨hr0, hok, hG, Below.refl _ _, Kd.C_len hr0⟩)
  clear hr0 hok hG
  obtain ⟨lo, hlo⟩ : ∃ x, x = min a b := ⟨_, rfl⟩
  obtain ⟨hi, hhi⟩ : ∃ x, x = max a b := ⟨_, rfl⟩
  have HM := Lib.hid (show lo = min a b ∧ hi = max a b ∧ lo ≤ hi from ⟨hlo, hhi, by omega⟩)
  clear _hs _hwa _hwb hlo hhi
  go_enter Tryd.func5, Tryd.ntmps5
  go_wp2_with fail
  refine (secrets_calls A c L w HI.out.1 HI.out.2.1).mono ?_
  rintro e w1 ⟨v1, b1, rfl, hb1, ho1⟩
  have H1 := Lib.hid (show Below w.heap.size w w1 ∧ Laid w1 ∧ RdS w1 A n L ∧ SecOk L ∧ L.length = n from ⟨below_step HI.out.2.2.2.1 hb1, HI.out.2.2.1.below hb1 HI.out.2.2.1.lt, Kd.C_below HI.out.1 hb1, HI.out.2.1, HI.out.2.2.2.2⟩)
  have HO := Lib.hid ho1
  clear ho1 hb1
  cases b1 with
  | false =>
    clear HO
    go_wp2_with (go_at_call 11; (with_reducible refine (aw_calls _ H1.out.2.1).mono ?_); rintro e w99 ⟨rfl, hb99⟩; have HB99 := Lib.hid (below_step H1.out.1 hb99); clear hb99)
    go_ret
    exact ⟨rfl, HB99.out⟩
  | true =>
    by_cases hz0 : 65536 < s.size
    case' pos =>
      have dz0 : decide (65536 < (s.size : Int)) = true := decide_eq_true (by omega)
      have dz0' : decide (65536 < s.size) = true := decide_eq_true hz0
      clear hz0
      have HO2 := HO
      clear HO
      go_wp2_with (go_at_call 11; (with_reducible refine (aw_calls _ H1.out.2.1).mono ?_); rintro e w99 ⟨rfl, hb99⟩; have HB99 := Lib.hid (below_step H1.out.1 hb99); clear hb99)
      go_ret
      exact ⟨rfl, HB99.out⟩
    have dz0 : decide (65536 < (s.size : Int)) = false := decide_eq_false (by omega)
    have dz0' : decide (65536 < s.size) = false := decide_eq_false hz0
    have HZ0 := Lib.hid (show s.size ≤ 65536 by omega)
    clear hz0
    obtain ⟨A1, c1, rfl, hc1, hr1⟩ := (HO.out rfl).1.reads
    have hn1 := H1.out.2.2.2.2
    rw [hn1] at hr1 hc1 ⊢
    have HR1 := Lib.hid (show RdS w1 A1 n L ∧ n ≤ c1 ∧ n ≤ 21 from ⟨hr1, hc1, hn1 ▸ (HO.out rfl).2⟩)
    clear hr1 hc1 hn1
    go_upto_region 5 with (fail)
    rw [← HM.out.1, ← HM.out.2.1]
    go_wp2_with fail
    refine (AuthRead_calls A1 c1 L lo s _ HR1.out.1 H1.out.2.2.2.1 (by have := HZ0.out; omega) H1.out.2.1).mono ?_
    rintro e w2 ⟨x, f2, rfl, hsp2, hb2⟩
    obtain ⟨xa, xb, xu⟩ := x
    simp only
    obtain ⟨g2, hg2⟩ : ∃ g, g = w2.heap.size := ⟨_, rfl⟩
    obtain ⟨W2, hW2⟩ : ∃ W, W = w2.alloc (.cells #[.string xa, .string xb, .int .i64 xu] 24) := ⟨_, rfl⟩
    have hbb2 : Below w1.heap.size w1 W2 := by rw [hW2]; exact below_alloc (below_step (Below.refl _ _) hb2) _
    have hw2 : Whole W2 g2 24 #[.string xa, .string xb, .int .i64 xu] := by rw [hW2, hg2]; exact Whole.new w2 _ _
    have HS2 := Lib.hid (show g2 = w2.heap.size ∧ W2 = w2.alloc _ from ⟨hg2, hW2⟩)
    have H2 := Lib.hid (show Below w1.heap.size w1 W2 ∧ Whole W2 g2 24 #[.string xa, .string xb, .int .i64 xu] ∧ RdSpec L lo s ⟨xa, xb, xu⟩ f2 from ⟨hbb2, hw2, hsp2⟩)
    clear hb2 hg2 hW2 hbb2 hw2
    clear hsp2
    go_upto_region 6 with (fail)
    rw [← HS2.out.1, ← HS2.out.2]
    go_wp2_with fail
    refine (AuthRead_calls A1 c1 L hi s _ (Kd.C_below HR1.out.1 H2.out.1) H1.out.2.2.2.1 (by have := HZ0.out; omega) (H1.out.2.1.below H2.out.1 H1.out.2.1.lt)).mono ?_
    rintro e w3 ⟨y, f3, rfl, hsp3, hb3⟩
    have htm := read_times HM.out.2.2 H2.out.2.2 hsp3
    clear hsp3
    obtain ⟨ya, yb, yu⟩ := y
    simp only
    have hq2 := hb3
    obtain ⟨g3, hg3⟩ : ∃ g, g = w3.heap.size := ⟨_, rfl⟩
    obtain ⟨W3, hW3⟩ : ∃ W, W = w3.alloc (.cells #[.string ya, .string yb, .int .i64 yu] 24) := ⟨_, rfl⟩
    have hbb3 : Below w1.heap.size w1 W3 := by rw [hW3]; exact below_alloc (below_step H2.out.1 hb3) _
    have hw3 : Whole W3 g3 24 #[.string ya, .string yb, .int .i64 yu] := by rw [hW3, hg3]; exact Whole.new w3 _ _
    have HS3 := Lib.hid (show g3 = w3.heap.size ∧ W3 = w3.alloc _ from ⟨hg3, hW3⟩)
    have H3 := Lib.hid (show Below w1.heap.size w1 W3 ∧ Whole W3 g3 24 #[.string ya, .string yb, .int .i64 yu] ∧ Below W2.heap.size W2 W3 from ⟨hbb3, hw3, by rw [hW3]; exact below_alloc hq2 _⟩)
    clear hb3 hg3 hW3 hbb3 hw3
    clear hq2
    have hw2 := H2.out.2.1.below H3.out.2.2 H2.out.2.1.lt
    have x0 := hw2.cell 0 _ rfl
    have x1 := hw2.cell 1 _ rfl
    have x2 := hw2.cell 2 _ rfl
    have y0 := H3.out.2.1.cell 0 _ rfl
    have y1 := H3.out.2.1.cell 1 _ rfl
    have y2 := H3.out.2.1.cell 2 _ rfl
    clear hw2
    go_upto_region 7 with (fail)
    rw [← HS3.out.1, ← HS3.out.2]
    rcases htm with ⟨rfl, rfl, hxy⟩ | ⟨rfl, rfl⟩ | ⟨rfl, rfl, hl1, hl2⟩ | ⟨rfl, rfl⟩ | ⟨rfl, rfl⟩
    · injection hxy with ha hb hu
      subst ha hb hu
      go_wp2_with (go_at_call 11; (with_reducible refine (aw_calls _ (H1.out.2.1.below H3.out.1 H1.out.2.1.lt)).mono ?_); rintro e w99 ⟨rfl, hb99⟩; have HB99 := Lib.hid (below_step (below_step H1.out.1 H3.out.1) hb99); clear hb99)
      go_ret
      exact ⟨rfl, HB99.out⟩
    · go_wp2_with (go_at_call 11; (with_reducible refine (aw_calls _ (H1.out.2.1.below H3.out.1 H1.out.2.1.lt)).mono ?_); rintro e w99 ⟨rfl, hb99⟩; have HB99 := Lib.hid (below_step (below_step H1.out.1 H3.out.1) hb99); clear hb99)
      go_ret
      exact ⟨rfl, HB99.out⟩
    · simp only at hl1 hl2
      have d1 : decide (lo < xu) = true := decide_eq_true hl1
      have d2 : decide (xu ≤ hi) = true := decide_eq_true hl2
      clear hl1 hl2
      go_wp2_with (go_at_call 11; (with_reducible refine (aw_calls _ (H1.out.2.1.below H3.out.1 H1.out.2.1.lt)).mono ?_); rintro e w99 ⟨rfl, hb99⟩; have HB99 := Lib.hid (below_step (below_step H1.out.1 H3.out.1) hb99); clear hb99)
      go_ret
      exact ⟨rfl, HB99.out⟩
    · go_wp2_with (go_at_call 11; (with_reducible refine (aw_calls _ (H1.out.2.1.below H3.out.1 H1.out.2.1.lt)).mono ?_); rintro e w99 ⟨rfl, hb99⟩; have HB99 := Lib.hid (below_step (below_step H1.out.1 H3.out.1) hb99); clear hb99)
      go_ret
      exact ⟨rfl, HB99.out⟩
    · go_wp2_with (go_at_call 11; (with_reducible refine (aw_calls _ (H1.out.2.1.below H3.out.1 H1.out.2.1.lt)).mono ?_); rintro e w99 ⟨rfl, hb99⟩; have HB99 := Lib.hid (below_step (below_step H1.out.1 H3.out.1) hb99); clear hb99)
      go_ret
      exact ⟨rfl, HB99.out⟩
end Go.Proofs.YtcgenmogedndjaaDoor
