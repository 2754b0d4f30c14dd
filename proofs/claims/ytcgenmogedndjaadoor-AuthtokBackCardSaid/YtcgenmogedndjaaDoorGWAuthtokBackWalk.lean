/- The walk of a law: AuthtokBackWalk. -/
import Derived.Test.YtcgenmogedndjaaDoorG27
import Derived.Test.YtcgenmogedndjaaDoorG29
namespace Go.Proofs.YtcgenmogedndjaaDoor
open Go.RowKit Go.Proofs.YtcgenmogedndjaaDoorW.PrintWords
set_option maxRecDepth 20000 in
set_option maxHeartbeats 6400000 in
theorem AuthtokBack_walk (A : Option Addr) (n c : Nat) (L : List Sec) (ca cb : ByteArray) (cu : Int) (now : Int) (w : World) (hG : Laid w) (hr0 : RdS w A n L) (_hc0 : n ≤ c) (hok : SecOk L) (_hca : ca.size ≤ 9223372036854775807) (_hcb : cb.size ≤ 9223372036854775807) (hcu : -9223372036854775808 ≤ cu ∧ cu ≤ 9223372036854775807) (_hwnow : (Lit.int .i64 now).wf = true) :
    Calls Tryd.prog 3 #[.slice A n c, .agg #[.string ca, .string cb, .int .i64 cu], .int .i64 now] w fun e w' => e = .returned (.bool true) ∧ Below w.heap.size w w' := by
  obtain ⟨g, hg⟩ : ∃ g, g = w.heap.size := ⟨_, rfl⟩
  obtain ⟨W0, hW0⟩ : ∃ W0, W0 = w.alloc (.cells #[.string ca, .string cb, .int .i64 cu] 24) := ⟨_, rfl⟩
  have hbw : Below w.heap.size w W0 := by rw [hW0]; exact below_alloc (Below.refl _ _) _
  have hwh : Whole W0 g 24 #[.string ca, .string cb, .int .i64 cu] := by rw [hW0, hg]; exact Whole.new w _ _
  have HS := Lib.hid (show g = w.heap.size ∧ W0 = w.alloc _ from ⟨hg, hW0⟩)
  have HI := Lib.hid (show RdS W0 A n L ∧ SecOk L ∧ Laid W0 ∧ Below w.heap.size w W0 ∧ L.length = n ∧ Whole W0 g 24 #[.string ca, .string cb, .int .i64 cu] from ⟨Kd.C_below hr0 hbw, hok, hG.below hbw hG.lt, hbw, Kd.C_len hr0, hwh⟩)
  clear hg hW0 hbw hwh hr0 hok hG
  have HCU := Lib.hid hcu
  clear _hwnow _hca _hcb hcu
  go_enter Tryd.func3, Tryd.ntmps3
  go_upto_region 1 with (fail)
  rw [← HS.out.1, ← HS.out.2]
  go_wp2_with fail
  refine (secrets_calls A c L W0 HI.out.1 HI.out.2.1).mono ?_
  rintro e w1 ⟨v1, b1, rfl, hb1, ho1⟩
  have H1 := Lib.hid (show Below w.heap.size w w1 ∧ Laid w1 ∧ RdS w1 A n L ∧ SecOk L ∧ L.length = n ∧ Whole w1 g 24 #[.string ca, .string cb, .int .i64 cu] from ⟨below_step HI.out.2.2.2.1 hb1, HI.out.2.2.1.below hb1 HI.out.2.2.1.lt, Kd.C_below HI.out.1 hb1, HI.out.2.1, HI.out.2.2.2.2.1, HI.out.2.2.2.2.2.below hb1 HI.out.2.2.2.2.2.lt⟩)
  have HO := Lib.hid ho1
  clear ho1 hb1
  cases b1 with
  | false =>
    clear HO
    go_wp2_with (go_at_call 11; (with_reducible refine (aw_calls _ H1.out.2.1).mono ?_); rintro e w99 ⟨rfl, hb99⟩; have HB99 := Lib.hid (below_step H1.out.1 hb99); clear hb99)
    go_ret
    exact ⟨rfl, HB99.out⟩
  | true =>
    have x0 := H1.out.2.2.2.2.2.cell 0 _ rfl
    have x1 := H1.out.2.2.2.2.2.cell 1 _ rfl
    have x2 := H1.out.2.2.2.2.2.cell 2 _ rfl
    by_cases hz0 : 65536 < ca.size
    case' pos =>
      have dz0 : decide (65536 < (ca.size : Int)) = true := decide_eq_true (by omega)
      have dz0' : decide (65536 < ca.size) = true := decide_eq_true hz0
      clear hz0
      have HO2 := HO
      clear HO
      go_wp2_with (go_at_call 11; (with_reducible refine (aw_calls _ H1.out.2.1).mono ?_); rintro e w99 ⟨rfl, hb99⟩; have HB99 := Lib.hid (below_step H1.out.1 hb99); clear hb99)
      go_ret
      exact ⟨rfl, HB99.out⟩
    have dz0 : decide (65536 < (ca.size : Int)) = false := decide_eq_false (by omega)
    have dz0' : decide (65536 < ca.size) = false := decide_eq_false hz0
    have HZ0 := Lib.hid (show ca.size ≤ 65536 by omega)
    clear hz0
    by_cases hz1 : 65536 < cb.size
    case' pos =>
      have dz1 : decide (65536 < (cb.size : Int)) = true := decide_eq_true (by omega)
      have dz1' : decide (65536 < cb.size) = true := decide_eq_true hz1
      clear hz1
      have HO2 := HO
      clear HO
      go_wp2_with (go_at_call 11; (with_reducible refine (aw_calls _ H1.out.2.1).mono ?_); rintro e w99 ⟨rfl, hb99⟩; have HB99 := Lib.hid (below_step H1.out.1 hb99); clear hb99)
      go_ret
      exact ⟨rfl, HB99.out⟩
    have dz1 : decide (65536 < (cb.size : Int)) = false := decide_eq_false (by omega)
    have dz1' : decide (65536 < cb.size) = false := decide_eq_false hz1
    have HZ1 := Lib.hid (show cb.size ≤ 65536 by omega)
    clear hz1
    obtain ⟨A1, c1, rfl, hc1, hr1⟩ := (HO.out rfl).1.reads
    have hn1 := H1.out.2.2.2.2.1
    rw [hn1] at hr1 hc1 ⊢
    have HR1 := Lib.hid (show RdS w1 A1 n L ∧ n ≤ c1 ∧ n ≤ 21 from ⟨hr1, hc1, hn1 ▸ (HO.out rfl).2⟩)
    clear hr1 hc1 hn1
    have hmk := makeR_cases L ⟨ca, cb, cu⟩
    obtain ⟨R, hR⟩ : ∃ R, R = makeR L ⟨ca, cb, cu⟩ := ⟨_, rfl⟩
    rw [← hR] at hmk
    have HR := Lib.hid hR
    clear hR
    go_wp2_with fail
    refine (Make_calls A1 c1 L ca cb cu _ HR1.out.1 H1.out.2.2.2.1 HZ0.out HZ1.out HCU.out H1.out.2.1).mono ?_
    rintro e w2 ⟨rfl, hb2⟩
    rw [← HR.out]
    clear x0 x1 x2
    have HB2 := Lib.hid hb2
    clear hb2
    rcases hmk with ⟨e, _, (rfl | rfl | rfl), rfl⟩ | ⟨hck, hcm, rfl⟩
    · go_wp2_with (go_at_call 11; (with_reducible refine (aw_calls _ (H1.out.2.1.below HB2.out H1.out.2.1.lt)).mono ?_); rintro e w99 ⟨rfl, hb99⟩; have HB99 := Lib.hid (below_step (below_step H1.out.1 HB2.out) hb99); clear hb99)
      go_ret
      exact ⟨rfl, HB99.out⟩
    · go_wp2_with (go_at_call 11; (with_reducible refine (aw_calls _ (H1.out.2.1.below HB2.out H1.out.2.1.lt)).mono ?_); rintro e w99 ⟨rfl, hb99⟩; have HB99 := Lib.hid (below_step (below_step H1.out.1 HB2.out) hb99); clear hb99)
      go_ret
      exact ⟨rfl, HB99.out⟩
    · go_wp2_with (go_at_call 11; (with_reducible refine (aw_calls _ (H1.out.2.1.below HB2.out H1.out.2.1.lt)).mono ?_); rintro e w99 ⟨rfl, hb99⟩; have HB99 := Lib.hid (below_step (below_step H1.out.1 HB2.out) hb99); clear hb99)
      go_ret
      exact ⟨rfl, HB99.out⟩
    · have hts := (tok_size (k := newest L) hcm).1
      have hms : ∀ x f, RdSpec L now (tokS (newest L) ⟨ca, cb, cu⟩) x f → _ := fun x f h => read_made hck (newest_mem (checkB_len hck).1) hcm h
      obtain ⟨rs, hrs⟩ : ∃ s, s = tokS (newest L) ⟨ca, cb, cu⟩ := ⟨_, rfl⟩
      rw [← hrs] at hts hms ⊢
      have HTS := Lib.hid (And.intro hts hms)
      have HRS := Lib.hid hrs
      clear hts hms hrs hck hcm
      go_wp2_with fail
      refine (AuthRead_calls A1 c1 L now rs _ (Kd.C_below HR1.out.1 HB2.out) H1.out.2.2.2.1 (by have := HTS.out.1; omega) (H1.out.2.1.below HB2.out H1.out.2.1.lt)).mono ?_
      rintro e w3 ⟨x, f, rfl, hsp3, hb3⟩
      rcases HTS.out.2 _ _ hsp3 with ⟨hlt, rfl, rfl⟩ | ⟨hlt, rfl, rfl⟩
      · clear hsp3
        try simp only at hlt ⊢
        have dlt : decide (now < cu) = true := decide_eq_true hlt
        clear hlt
        obtain ⟨g3, hg3⟩ : ∃ g, g = w3.heap.size := ⟨_, rfl⟩
        obtain ⟨W3, hW3⟩ : ∃ W, W = w3.alloc (.cells #[.string ca, .string cb, .int .i64 cu] 24) := ⟨_, rfl⟩
        have hbb3 : Below w1.heap.size w1 W3 := by rw [hW3]; exact below_alloc (below_step HB2.out hb3) _
        have hw3 : Whole W3 g3 24 #[.string ca, .string cb, .int .i64 cu] := by rw [hW3, hg3]; exact Whole.new w3 _ _
        have HS3 := Lib.hid (show g3 = w3.heap.size ∧ W3 = w3.alloc _ from ⟨hg3, hW3⟩)
        have H3 := Lib.hid (show Below w1.heap.size w1 W3 ∧ Whole W3 g3 24 #[.string ca, .string cb, .int .i64 cu] from ⟨hbb3, hw3⟩)
        clear hb3 hg3 hW3 hbb3 hw3
        go_upto_region 8 with (fail)
        rw [← HS3.out.1, ← HS3.out.2]
        have hq3 := (H1.out.2.2.2.2.2.below H3.out.1 H1.out.2.2.2.2.2.lt)
        have x0 := hq3.cell 0 _ rfl
        have x1 := hq3.cell 1 _ rfl
        have x2 := hq3.cell 2 _ rfl
        have y0 := H3.out.2.cell 0 _ rfl
        have y1 := H3.out.2.cell 1 _ rfl
        have y2 := H3.out.2.cell 2 _ rfl
        clear hq3
        go_wp2_with (go_at_call 11; (with_reducible refine (aw_calls _ (H1.out.2.1.below H3.out.1 H1.out.2.1.lt)).mono ?_); rintro e w99 ⟨rfl, hb99⟩; have HB99 := Lib.hid (below_step (below_step H1.out.1 H3.out.1) hb99); clear hb99)
        go_ret
        exact ⟨rfl, HB99.out⟩
      · clear hsp3
        try simp only at hlt
        rw [show Clm.none.client = ⟨#[]⟩ from rfl, show Clm.none.group = ⟨#[]⟩ from rfl, show Clm.none.upto = 0 from rfl]
        have dlt : decide (now < cu) = false := decide_eq_false (by omega)
        clear hlt
        obtain ⟨g3, hg3⟩ : ∃ g, g = w3.heap.size := ⟨_, rfl⟩
        obtain ⟨W3, hW3⟩ : ∃ W, W = w3.alloc (.cells #[.string ⟨#[]⟩, .string ⟨#[]⟩, .int .i64 0] 24) := ⟨_, rfl⟩
        have hbb3 : Below w1.heap.size w1 W3 := by rw [hW3]; exact below_alloc (below_step HB2.out hb3) _
        have hw3 : Whole W3 g3 24 #[.string ⟨#[]⟩, .string ⟨#[]⟩, .int .i64 0] := by rw [hW3, hg3]; exact Whole.new w3 _ _
        have HS3 := Lib.hid (show g3 = w3.heap.size ∧ W3 = w3.alloc _ from ⟨hg3, hW3⟩)
        have H3 := Lib.hid (show Below w1.heap.size w1 W3 ∧ Whole W3 g3 24 #[.string ⟨#[]⟩, .string ⟨#[]⟩, .int .i64 0] from ⟨hbb3, hw3⟩)
        clear hb3 hg3 hW3 hbb3 hw3
        go_upto_region 8 with (fail)
        rw [← HS3.out.1, ← HS3.out.2]
        have hq3 := (H1.out.2.2.2.2.2.below H3.out.1 H1.out.2.2.2.2.2.lt)
        have x0 := hq3.cell 0 _ rfl
        have x1 := hq3.cell 1 _ rfl
        have x2 := hq3.cell 2 _ rfl
        have y0 := H3.out.2.cell 0 _ rfl
        have y1 := H3.out.2.cell 1 _ rfl
        have y2 := H3.out.2.cell 2 _ rfl
        clear hq3
        go_wp2_with (go_at_call 11; (with_reducible refine (aw_calls _ (H1.out.2.1.below H3.out.1 H1.out.2.1.lt)).mono ?_); rintro e w99 ⟨rfl, hb99⟩; have HB99 := Lib.hid (below_step (below_step H1.out.1 H3.out.1) hb99); clear hb99)
        go_ret
        exact ⟨rfl, HB99.out⟩
end Go.Proofs.YtcgenmogedndjaaDoor
