/- The walk of a law: AuthtokSecretsWalk. -/
import Derived.Test.YtcgenmogedndjaaDoorG27
import Derived.Test.YtcgenmogedndjaaDoorG30
namespace Go.Proofs.YtcgenmogedndjaaDoor
open Go.RowKit Go.Proofs.YtcgenmogedndjaaDoorW.PrintWords
theorem RdS.at_one {w : World} {ad : Addr} {n c : Nat} {L : List Sec} (h : RdS w (some ad) n L) (hc : n ≤ c) (q : Nat) (hq : q < n) : RdS w (some (ad.add (q * 2))) 1 ((L.drop q).take 1) := by
  have hl := Kd.C_len h
  have h1 := Kd.C_drop (k := secK) (m := q) (c := c) (hl ▸ h) (by omega) (by omega)
  rw [if_neg (by omega), List.length_drop, Option.map_some, show q * secK.sz = q * 2 from rfl] at h1
  exact RdS.take (n := L.length - q) h1 1 (by omega)
theorem erase_sub (L : List Sec) (q : Nat) : (L.take q ++ L.drop (q + 1)).Sublist L := by
  rw [← List.eraseIdx_eq_take_drop_succ]
  exact List.eraseIdx_sublist L q
theorem Below.trans_same {b : Nat} {w0 w1 w2 : World} (h : Below b w0 w1) (k : Below b w1 w2) : Below b w0 w2 := h.trans k
set_option maxRecDepth 20000 in
set_option maxHeartbeats 6400000 in
theorem AuthtokSecrets_walk (A : Option Addr) (n c : Nat) (L : List Sec) (ix : Int) (ca cb : ByteArray) (cu : Int) (now : Int) (w : World) (hG : Laid w) (hr0 : RdS w A n L) (_hc0 : n ≤ c) (hok : SecOk L) (_hwix : (Lit.int .i64 ix).wf = true) (_hca : ca.size ≤ 9223372036854775807) (_hcb : cb.size ≤ 9223372036854775807) (hcu : -9223372036854775808 ≤ cu ∧ cu ≤ 9223372036854775807) (_hwnow : (Lit.int .i64 now).wf = true) :
    Calls Tryd.prog 6 #[.slice A n c, .int .i64 ix, .agg #[.string ca, .string cb, .int .i64 cu], .int .i64 now] w fun e w' => e = .returned (.bool true) ∧ Below w.heap.size w w' := by
  obtain ⟨g, hg⟩ : ∃ g, g = w.heap.size := ⟨_, rfl⟩
  obtain ⟨W0, hW0⟩ : ∃ W0, W0 = w.alloc (.cells #[.string ca, .string cb, .int .i64 cu] 24) := ⟨_, rfl⟩
  have hbw : Below w.heap.size w W0 := by rw [hW0]; exact below_alloc (Below.refl _ _) _
  have hwh : Whole W0 g 24 #[.string ca, .string cb, .int .i64 cu] := by rw [hW0, hg]; exact Whole.new w _ _
  have HS := Lib.hid (show g = w.heap.size ∧ W0 = w.alloc _ from ⟨hg, hW0⟩)
  have HI := Lib.hid (show RdS W0 A n L ∧ SecOk L ∧ Laid W0 ∧ Below w.heap.size w W0 ∧ L.length = n ∧ Whole W0 g 24 #[.string ca, .string cb, .int .i64 cu] from ⟨Kd.C_below hr0 hbw, hok, hG.below hbw hG.lt, hbw, Kd.C_len hr0, hwh⟩)
  clear hg hW0 hbw hwh hr0 hok hG
  have HCU := Lib.hid hcu
  clear _hwnow _hwix _hca _hcb hcu
  go_enter Tryd.func6, Tryd.ntmps6
  go_upto_region 1 with (fail)
  rw [← HS.out.1, ← HS.out.2]
  go_wp2_with fail
  refine (secrets_calls A c L W0 HI.out.1 HI.out.2.1).mono ?_
  rintro e w1 ⟨v1, b1, rfl, hb1, ho1⟩
  have H1 := Lib.hid (show Below w.heap.size w w1 ∧ Laid w1 ∧ RdS w1 A n L ∧ SecOk L ∧ L.length = n ∧ Whole w1 g 24 #[.string ca, .string cb, .int .i64 cu] from ⟨below_step HI.out.2.2.2.1 hb1, HI.out.2.2.1.below hb1 HI.out.2.2.1.lt, Kd.C_below HI.out.1 hb1, HI.out.2.1, HI.out.2.2.2.2.1, HI.out.2.2.2.2.2.below hb1 HI.out.2.2.2.2.2.lt⟩)
  have HO := Lib.hid ho1
  clear ho1 hb1
  cases b1 with
  | false =>
    clear HO
    go_wp2_with (go_at_call 11; (with_reducible refine (aw_calls _ H1.out.2.1).mono ?_); rintro e w99 ⟨rfl, hb99⟩; have HB99 := Lib.hid (below_step H1.out.1 hb99); clear hb99)
    go_ret
    exact ⟨rfl, HB99.out⟩
  | true =>
    obtain ⟨A1, c1, rfl, hc1, hr1⟩ := (HO.out rfl).1.reads
    have hn1 := H1.out.2.2.2.2.1
    rw [hn1] at hr1 hc1 ⊢
    have HR1 := Lib.hid (show RdS w1 A1 n L ∧ n ≤ c1 ∧ n ≤ 21 from ⟨hr1, hc1, hn1 ▸ (HO.out rfl).2⟩)
    clear hr1 hc1 hn1
    go_wp2_with fail
    refine (Check_calls A1 c1 L _ HR1.out.1).mono ?_
    rintro e w2 ⟨rfl, hb2⟩
    have H2 := Lib.hid hb2
    have hq2 := H1.out.2.2.2.2.2.below hb2 H1.out.2.2.2.2.2.lt
    have x0 := hq2.cell 0 _ rfl
    have x1 := hq2.cell 1 _ rfl
    have x2 := hq2.cell 2 _ rfl
    have HQ2 := Lib.hid hq2
    clear hb2 hq2
    cases hck : checkB L with
    | false =>
      rw [checkE_no hck]
      clear hck
      go_wp2_with (go_at_call 11; (with_reducible refine (aw_calls _ (H1.out.2.1.below H2.out H1.out.2.1.lt)).mono ?_); rintro e w99 ⟨rfl, hb99⟩; have HB99 := Lib.hid (below_step (below_step H1.out.1 H2.out) hb99); clear hb99)
      go_ret
      exact ⟨rfl, HB99.out⟩
    | true =>
      rw [checkE_yes hck]
      have HCK := Lib.hid hck
      clear hck
      by_cases hn2 : n < 2
      case' pos =>
        have dn2 : decide ((n : Int) < 2) = true := decide_eq_true (by omega)
        have dn2' : decide (n < 2) = true := decide_eq_true hn2
        clear hn2
        go_wp2_with (go_at_call 11; (with_reducible refine (aw_calls _ (H1.out.2.1.below H2.out H1.out.2.1.lt)).mono ?_); rintro e w99 ⟨rfl, hb99⟩; have HB99 := Lib.hid (below_step (below_step H1.out.1 H2.out) hb99); clear hb99)
        go_ret
        exact ⟨rfl, HB99.out⟩
      have dn2 : decide ((n : Int) < 2) = false := decide_eq_false (by omega)
      have dn2' : decide (n < 2) = false := decide_eq_false hn2
      have HN2 := Lib.hid (show 2 ≤ n by omega)
      clear hn2
      by_cases hz0 : 65536 < ca.size
      case' pos =>
        have dz0 : decide (65536 < (ca.size : Int)) = true := decide_eq_true (by omega)
        have dz0' : decide (65536 < ca.size) = true := decide_eq_true hz0
        clear hz0
        have HO2 := HO
        clear HO
        go_wp2_with (go_at_call 11; (with_reducible refine (aw_calls _ (H1.out.2.1.below H2.out H1.out.2.1.lt)).mono ?_); rintro e w99 ⟨rfl, hb99⟩; have HB99 := Lib.hid (below_step (below_step H1.out.1 H2.out) hb99); clear hb99)
        go_ret
        exact ⟨rfl, HB99.out⟩
      have dz0 : decide (65536 < (ca.size : Int)) = false := decide_eq_false (by omega)
      have dz0' : decide (65536 < ca.size) = false := decide_eq_false hz0
      have HZ0 := Lib.hid (show ca.size ≤ 65536 by omega)
      clear hz0
      by_cases hz1 : 65536 < cb.size
      case' pos =>
        have dz1 : decide (65536 < (cb.size : Int)) = true := decide_eq_true (by omega)
        have dz1' : decide (65536 < cb.size) = true := decide_eq_true hz1
        clear hz1
        have HO2 := HO
        clear HO
        go_wp2_with (go_at_call 11; (with_reducible refine (aw_calls _ (H1.out.2.1.below H2.out H1.out.2.1.lt)).mono ?_); rintro e w99 ⟨rfl, hb99⟩; have HB99 := Lib.hid (below_step (below_step H1.out.1 H2.out) hb99); clear hb99)
        go_ret
        exact ⟨rfl, HB99.out⟩
      have dz1 : decide (65536 < (cb.size : Int)) = false := decide_eq_false (by omega)
      have dz1' : decide (65536 < cb.size) = false := decide_eq_false hz1
      have HZ1 := Lib.hid (show cb.size ≤ 65536 by omega)
      clear hz1
      obtain ⟨ad, hA1⟩ : ∃ ad, A1 = some ad := by
        obtain ⟨ad, h, _⟩ := HR1.out.1.2.2 (by have := HN2.out; omega)
        exact ⟨ad, h⟩
      subst hA1
      obtain ⟨u, hu⟩ : ∃ u : Nat, IntKind.u64.wrap ix = (u : Int) := ⟨(IntKind.u64.wrap ix).toNat, by rw [IntKind.wrap_u64]; omega⟩
      have hu2 : u < 18446744073709551616 := by have h : 0 ≤ IntKind.u64.wrap ix ∧ IntKind.u64.wrap ix < 18446744073709551616 := by rw [IntKind.wrap_u64]; omega
                                                omega
      obtain ⟨q, hq⟩ : ∃ q, q = u % n := ⟨_, rfl⟩
      have hqn : q < n := by rw [hq]; exact Nat.mod_lt _ (by have := HN2.out; omega)
      have hn21 : n ≤ 21 := HR1.out.2.2
      have wm : IntKind.u64.wrap (n : Int) = n := by rw [IntKind.wrap_u64]; omega
      have wu : IntKind.u64.wrap (u : Int) = u := by rw [IntKind.wrap_u64]; omega
      have wq : IntKind.u64.wrap (q : Int) = q := by rw [IntKind.wrap_u64]; omega
      have wqi : IntKind.i64.wrap (q : Int) = q := wrap_id (by omega) (by omega)
      have e1 : ((u : Int).tmod (n : Int)) = (q : Int) := by rw [hq]; exact (Int.ofNat_tmod u n).symm
      have hz1 : (n : Int) ≠ 0 := by have := HN2.out; omega
      have dz1 : ((n : Int) == 0) = false := beq_eq_false_iff_ne.2 hz1
      have dz1' : (n == 0) = false := beq_eq_false_iff_ne.2 (by have := HN2.out; omega)
      have HQ := Lib.hid hqn
      have hzn : ¬ (n = 0) := by have := HN2.out; omega
      clear hq hu2 hz1 hqn hn21
      go_upto_region 5 with (fail)
      clear e1 wm wu wq hu dz1 dz1' hzn
      have hqn := HQ.out
      have wk : IntKind.i64.wrap ((q : Int) + 1) = q + 1 := wrap_id (by have := HR1.out.2.2; omega) (by have := HR1.out.2.2; omega)
      have tk : ((q : Int) + 1).toNat = q + 1 := by omega
      have j0 : (0 : Int) ≤ (q : Int) + 1 := by omega
      have j1 : (q : Int) + 1 ≤ c1 := by have := HR1.out.2.1; omega
      have j2 : (0 : Int) ≤ q := by omega
      have j3 : (q : Int) ≤ (q : Int) + 1 := by omega
      have hmk := makeR_cases (L.take (q + 1)) ⟨ca, cb, cu⟩
      rw [take_newest L q (by have := H1.out.2.2.2.2.1; omega)] at hmk
      obtain ⟨R, hR⟩ : ∃ R, R = makeR (L.take (q + 1)) ⟨ca, cb, cu⟩ := ⟨_, rfl⟩
      rw [← hR] at hmk
      have HR := Lib.hid hR
      clear hR hqn
      go_region_held3 (fun w' => w'.cell? ⟨g, 0, none⟩ = some (.string ca) ∧ w'.cell? ⟨g, 1, none⟩ = some (.string cb) ∧ w'.cell? ⟨g, 2, none⟩ = some (.int .i64 cu))
        (first
          | exact ⟨x0, x1, x2⟩
          | exact ⟨pw_cell_below HB3.out.2 x0, pw_cell_below HB3.out.2 x1, pw_cell_below HB3.out.2 x2⟩
          | go_keep)
        (first
          | (go_at_call 12; (with_reducible refine (Make_calls (some ad) c1 (L.take (q + 1)) ca cb cu _ (RdS.take (Kd.C_below HR1.out.1 (below_drew H2.out)) (q + 1) (Nat.succ_le_of_lt HQ.out)) (H1.out.2.2.2.1.sub (List.take_sublist _ _)) HZ0.out HZ1.out HCU.out (H1.out.2.1.below (below_drew H2.out) H1.out.2.1.lt)).mono ?_); rintro e w3 ⟨rfl, hb3⟩; rw [← HR.out]; have HB3 := Lib.hid (show Below w1.heap.size w1 w3 ∧ Below w2.heap.size w2 w3 from ⟨below_step (below_drew H2.out) hb3, below_step (below_drew (Below.refl _ _)) hb3⟩); clear hb3)
          | (fail))
      clear x0 x1 x2
      rcases hmk with ⟨e, _, (rfl | rfl | rfl), rfl⟩ | ⟨_, hcm, rfl⟩
      · go_wp2_with (go_at_call 11; (with_reducible refine (aw_calls _ (H1.out.2.1.below HB3.out.1 H1.out.2.1.lt)).mono ?_); rintro e w99 ⟨rfl, hb99⟩; have HB99 := Lib.hid (below_step (below_step H1.out.1 HB3.out.1) hb99); clear hb99)
        go_ret
        exact ⟨rfl, HB99.out⟩
      · go_wp2_with (go_at_call 11; (with_reducible refine (aw_calls _ (H1.out.2.1.below HB3.out.1 H1.out.2.1.lt)).mono ?_); rintro e w99 ⟨rfl, hb99⟩; have HB99 := Lib.hid (below_step (below_step H1.out.1 HB3.out.1) hb99); clear hb99)
        go_ret
        exact ⟨rfl, HB99.out⟩
      · go_wp2_with (go_at_call 11; (with_reducible refine (aw_calls _ (H1.out.2.1.below HB3.out.1 H1.out.2.1.lt)).mono ?_); rintro e w99 ⟨rfl, hb99⟩; have HB99 := Lib.hid (below_step (below_step H1.out.1 HB3.out.1) hb99); clear hb99)
        go_ret
        exact ⟨rfl, HB99.out⟩
      have hql : q < L.length := by have := H1.out.2.2.2.2.1; have := HQ.out; omega
      have hts := (tok_size (k := L.getD q Sec.none) hcm).1
      have hms : ∀ x f y g z h, RdSpec L now (tokS (L.getD q Sec.none) ⟨ca, cb, cu⟩) x f → RdSpec ((L.drop q).take 1) now (tokS (L.getD q Sec.none) ⟨ca, cb, cu⟩) y g → RdSpec (L.take q ++ L.drop (q + 1)) now (tokS (L.getD q Sec.none) ⟨ca, cb, cu⟩) z h → (x = y ∧ f = g) ∧ z = Clm.none ∧ h = 100 :=
        fun x f y g z h r1 r2 r3 => ⟨read_alone HCK.out hql hcm r1 r2, read_without HCK.out (by have := H1.out.2.2.2.2.1; have := HN2.out; omega) hql hcm r3⟩
      obtain ⟨rs, hrs⟩ : ∃ s, s = tokS (L.getD q Sec.none) ⟨ca, cb, cu⟩ := ⟨_, rfl⟩
      rw [← hrs] at hts hms ⊢
      have HTS := Lib.hid (And.intro hts (And.intro hms hql))
      clear hts hms hrs hcm hql
      go_wp2_with fail
      refine (AuthRead_calls (some ad) c1 L now rs _ (Kd.C_below HR1.out.1 HB3.out.1) H1.out.2.2.2.1 (by have := HTS.out.1; omega) (H1.out.2.1.below HB3.out.1 H1.out.2.1.lt)).mono ?_
      rintro e w4 ⟨x, f4, rfl, hsp4, hb4⟩
      obtain ⟨xa, xb, xu⟩ := x
      simp only
      obtain ⟨g4, hg4⟩ : ∃ g, g = w4.heap.size := ⟨_, rfl⟩
      obtain ⟨W4, hW4⟩ : ∃ W, W = w4.alloc (.cells #[.string xa, .string xb, .int .i64 xu] 24) := ⟨_, rfl⟩
      have hbb4 : Below w1.heap.size w1 W4 := by rw [hW4]; exact below_alloc (below_step HB3.out.1 hb4) _
      have hw4 : Whole W4 g4 24 #[.string xa, .string xb, .int .i64 xu] := by rw [hW4, hg4]; exact Whole.new w4 _ _
      have HS4 := Lib.hid (show g4 = w4.heap.size ∧ W4 = w4.alloc _ from ⟨hg4, hW4⟩)
      have H4 := Lib.hid (show Below w1.heap.size w1 W4 ∧ Whole W4 g4 24 #[.string xa, .string xb, .int .i64 xu] ∧ RdSpec L now rs ⟨xa, xb, xu⟩ f4 from ⟨hbb4, hw4, hsp4⟩)
      clear hb4 hg4 hW4 hbb4 hw4
      clear hsp4
      go_upto_region 9 with (fail)
      rw [← HS4.out.1, ← HS4.out.2]
      have hne : ¬ (c1 = q) := by have := HR1.out.2.1; have := HQ.out; omega
      have dd1 : q + 1 - q = 1 := by omega
      go_wp2_with fail
      have hr5 : RdS W4 (some (ad.add (q * 2))) 1 ((L.drop q).take 1) := RdS.at_one (Kd.C_below HR1.out.1 H4.out.1) HR1.out.2.1 q HQ.out
      refine (AuthRead_calls (some (ad.add (q * 2))) (c1 - q) ((L.drop q).take 1) now rs _ hr5 (H1.out.2.2.2.1.sub (one_sub L q HTS.out.2.2).1) (by have := HTS.out.1; omega) (H1.out.2.1.below H4.out.1 H1.out.2.1.lt)).mono ?_
      rintro e w5 ⟨y, f5, rfl, hsp5, hb5⟩
      obtain ⟨ya, yb, yu⟩ := y
      simp only
      clear hr5 hne dd1 j0 j1 j2 j3
      have hq5 := hb5
      obtain ⟨g5, hg5⟩ : ∃ g, g = w5.heap.size := ⟨_, rfl⟩
      obtain ⟨W5, hW5⟩ : ∃ W, W = w5.alloc (.cells #[.string ya, .string yb, .int .i64 yu] 24) := ⟨_, rfl⟩
      have hbb5 : Below w1.heap.size w1 W5 := by rw [hW5]; exact below_alloc (below_step H4.out.1 hb5) _
      have hw5 : Whole W5 g5 24 #[.string ya, .string yb, .int .i64 yu] := by rw [hW5, hg5]; exact Whole.new w5 _ _
      have HS5 := Lib.hid (show g5 = w5.heap.size ∧ W5 = w5.alloc _ from ⟨hg5, hW5⟩)
      have H5 := Lib.hid (show Below w1.heap.size w1 W5 ∧ Whole W5 g5 24 #[.string ya, .string yb, .int .i64 yu] ∧ RdSpec ((L.drop q).take 1) now rs ⟨ya, yb, yu⟩ f5 ∧ Below W4.heap.size W4 W5 from ⟨hbb5, hw5, ⟨hsp5, by rw [hW5]; exact below_alloc hq5 _⟩⟩)
      clear hb5 hg5 hW5 hbb5 hw5
      clear hsp5 hq5
      go_upto_region 10 with (fail)
      rw [← HS5.out.1, ← HS5.out.2]
      obtain ⟨rows, hrw, htl⟩ := RdS.raw (Kd.C_below HR1.out.1 H5.out.1)
      have HRW := Lib.hid (And.intro hrw htl)
      have hrl := Kd.C_len hrw
      clear hrw htl
      go_wp2_with fail
      refine (CloneS_calls ad c1 rows _ HRW.out.1 (by have := HR1.out.2.2; omega)).mono ?_
      rintro e w6 ⟨v6, rfl, ho6, hb6⟩
      obtain ⟨g6, c6, rfl, hg6⟩ := Kd.R_form ho6 (by rw [hrl]; have := HN2.out; omega)
      rw [hrl] at ho6 ⊢
      have H6 := Lib.hid (show Kd.R rawK 42 w6 W5.heap.size (fun _ => True) (.slice (some ⟨g6, 0, none⟩) n c6) rows ∧ Below W5.heap.size W5 w6 from ⟨ho6, hb6⟩)
      clear ho6 hb6 hg6 hrl
      go_wp2_with fail
      refine (DeleteS_calls (n := n) (k := q) g6 c6 W5.heap.size rows _ H6.out.1 H6.out.2.size HQ.out (by have := HR1.out.2.2; omega)).mono ?_
      rintro e w7 ⟨rfl, hc7, hb7⟩
      obtain ⟨n1, hn1⟩ : ∃ m, m = n - 1 := ⟨_, rfl⟩
      rw [← hn1] at hc7 ⊢
      have hb57 := H6.out.2.trans hb7
      have hr7 : RdS w7 (some ⟨g6, 0, none⟩) n1 (L.take q ++ L.drop (q + 1)) := by
        rw [← List.eraseIdx_eq_take_drop_succ]
        exact RdS.of_raw hc7 ((HRW.out.2.below hb57).erase q)
      have H7 := Lib.hid (show RdS w7 (some ⟨g6, 0, none⟩) n1 (L.take q ++ L.drop (q + 1)) ∧ Below W5.heap.size W5 w7 ∧ Below w1.heap.size w1 w7 from ⟨hr7, hb57, below_step H5.out.1 hb57⟩)
      clear hc7 hb7 hn1 hb57 hr7
      go_wp2_with fail
      refine (AuthRead_calls (some ⟨g6, 0, none⟩) c6 (L.take q ++ L.drop (q + 1)) now rs _ H7.out.1 (H1.out.2.2.2.1.sub (erase_sub L q)) (by have := HTS.out.1; omega) (H1.out.2.1.below H7.out.2.2 H1.out.2.1.lt)).mono ?_
      rintro e w8 ⟨z, f8, rfl, hsp8, hb8⟩
      obtain ⟨⟨hxy, hff⟩, rfl, rfl⟩ := HTS.out.2.1 _ _ _ _ _ _ H4.out.2.2 H5.out.2.2.1 hsp8
      rw [show Clm.none.client = ⟨#[]⟩ from rfl, show Clm.none.group = ⟨#[]⟩ from rfl, show Clm.none.upto = 0 from rfl]
      injection hxy with ha hb hu
      subst ha hb hu hff
      have hq8 := below_step H7.out.2.1 hb8
      obtain ⟨g8, hg8⟩ : ∃ g, g = w8.heap.size := ⟨_, rfl⟩
      obtain ⟨W8, hW8⟩ : ∃ W, W = w8.alloc (.cells #[.string ⟨#[]⟩, .string ⟨#[]⟩, .int .i64 0] 24) := ⟨_, rfl⟩
      have hbb8 : Below w1.heap.size w1 W8 := by rw [hW8]; exact below_alloc (below_step H7.out.2.2 hb8) _
      have hw8 : Whole W8 g8 24 #[.string ⟨#[]⟩, .string ⟨#[]⟩, .int .i64 0] := by rw [hW8, hg8]; exact Whole.new w8 _ _
      have HS8 := Lib.hid (show g8 = w8.heap.size ∧ W8 = w8.alloc _ from ⟨hg8, hW8⟩)
      have H8 := Lib.hid (show Below w1.heap.size w1 W8 ∧ Whole W8 g8 24 #[.string ⟨#[]⟩, .string ⟨#[]⟩, .int .i64 0] ∧ Below W5.heap.size W5 W8 from ⟨hbb8, hw8, by rw [hW8]; exact below_alloc hq8 _⟩)
      clear hb8 hg8 hW8 hbb8 hw8
      clear hsp8 hq8
      have hwA := H4.out.2.1.below (below_step H5.out.2.2.2 H8.out.2.2) H4.out.2.1.lt
      have hwB := H5.out.2.1.below H8.out.2.2 H5.out.2.1.lt
      have x0 := hwA.cell 0 _ rfl
      have x1 := hwA.cell 1 _ rfl
      have x2 := hwA.cell 2 _ rfl
      have y0 := hwB.cell 0 _ rfl
      have y1 := hwB.cell 1 _ rfl
      have y2 := hwB.cell 2 _ rfl
      have z0 := H8.out.2.1.cell 0 _ rfl
      have z1 := H8.out.2.1.cell 1 _ rfl
      have z2 := H8.out.2.1.cell 2 _ rfl
      clear hwA hwB
      go_upto_region 11 with (fail)
      rw [← HS8.out.1, ← HS8.out.2]
      go_wp2_with (go_at_call 11; (with_reducible refine (aw_calls _ (H1.out.2.1.below H8.out.1 H1.out.2.1.lt)).mono ?_); rintro e w99 ⟨rfl, hb99⟩; have HB99 := Lib.hid (below_step (below_step H1.out.1 H8.out.1) hb99); clear hb99)
      go_ret
      exact ⟨rfl, HB99.out⟩
end Go.Proofs.YtcgenmogedndjaaDoor
