/- The walk of a law: AuthtokOneWalk. -/
import Derived.Test.YtcgenmogedndjaaDoorG18
import Derived.Test.YtcgenmogedndjaaDoorG27
import Derived.Test.YtcgenmogedndjaaDoorG30
namespace Go.Proofs.YtcgenmogedndjaaDoor
open Go.RowKit Go.Proofs.YtcgenmogedndjaaDoorW.PrintWords
set_option maxRecDepth 20000 in
set_option maxHeartbeats 6400000 in
theorem AuthtokOne_walk (A : Option Addr) (n c : Nat) (L : List Sec) (now : Int) (s : ByteArray) (ix : Int) (ch : Int) (w : World) (hG : Laid w) (hr0 : RdS w A n L) (_hc0 : n ≤ c) (hok : SecOk L) (_hwnow : (Lit.int .i64 now).wf = true) (_hs : s.size ≤ 140737488351232) (_hwix : (Lit.int .i64 ix).wf = true) (_hwch : (Lit.int .u8 ch).wf = true) :
    Calls Tryd.prog 4 #[.slice A n c, .int .i64 now, .string s, .int .i64 ix, .int .u8 ch] w fun e w' => e = .returned (.bool true) ∧ Below w.heap.size w w' := by
  have HI := Lib.hid (show RdS w A n L ∧ SecOk L ∧ Laid w ∧ Below w.heap.size w w ∧ L.length = n from ⟨hr0, hok, hG, Below.refl _ _, Kd.C_len hr0⟩)
  clear hr0 hok hG
  have kb := fun W => print_bytes (P := Tryd.prog) 9 34 5 Tryd.underlying9 Tryd.underlying34 Tryd.underlying5 s W
  have HY := Lib.hid (show Bytes (bytesOf s) ∧ (bytesOf s).length = s.size from ⟨Bytes_bytesOf s, bytesOf_length s⟩)
  have HCH := Lib.hid (show 0 ≤ ch ∧ ch < 256 by
    have h := _hwch
    simp [Lit.wf, IntKind.min, IntKind.max, IntKind.signed, IntKind.bits] at h
    omega)
  clear _hs _hwnow _hwix _hwch
  go_enter Tryd.func4, Tryd.ntmps4
  go_wp2_with fail
  refine (secrets_calls A c L w HI.out.1 HI.out.2.1).mono ?_
  rintro e w1 ⟨v1, b1, rfl, hb1, ho1⟩
  have H1 := Lib.hid (show Below w.heap.size w w1 ∧ Laid w1 ∧ RdS w1 A n L ∧ SecOk L ∧ L.length = n from ⟨below_step HI.out.2.2.2.1 hb1, HI.out.2.2.1.below hb1 HI.out.2.2.1.lt, Kd.C_below HI.out.1 hb1, HI.out.2.1, HI.out.2.2.2.2⟩)
  have HO := Lib.hid ho1
  clear ho1 hb1
  cases b1 with
  | false =>
    clear HO
    go_wp2_with (go_at_call 11; (with_reducible refine (aw_calls _ H1.out.2.1).mono ?_); rintro e w99 ⟨rfl, hb99⟩; have HB99 := Lib.hid (below_step H1.out.1 hb99); clear hb99)
    go_ret
    exact ⟨rfl, HB99.out⟩
  | true =>
    by_cases hz0 : 65536 < s.size
    case' pos =>
      have dz0 : decide (65536 < (s.size : Int)) = true := decide_eq_true (by omega)
      have dz0' : decide (65536 < s.size) = true := decide_eq_true hz0
      clear hz0
      have HO2 := HO
      clear HO
      go_wp2_with (go_at_call 11; (with_reducible refine (aw_calls _ H1.out.2.1).mono ?_); rintro e w99 ⟨rfl, hb99⟩; have HB99 := Lib.hid (below_step H1.out.1 hb99); clear hb99)
      go_ret
      exact ⟨rfl, HB99.out⟩
    have dz0 : decide (65536 < (s.size : Int)) = false := decide_eq_false (by omega)
    have dz0' : decide (65536 < s.size) = false := decide_eq_false hz0
    have HZ0 := Lib.hid (show s.size ≤ 65536 by omega)
    clear hz0
    obtain ⟨A1, c1, rfl, hc1, hr1⟩ := (HO.out rfl).1.reads
    have hn1 := H1.out.2.2.2.2
    rw [hn1] at hr1 hc1 ⊢
    have HR1 := Lib.hid (show RdS w1 A1 n L ∧ n ≤ c1 ∧ n ≤ 21 from ⟨hr1, hc1, hn1 ▸ (HO.out rfl).2⟩)
    clear hr1 hc1 hn1
    go_wp2_with fail
    refine (AuthRead_calls A1 c1 L now s _ HR1.out.1 H1.out.2.2.2.1 (by have := HZ0.out; omega) H1.out.2.1).mono ?_
    rintro e w2 ⟨x, f2, rfl, hsp2, hb2⟩
    have hwh := read_whose hsp2
    clear hsp2
    rcases hwh with ⟨_, hf, rfl⟩ | ⟨rfl, hcx, i2, hi2, hm2⟩
    · rw [show Clm.none.client = ⟨#[]⟩ from rfl, show Clm.none.group = ⟨#[]⟩ from rfl, show Clm.none.upto = 0 from rfl]
      obtain ⟨g2, hg2⟩ : ∃ g, g = w2.heap.size := ⟨_, rfl⟩
      obtain ⟨W2, hW2⟩ : ∃ W, W = w2.alloc (.cells #[.string ⟨#[]⟩, .string ⟨#[]⟩, .int .i64 0] 24) := ⟨_, rfl⟩
      have hbb2 : Below w1.heap.size w1 W2 := by rw [hW2]; exact below_alloc (below_step (Below.refl _ _) hb2) _
      have hw2 : Whole W2 g2 24 #[.string ⟨#[]⟩, .string ⟨#[]⟩, .int .i64 0] := by rw [hW2, hg2]; exact Whole.new w2 _ _
      have HS2 := Lib.hid (show g2 = w2.heap.size ∧ W2 = w2.alloc _ from ⟨hg2, hW2⟩)
      have H2 := Lib.hid (show Below w1.heap.size w1 W2 ∧ Whole W2 g2 24 #[.string ⟨#[]⟩, .string ⟨#[]⟩, .int .i64 0] from ⟨hbb2, hw2⟩)
      clear hb2 hg2 hW2 hbb2 hw2
      have x0 := H2.out.2.cell 0 _ rfl
      have x1 := H2.out.2.cell 1 _ rfl
      have x2 := H2.out.2.cell 2 _ rfl
      go_upto_region 5 with (fail)
      rw [← HS2.out.1, ← HS2.out.2]
      rcases hf with (rfl | rfl | rfl)
      · go_wp2_with (go_at_call 11; (with_reducible refine (aw_calls _ (H1.out.2.1.below H2.out.1 H1.out.2.1.lt)).mono ?_); rintro e w99 ⟨rfl, hb99⟩; have HB99 := Lib.hid (below_step (below_step H1.out.1 H2.out.1) hb99); clear hb99)
        go_ret
        exact ⟨rfl, HB99.out⟩
      · go_wp2_with (go_at_call 11; (with_reducible refine (aw_calls _ (H1.out.2.1.below H2.out.1 H1.out.2.1.lt)).mono ?_); rintro e w99 ⟨rfl, hb99⟩; have HB99 := Lib.hid (below_step (below_step H1.out.1 H2.out.1) hb99); clear hb99)
        go_ret
        exact ⟨rfl, HB99.out⟩
      · go_wp2_with (go_at_call 11; (with_reducible refine (aw_calls _ (H1.out.2.1.below H2.out.1 H1.out.2.1.lt)).mono ?_); rintro e w99 ⟨rfl, hb99⟩; have HB99 := Lib.hid (below_step (below_step H1.out.1 H2.out.1) hb99); clear hb99)
        go_ret
        exact ⟨rfl, HB99.out⟩
    · obtain ⟨xa, xb, xu⟩ := x
      simp only
      have hsz := tok_size (k := newest (L.take (i2 + 1))) hcx
      have hxx : s = tokS (newest (L.take (i2 + 1))) ⟨xa, xb, xu⟩ := by
        rcases makeR_cases (L.take (i2 + 1)) ⟨xa, xb, xu⟩ with ⟨e, he, _, h⟩ | ⟨_, _, h⟩
        · rw [hm2] at h; exact absurd (congrArg Prod.snd h).symm he
        · rw [hm2] at h; exact congrArg Prod.fst h
      rw [← hxx] at hsz
      have HX := Lib.hid (show 1 ≤ s.size ∧ ClmOk ⟨xa, xb, xu⟩ ∧ i2 < n ∧ makeR (L.take (i2 + 1)) ⟨xa, xb, xu⟩ = (s, 0) from ⟨hsz.2, hcx, by have := H1.out.2.2.2.2; omega, hm2⟩)
      clear hsz hxx hcx hi2 hm2
      obtain ⟨g2, hg2⟩ : ∃ g, g = w2.heap.size := ⟨_, rfl⟩
      obtain ⟨W2, hW2⟩ : ∃ W, W = w2.alloc (.cells #[.string xa, .string xb, .int .i64 xu] 24) := ⟨_, rfl⟩
      have hbb2 : Below w1.heap.size w1 W2 := by rw [hW2]; exact below_alloc (below_step (Below.refl _ _) hb2) _
      have hw2 : Whole W2 g2 24 #[.string xa, .string xb, .int .i64 xu] := by rw [hW2, hg2]; exact Whole.new w2 _ _
      have HS2 := Lib.hid (show g2 = w2.heap.size ∧ W2 = w2.alloc _ from ⟨hg2, hW2⟩)
      have H2 := Lib.hid (show Below w1.heap.size w1 W2 ∧ Whole W2 g2 24 #[.string xa, .string xb, .int .i64 xu] from ⟨hbb2, hw2⟩)
      clear hb2 hg2 hW2 hbb2 hw2
      have x0 := H2.out.2.cell 0 _ rfl
      have x1 := H2.out.2.cell 1 _ rfl
      have x2 := H2.out.2.cell 2 _ rfl
      go_upto_region 5 with (fail)
      rw [← HS2.out.1, ← HS2.out.2]
      go_upto_region 8 with (fail)
      have hb0 : Below W2.heap.size W2 (Lib.bytesWorld W2 5 s) := bytes_below (Below.refl _ _) (Nat.le_refl _) _ _
      have hw0 := Bw.of_bytes W2 s
      obtain ⟨c4, hc4⟩ : ∃ c4, c4 = grownCap W2 s.size 0 5 := ⟨_, rfl⟩
      rw [← hc4]
      obtain ⟨w4, he4⟩ : ∃ w4, w4 = Lib.bytesWorld W2 5 s := ⟨_, rfl⟩
      rw [← he4] at hw0 hb0 ⊢
      obtain ⟨g4, hg4⟩ : ∃ g, g = W2.heap.size := ⟨_, rfl⟩
      rw [← hg4] at hw0 ⊢
      have hlt4 : g4 < w4.heap.size := hw0.lt (by have := HX.out.1; have := HY.out.2; omega)
      have H4 := Lib.hid (show Below w1.heap.size w1 w4 ∧ Bw w4 g4 (bytesOf s) ∧ w1.heap.size ≤ g4 ∧ g4 ≠ g2 ∧ Whole w4 g2 24 #[.string xa, .string xb, .int .i64 xu] ∧ g4 < w4.heap.size from ⟨below_step H2.out.1 hb0, hw0, by rw [hg4]; exact H2.out.1.size, by have := H2.out.2.lt; omega, H2.out.2.below hb0 H2.out.2.lt, hlt4⟩)
      have y0 := pw_cell_below hb0 x0
      have y1 := pw_cell_below hb0 x1
      have y2 := pw_cell_below hb0 x2
      clear hc4 he4 hg4 hb0 hw0 x0 x1 x2
      have hz0 : (s.size : Int) ≠ 0 := by have := HX.out.1; omega
      have dz0 : ((s.size : Int) == 0) = false := beq_eq_false_iff_ne.2 hz0
      have dz0' : (s.size == 0) = false := beq_eq_false_iff_ne.2 (by have := HX.out.1; omega)
      clear hz0
      have hcs : xa.size ≤ 65536 ∧ xb.size ≤ 65536 ∧ -9223372036854775808 ≤ xu ∧ xu ≤ 9223372036854775807 := by
        obtain ⟨h1, h2, h3, h4⟩ := HX.out.2.1
        have k1 := nameB_size h1
        have k2 := nameB_size h2
        simp only at h3 h4 k1 k2
        omega
      have HCS := Lib.hid hcs
      clear hcs
      go_wp2_with fail
      refine (madeOf_calls A1 c1 L xa xb xu s _ (Kd.C_below HR1.out.1 H4.out.1) HR1.out.2.1 H1.out.2.2.2.1 HCS.out.1 HCS.out.2.1 HCS.out.2.2 (H1.out.2.1.below H4.out.1 H1.out.2.1.lt) i2 HX.out.2.2.1 HX.out.2.2.2).mono ?_
      rintro e w5 ⟨rfl, hb5⟩
      have H5 := Lib.hid (show Below w1.heap.size w1 w5 ∧ Bw w5 g4 (bytesOf s) from ⟨below_step H4.out.1 hb5, H4.out.2.1.below hb5 H4.out.2.2.2.2.2⟩)
      clear hb5 y0 y1 y2
      obtain ⟨u, hu⟩ : ∃ u : Nat, IntKind.u64.wrap ix = (u : Int) := ⟨(IntKind.u64.wrap ix).toNat, by rw [IntKind.wrap_u64]; omega⟩
      have hu2 : u < 18446744073709551616 := by have h : 0 ≤ IntKind.u64.wrap ix ∧ IntKind.u64.wrap ix < 18446744073709551616 := by rw [IntKind.wrap_u64]; omega
                                                omega
      obtain ⟨m, hm⟩ : ∃ m, m = s.size := ⟨_, rfl⟩
      obtain ⟨q, hq⟩ : ∃ q, q = u % m := ⟨_, rfl⟩
      have hqm : q < m := by rw [hq]; exact Nat.mod_lt _ (by have := HX.out.1; omega)
      have hm2 : m ≤ 65536 := by have := HZ0.out; omega
      rw [← hm]
      rw [← hm] at dz0 dz0'
      have wm : IntKind.u64.wrap (m : Int) = m := by rw [IntKind.wrap_u64]; omega
      have wu : IntKind.u64.wrap (u : Int) = u := by rw [IntKind.wrap_u64]; omega
      have wq : IntKind.u64.wrap (q : Int) = q := by rw [IntKind.wrap_u64]; omega
      have wqi : IntKind.i64.wrap (q : Int) = q := wrap_id (by omega) (by omega)
      have e1 : ((u : Int).tmod (m : Int)) = (q : Int) := by rw [hq]; exact (Int.ofNat_tmod u m).symm
      have q0 : (0 : Int) ≤ q := by omega
      have q1 : (q : Int) < m := by omega
      have HQ := Lib.hid (show q < m ∧ m = s.size from ⟨hqm, hm⟩)
      have hcl : w5.cell? ⟨g4, q, none⟩ = some (.int .u8 (rd (bytesOf s) (q : Nat))) ∧ w5.frozen? ⟨g4, q, none⟩ = false := H5.out.2 q (by have := HY.out.2; omega)
      obtain ⟨k1, k2⟩ := hcl
      clear hq hqm hu2 hm hm2
      have hset := H5.out.2.set q (by have := HY.out.2; have := HQ.out; omega) ch
      go_upto_region 11 with (fail)
      obtain ⟨W6, hW6⟩ : ∃ W, W = w5.setCell ⟨g4, q, none⟩ (.int .u8 ch) := ⟨_, rfl⟩
      rw [← hW6] at hset ⊢
      have hb6 : Below w1.heap.size w1 W6 := by rw [hW6]; exact H5.out.1.setCell H4.out.2.2.1 _
      obtain ⟨S6, hS6⟩ : ∃ S, S = (bytesOf s).set q ch := ⟨_, rfl⟩
      rw [← hS6] at hset
      have hl6 : S6.length = m := by rw [hS6, List.length_set, HY.out.2, HQ.out.2]
      have hy6 : Bytes S6 := by
        rw [hS6]
        intro z hz
        rcases List.mem_or_eq_of_mem_set hz with h | h
        · exact HY.out.1 z h
        · rw [h]; exact HCH.out
      have hr6 : Rd W6 (some ⟨g4, 0, none⟩) m S6 := by
        have h := hset.reads (by rw [hl6]; have := HZ0.out; have := HQ.out; omega)
        rw [hl6] at h
        exact h
      obtain ⟨s6, hs6⟩ : ∃ t, t = strOfNums S6 := ⟨_, rfl⟩
      have hz6 : s6.size ≤ 65536 := by rw [hs6, strOf_size, hl6]; have := HZ0.out; have := HQ.out; omega
      have k6 := Kd.C_string (P := Tryd.prog) (src := 34) (dst := 9) (e := 5) Tryd.underlying34 Tryd.underlying5 Tryd.underlying9 (c := c4) hr6
      rw [show strOfNums S6 = s6 from hs6.symm] at k6
      have H6 := Lib.hid (show Below w1.heap.size w1 W6 ∧ s6.size ≤ 65536 ∧ Rd W6 (some ⟨g4, 0, none⟩) m S6 ∧ strOfNums S6 = s6 ∧ g4 < W6.heap.size from ⟨hb6, hz6, hr6, hs6.symm, hset.lt (by rw [hl6]; have := HQ.out; omega)⟩)
      clear hW6 hset hb6 hS6 hl6 hy6 hr6 hs6 hz6 k1 k2 e1 q0 q1 wqi wq wu wm hu
      go_wp2_with fail
      refine (AuthRead_calls A1 c1 L now s6 _ (Kd.C_below HR1.out.1 H6.out.1) H1.out.2.2.2.1 (by have := H6.out.2.1; omega) (H1.out.2.1.below H6.out.1 H1.out.2.1.lt)).mono ?_
      rintro e w7 ⟨y, f7, rfl, hsp7, hb7⟩
      have hwh := read_whose hsp7
      clear hsp7 k6
      have hq7 := hb7
      rcases hwh with ⟨_, hf, rfl⟩ | ⟨rfl, hcx, i7, hi7, hm7⟩
      · rw [show Clm.none.client = ⟨#[]⟩ from rfl, show Clm.none.group = ⟨#[]⟩ from rfl, show Clm.none.upto = 0 from rfl]
        obtain ⟨g7, hg7⟩ : ∃ g, g = w7.heap.size := ⟨_, rfl⟩
        obtain ⟨W7, hW7⟩ : ∃ W, W = w7.alloc (.cells #[.string ⟨#[]⟩, .string ⟨#[]⟩, .int .i64 0] 24) := ⟨_, rfl⟩
        have hbb7 : Below w1.heap.size w1 W7 := by rw [hW7]; exact below_alloc (below_step H6.out.1 hb7) _
        have hw7 : Whole W7 g7 24 #[.string ⟨#[]⟩, .string ⟨#[]⟩, .int .i64 0] := by rw [hW7, hg7]; exact Whole.new w7 _ _
        have HS7 := Lib.hid (show g7 = w7.heap.size ∧ W7 = w7.alloc _ from ⟨hg7, hW7⟩)
        have H7 := Lib.hid (show Below w1.heap.size w1 W7 ∧ Whole W7 g7 24 #[.string ⟨#[]⟩, .string ⟨#[]⟩, .int .i64 0] from ⟨hbb7, hw7⟩)
        clear hb7 hg7 hW7 hbb7 hw7
        clear hq7
        go_upto_region 12 with (fail)
        rw [← HS7.out.1, ← HS7.out.2]
        rcases hf with (rfl | rfl | rfl)
        · go_wp2_with (go_at_call 11; (with_reducible refine (aw_calls _ (H1.out.2.1.below H7.out.1 H1.out.2.1.lt)).mono ?_); rintro e w99 ⟨rfl, hb99⟩; have HB99 := Lib.hid (below_step (below_step H1.out.1 H7.out.1) hb99); clear hb99)
          go_ret
          exact ⟨rfl, HB99.out⟩
        · go_wp2_with (go_at_call 11; (with_reducible refine (aw_calls _ (H1.out.2.1.below H7.out.1 H1.out.2.1.lt)).mono ?_); rintro e w99 ⟨rfl, hb99⟩; have HB99 := Lib.hid (below_step (below_step H1.out.1 H7.out.1) hb99); clear hb99)
          go_ret
          exact ⟨rfl, HB99.out⟩
        · go_wp2_with (go_at_call 11; (with_reducible refine (aw_calls _ (H1.out.2.1.below H7.out.1 H1.out.2.1.lt)).mono ?_); rintro e w99 ⟨rfl, hb99⟩; have HB99 := Lib.hid (below_step (below_step H1.out.1 H7.out.1) hb99); clear hb99)
          go_ret
          exact ⟨rfl, HB99.out⟩
      · obtain ⟨ya, yb, yu⟩ := y
        simp only
        obtain ⟨g7, hg7⟩ : ∃ g, g = w7.heap.size := ⟨_, rfl⟩
        obtain ⟨W7, hW7⟩ : ∃ W, W = w7.alloc (.cells #[.string ya, .string yb, .int .i64 yu] 24) := ⟨_, rfl⟩
        have hbb7 : Below w1.heap.size w1 W7 := by rw [hW7]; exact below_alloc (below_step H6.out.1 hb7) _
        have hw7 : Whole W7 g7 24 #[.string ya, .string yb, .int .i64 yu] := by rw [hW7, hg7]; exact Whole.new w7 _ _
        have HS7 := Lib.hid (show g7 = w7.heap.size ∧ W7 = w7.alloc _ from ⟨hg7, hW7⟩)
        have H7 := Lib.hid (show Below w1.heap.size w1 W7 ∧ Whole W7 g7 24 #[.string ya, .string yb, .int .i64 yu] ∧ Below W6.heap.size W6 W7 from ⟨hbb7, hw7, by rw [hW7]; exact below_alloc hq7 _⟩)
        clear hb7 hg7 hW7 hbb7 hw7
        clear hq7
        have hcs : ya.size ≤ 65536 ∧ yb.size ≤ 65536 ∧ -9223372036854775808 ≤ yu ∧ yu ≤ 9223372036854775807 := by
          obtain ⟨h1, h2, h3, h4⟩ := hcx
          have k1 := nameB_size h1
          have k2 := nameB_size h2
          simp only at h3 h4 k1 k2
          omega
        have HCY := Lib.hid (And.intro hcs (show i7 < n ∧ makeR (L.take (i7 + 1)) ⟨ya, yb, yu⟩ = (s6, 0) from ⟨by have := H1.out.2.2.2.2; omega, hm7⟩))
        clear hcs hcx hi7 hm7
        have hr7 := Kd.C_below H6.out.2.2.1 H7.out.2.2
        have k7 := Kd.C_string (P := Tryd.prog) (src := 34) (dst := 9) (e := 5) Tryd.underlying34 Tryd.underlying5 Tryd.underlying9 (c := c4) hr7
        rw [H6.out.2.2.2.1] at k7
        have z0 := H7.out.2.1.cell 0 _ rfl
        have z1 := H7.out.2.1.cell 1 _ rfl
        have z2 := H7.out.2.1.cell 2 _ rfl
        clear hr7
        go_upto_region 12 with (fail)
        rw [← HS7.out.1, ← HS7.out.2]
        go_wp2_with fail
        refine (madeOf_calls A1 c1 L ya yb yu s6 _ (Kd.C_below HR1.out.1 H7.out.1) HR1.out.2.1 H1.out.2.2.2.1 HCY.out.1.1 HCY.out.1.2.1 HCY.out.1.2.2 (H1.out.2.1.below H7.out.1 H1.out.2.1.lt) i7 HCY.out.2.1 HCY.out.2.2).mono ?_
        rintro e w8 ⟨rfl, hb8⟩
        have H8 := Lib.hid (below_step H7.out.1 hb8)
        clear hb8
        go_wp2_with (go_at_call 11; (with_reducible refine (aw_calls _ (H1.out.2.1.below H8.out H1.out.2.1.lt)).mono ?_); rintro e w99 ⟨rfl, hb99⟩; have HB99 := Lib.hid (below_step (below_step H1.out.1 H8.out) hb99); clear hb99)
        go_ret
        exact ⟨rfl, HB99.out⟩
end Go.Proofs.YtcgenmogedndjaaDoor
