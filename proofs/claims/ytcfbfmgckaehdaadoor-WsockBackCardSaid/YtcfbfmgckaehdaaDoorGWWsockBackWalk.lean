/- The walk of a law: WsockBackWalk. -/
import Derived.Test.YtcfbfmgckaehdaaDoorG01
import Derived.Test.YtcfbfmgckaehdaaDoorG02
import Derived.Test.YtcfbfmgckaehdaaDoorG13
namespace Go.Proofs.YtcfbfmgckaehdaaDoor
open Go.RowKit Go.Proofs.YtcfbfmgckaehdaaDoorW.PrintWords
/-- What stands through all of the walk: the frame, its load, the mask, what stands behind. -/
def BackAt (w W : World) (gf : Nat) (fin : Bool) (op : Int) (A : Option Addr) (c : Nat) (l : List Int) (A1 : Option Addr) (m : Nat) (mk : List Int) (A2 : Option Addr) (nb : Nat) (bh : List Int) : Prop :=
  Below w.heap.size w W ∧ Whole W gf 26 #[.bool fin, .int .i64 op, .slice A l.length c] ∧ Rd W A l.length l ∧ Rd W A1 m mk ∧ Rd W A2 nb bh
theorem BackAt.below {w W W' : World} {gf : Nat} {fin : Bool} {op : Int} {A : Option Addr} {c : Nat} {l : List Int} {A1 : Option Addr} {m : Nat} {mk : List Int} {A2 : Option Addr} {nb : Nat} {bh : List Int} (h : BackAt w W gf fin op A c l A1 m mk A2 nb bh) (hb : Below W.heap.size W W') : BackAt w W' gf fin op A c l A1 m mk A2 nb bh :=
  ⟨below_step h.1 hb, h.2.1.below hb h.2.1.lt, Kd.C_below h.2.2.1 hb, Kd.C_below h.2.2.2.1 hb, Kd.C_below h.2.2.2.2 hb⟩
theorem rdF_otherL {f : Frm} {m : List Int} (h : wrE f m.length = 0) : rdF (wrL f m) (!decide (m.length = 4)) = (zeroF, 0, 1002) := by rw [wrL_eq]; exact rdF_other h _
set_option maxRecDepth 20000 in
set_option maxHeartbeats 6400000 in
theorem WsockBack_walk (fin : Bool) (op : Int) (A : Option Addr) (c : Nat) (l : List Int) (A1 : Option Addr) (c1 : Nat) (mk : List Int) (A2 : Option Addr) (c2 : Nat) (bh : List Int) (k : Int) (w : World) (hr : Rd w A l.length l) (hc : l.length ≤ c) (hb : Bytes l) (_hop : -9223372036854775808 ≤ op ∧ op ≤ 9223372036854775807)
    (hr1 : Rd w A1 mk.length mk) (hc1 : mk.length ≤ c1) (_hs1 : mk.length ≤ 140737488351232) (hb1 : Bytes mk) (hr2 : Rd w A2 bh.length bh) (_hc2 : bh.length ≤ c2) (_hs2 : bh.length ≤ 140737488351232) (hb2 : Bytes bh) (_hk : (Lit.int .i64 k).wf = true) :
    Calls Tryd.prog 5 #[.agg #[.bool fin, .int .i64 op, .slice A l.length c], .slice A1 mk.length c1, .slice A2 bh.length c2, .int .i64 k] w fun e w' => e = .returned (.bool true) ∧ Below w.heap.size w w' := by
  obtain ⟨m, hm⟩ : ∃ m, m = mk.length := ⟨_, rfl⟩
  obtain ⟨nb, hnb⟩ : ∃ n, n = bh.length := ⟨_, rfl⟩
  rw [← hm] at hr1 hc1 ⊢
  rw [← hnb] at hr2 ⊢
  obtain ⟨gf, hgf⟩ : ∃ g, g = w.heap.size := ⟨_, rfl⟩
  obtain ⟨W0, hW0⟩ : ∃ W0, W0 = w.alloc (.cells #[.bool fin, .int .i64 op, .slice A l.length c] 26) := ⟨_, rfl⟩
  have hb0 : Below w.heap.size w W0 := by rw [hW0]; exact below_alloc (Below.refl _ _) _
  have hk0 : Whole W0 gf 26 #[.bool fin, .int .i64 op, .slice A l.length c] := by rw [hW0, hgf]; exact Whole.new w _ _
  have HS := Lib.hid (show gf = w.heap.size ∧ W0 = w.alloc _ from ⟨hgf, hW0⟩)
  have HM := Lib.hid (show BackAt w W0 gf fin op A c l A1 m mk A2 nb bh from ⟨hb0, hk0, Kd.C_below hr hb0, Kd.C_below hr1 hb0, Kd.C_below hr2 hb0⟩)
  have HI := Lib.hid (show Bytes l ∧ l.length ≤ c ∧ Bytes mk ∧ m ≤ c1 ∧ mk.length = m ∧ Bytes bh ∧ bh.length = nb from ⟨hb, hc, hb1, hc1, hm.symm, hb2, hnb.symm⟩)
  clear hb0 hk0 hgf hW0 hr hc hb hr1 hc1 hb1 hr2 hb2 hm hnb
  have x0 := HM.out.2.1.cell 0 _ rfl
  have x1 := HM.out.2.1.cell 1 _ rfl
  have x2 := HM.out.2.1.cell 2 _ rfl
  by_cases hbig : 262144 < l.length ∨ 262144 < nb
  · by_cases hl : 262144 < l.length
    · have d1 : decide (262144 < (l.length : Int)) = true := decide_eq_true (by omega)
      have d1' : decide (262144 < l.length) = true := decide_eq_true hl
      clear hbig hl
      go_enter Tryd.func5, Tryd.ntmps5
      go_upto_region 1 with (fail)
      rw [← HS.out.1, ← HS.out.2]
      go_wp2_with fail
      refine (wsAwake_calls _).mono ?_
      rintro e w1 ⟨rfl, hb1⟩
      have HB := Lib.hid (below_step HM.out.1 hb1)
      clear hb1
      go_wp2
      go_ret
      exact ⟨rfl, HB.out⟩
    · have d1 : decide (262144 < (l.length : Int)) = false := decide_eq_false (by omega)
      have d1' : decide (262144 < l.length) = false := decide_eq_false hl
      have d2 : decide (262144 < (nb : Int)) = true := decide_eq_true (by omega)
      have d2' : decide (262144 < nb) = true := decide_eq_true (by omega)
      clear hbig hl
      go_enter Tryd.func5, Tryd.ntmps5
      go_upto_region 1 with (fail)
      rw [← HS.out.1, ← HS.out.2]
      go_wp2_with fail
      refine (wsAwake_calls _).mono ?_
      rintro e w1 ⟨rfl, hb1⟩
      have HB := Lib.hid (below_step HM.out.1 hb1)
      clear hb1
      go_wp2
      go_ret
      exact ⟨rfl, HB.out⟩
  · have d1 : decide (262144 < (l.length : Int)) = false := decide_eq_false (by omega)
    have d1' : decide (262144 < l.length) = false := decide_eq_false (by omega)
    have d2 : decide (262144 < (nb : Int)) = false := decide_eq_false (by omega)
    have d2' : decide (262144 < nb) = false := decide_eq_false (by omega)
    have HL := Lib.hid (show l.length ≤ 262144 ∧ nb ≤ 262144 from ⟨by omega, by omega⟩)
    clear hbig
    obtain ⟨E, hE⟩ : ∃ E, E = wrE ⟨fin, op, l⟩ m := ⟨_, rfl⟩
    have HE := Lib.hid hE
    clear hE
    go_enter Tryd.func5, Tryd.ntmps5
    go_upto_region 1 with (fail)
    rw [← HS.out.1, ← HS.out.2]
    go_wp2_with fail
    refine (WsWrite_calls fin op A c l A1 c1 mk _ HM.out.2.2.1 HI.out.2.1 HI.out.1 (by have := HL.out; omega) HM.out.2.2.2.1 HI.out.2.2.2.1).mono ?_
    rintro e w1 ⟨v1, rfl, ho1, hb1⟩
    rw [HI.out.2.2.2.2.1, ← HE.out] at ho1 ⊢
    have H1 := Lib.hid (show BackAt w w1 gf fin op A c l A1 m mk A2 nb bh ∧ Own w w1 v1 (if E = 0 then wrL ⟨fin, op, l⟩ mk else []) from ⟨HM.out.below hb1, ho1.lower HM.out.1.size⟩)
    clear ho1 hb1 x0 x1 x2
    by_cases h0 : E = 0
    · have HZ := Lib.hid (show wrE ⟨fin, op, l⟩ mk.length = 0 by rw [HI.out.2.2.2.2.1]; exact HE.out.symm.trans h0)
      have hm4 := (wrE_ok HZ.out).1
      rw [HI.out.2.2.2.2.1] at hm4
      have HO := Lib.hid (show Own w w1 v1 (wrL ⟨fin, op, l⟩ mk) from H1.out.2.cast (by rw [if_pos h0]))
      obtain ⟨L, hL⟩ : ∃ L, L = (wrL ⟨fin, op, l⟩ mk).length := ⟨_, rfl⟩
      have hLs : 2 ≤ L ∧ L ≤ 300000 := by
        rw [hL, wrL_length, HI.out.2.2.2.2.1]
        have := HL.out
        simp only
        split <;> omega
      obtain ⟨B, cb, rfl, hcb, hrb⟩ := HO.out.reads
      rw [← hL] at hcb hrb ⊢
      have HX := Lib.hid (show Rd w1 B L (wrL ⟨fin, op, l⟩ mk) ∧ L ≤ cb ∧ 2 ≤ L ∧ L ≤ 300000 ∧ (wrL ⟨fin, op, l⟩ mk).length = L ∧ Bytes (wrL ⟨fin, op, l⟩ mk) from ⟨hrb, hcb, hLs.1, hLs.2, hL.symm, wrL_Bytes HZ.out HI.out.1 HI.out.2.2.1⟩)
      clear hcb hrb hLs hL HO
      subst h0
      obtain ⟨u, hu⟩ : ∃ u : Nat, IntKind.u64.wrap k = u := ⟨(IntKind.u64.wrap k).toNat, by rw [IntKind.wrap_u64]; omega⟩
      obtain ⟨q, hq⟩ : ∃ q, q = u % L := ⟨_, rfl⟩
      have hqL : q < L := by rw [hq]; exact Nat.mod_lt _ (by have := HX.out; omega)
      have e1 : ((u : Int).tmod (L : Int)) = (q : Int) := by rw [hq]; exact (Int.ofNat_tmod u L).symm
      have HQ := Lib.hid hqL
      have wl : IntKind.u64.wrap (L : Int) = L := by rw [IntKind.wrap_u64]; have := HX.out; omega
      have wq : IntKind.u64.wrap (q : Int) = q := by rw [IntKind.wrap_u64]; have := HX.out; omega
      have wq2 : IntKind.i64.wrap (q : Int) = q := by rw [IntKind.wrap_i64]; have := HX.out; omega
      have ln0 : ¬ (L = 0) := by have := HX.out; omega
      have ln1 : ((L : Int) == 0) = false := by rw [beq_eq_false_iff_ne]; have := HX.out; omega
      have j0 : (0 : Int) ≤ q := by omega
      have j1 : (q : Int) ≤ cb := by have := HX.out; omega
      have t1 : ((q : Int)).toNat = q := by omega
      clear hq hqL
      have HU := Lib.hid (And.intro hu (And.intro e1 (And.intro wl (And.intro wq (And.intro wq2 (And.intro ln0 ln1))))))
      clear hu e1 wl wq wq2 ln0 ln1
      rcases hm4 with rfl | rfl
      · have hd4 : decide (mk.length = 4) = false := by rw [HI.out.2.2.2.2.1]; rfl
        have HD := Lib.hid hd4
        clear hd4
        go_upto_region 6 with (fail)
        obtain ⟨g2, hg2⟩ : ∃ g, g = w1.heap.size := ⟨_, rfl⟩
        have hn2 : ∀ W, W = w1.alloc (.cells #[.slice B L cb, .slice A2 nb c2] 22) → W.cell? ⟨g2, 0, none⟩ = some (.slice B L cb) ∧ W.cell? ⟨g2, 1, none⟩ = some (.slice A2 nb c2) ∧ BackAt w W gf fin op A c l A1 0 mk A2 nb bh ∧ Below w1.heap.size w1 W ∧ Rd W B L (wrL ⟨fin, op, l⟩ mk) := fun W hW => by
          have hk : Whole W g2 22 #[.slice B L cb, .slice A2 nb c2] := by rw [hW, hg2]; exact Whole.new w1 _ _
          have hbw : Below w1.heap.size w1 W := by rw [hW]; exact below_alloc (Below.refl _ _) _
          exact ⟨hk.cell 0 _ rfl, hk.cell 1 _ rfl, H1.out.1.below hbw, hbw, Kd.C_below HX.out.1 hbw⟩
        have HN2 := Lib.hid hn2
        have HG2 := Lib.hid hg2
        clear hn2 hg2
        go_wp2_with fail
        rw [← HG2.out]
        obtain ⟨W2, hW2⟩ : ∃ W, W = w1.alloc (.cells #[.slice B L cb, .slice A2 nb c2] 22) := ⟨_, rfl⟩
        rw [← hW2]
        have H2 := Lib.hid (HN2.out W2 hW2)
        clear hW2 HN2
        refine (Concat_calls B cb _ A2 c2 bh g2 _ H2.out.2.2.2.2 H2.out.2.2.1.2.2.2.2 H2.out.1 H2.out.2.1 (by have := HX.out; have := HL.out; omega)).mono ?_
        rintro e w3 ⟨v3, rfl, ho3, hb3⟩
        obtain ⟨B3, c3, rfl, hc3, hr3⟩ := ho3.reads
        obtain ⟨L3, hL3⟩ : ∃ n, n = (wrL ⟨fin, op, l⟩ mk ++ bh).length := ⟨_, rfl⟩
        rw [← hL3] at hc3 hr3 ⊢
        have hL3s : L3 ≤ 600000 := by rw [hL3, List.length_append, HX.out.2.2.2.2.1, HI.out.2.2.2.2.2.2]; have := HX.out; have := HL.out; omega
        have hb13 := below_step H2.out.2.2.2.1 hb3
        have H3 := Lib.hid (show BackAt w w3 gf fin op A c l A1 0 mk A2 nb bh ∧ Rd w3 B L (wrL ⟨fin, op, l⟩ mk) ∧ Rd w3 B3 L3 (wrL ⟨fin, op, l⟩ mk ++ bh) ∧ L3 ≤ c3 ∧ L3 ≤ 600000 from ⟨H2.out.2.2.1.below hb3, Kd.C_below H2.out.2.2.2.2 hb3, hr3, hc3, hL3s⟩)
        clear ho3 hb3 hc3 hr3 hL3 hL3s hb13
        go_wp2_with fail
        refine (WsRead_calls B3 c3 _ false _ H3.out.2.2.1 H3.out.2.2.2.1 (Bytes.app HX.out.2.2.2.2.2 HI.out.2.2.2.2.2.1) (by have := H3.out; omega)).mono ?_
        rintro e w4 ⟨f4, k4, y4, v4, rfl, hF4, ho4, hb4⟩
        have hG4 := rdF_wrL (f := ⟨fin, op, l⟩) (m := mk) HZ.out HI.out.1 HI.out.2.2.1 bh
        rw [HD.out, hF4, HX.out.2.2.2.2.1] at hG4
        simp only [Prod.mk.injEq] at hG4
        obtain ⟨rfl, rfl, rfl⟩ := hG4
        obtain ⟨A4, c4, rfl, hc4, hr4⟩ := ho4.reads
        have H4 := Lib.hid (show BackAt w w4 gf fin op A c l A1 0 mk A2 nb bh ∧ Rd w4 B L (wrL ⟨fin, op, l⟩ mk) ∧ Rd w4 A4 l.length l from ⟨H3.out.1.below hb4, Kd.C_below H3.out.2.1 hb4, hr4⟩)
        clear hF4 ho4 hb4 hc4 hr4
        go_upto_region 7 with (fail)
        obtain ⟨g5, hg5⟩ : ∃ g, g = w4.heap.size := ⟨_, rfl⟩
        obtain ⟨W5, hW5⟩ : ∃ W, W = w4.alloc (.cells #[.bool fin, .int .i64 op, .slice A4 l.length c4] 26) := ⟨_, rfl⟩
        have hb5 : Below w4.heap.size w4 W5 := by rw [hW5]; exact below_alloc (Below.refl _ _) _
        have hk5 : Whole W5 g5 26 #[.bool fin, .int .i64 op, .slice A4 l.length c4] := by rw [hW5, hg5]; exact Whole.new w4 _ _
        have H5 := Lib.hid (show BackAt w W5 gf fin op A c l A1 0 mk A2 nb bh ∧ Rd W5 B L (wrL ⟨fin, op, l⟩ mk) ∧ Rd W5 A4 l.length l from ⟨H4.out.1.below hb5, Kd.C_below H4.out.2.1 hb5, Kd.C_below H4.out.2.2 hb5⟩)
        rw [← hW5, ← hg5]
        have x0 := hk5.cell 0 _ rfl
        have x1 := hk5.cell 1 _ rfl
        have x2 := hk5.cell 2 _ rfl
        have y0 := H5.out.1.2.1.cell 0 _ rfl
        have y1 := H5.out.1.2.1.cell 1 _ rfl
        have y2 := H5.out.1.2.1.cell 2 _ rfl
        have eL : ((L : Int) != L) = false := by simp
        clear hb5 hk5 hg5 hW5
        go_wp2_with fail
        refine (SameFrame_true fin op A4 c4 l A c _ H5.out.2.2 H5.out.1.2.2.1).mono ?_
        rintro e w6 ⟨rfl, hb6⟩
        have H6 := Lib.hid (show BackAt w w6 gf fin op A c l A1 0 mk A2 nb bh ∧ Rd w6 B L (wrL ⟨fin, op, l⟩ mk) from ⟨H5.out.1.below hb6, Kd.C_below H5.out.2.1 hb6⟩)
        clear hb6 x0 x1 x2 y0 y1 y2 eL
        obtain ⟨hu, e1, wl, wq, wq2, ln0, ln1⟩ := HU.out
        go_wp2_with fail
        refine (WsRead_calls B cb _ false _ (Rd.take H6.out.2 q (by have := HQ.out; omega)) (by have := HQ.out; have := HX.out; omega) (HX.out.2.2.2.2.2.tk q) (by have := HQ.out; have := HX.out; omega)).mono ?_
        rintro e w7 ⟨f7, k7, y7, v7, rfl, hF7, ho7, hb7⟩
        have hG7 := rdF_torn (f := ⟨fin, op, l⟩) (m := mk) HZ.out q (by rw [HX.out.2.2.2.2.1]; exact HQ.out)
        rw [HD.out, hF7] at hG7
        simp only [Prod.mk.injEq] at hG7
        obtain ⟨rfl, rfl, rfl⟩ := hG7
        have H7 := Lib.hid (show Below w.heap.size w w7 ∧ Rd w7 B L (wrL ⟨fin, op, l⟩ mk) from ⟨below_step H6.out.1.1 hb7, Kd.C_below H6.out.2 hb7⟩)
        obtain ⟨A7, c7, rfl, _, _⟩ := ho7.reads
        clear hF7 ho7 hb7 hu e1 wl wq wq2 ln0 ln1 j0 j1 t1
        go_wp2_with fail
        refine (WsRead_calls B cb _ true _ H7.out.2 HX.out.2.1 HX.out.2.2.2.2.2 (by have := HX.out; omega)).mono ?_
        rintro e w8 ⟨f8, k8, y8, v8, rfl, hF8, ho8, hb8⟩
        have hG8 := rdF_otherL (f := ⟨fin, op, l⟩) (m := mk) HZ.out
        rw [HD.out, show (!false) = true from rfl, hF8] at hG8
        simp only [Prod.mk.injEq] at hG8
        obtain ⟨rfl, rfl, rfl⟩ := hG8
        obtain ⟨A8, c8, rfl, _, _⟩ := ho8.reads
        have H8 := Lib.hid (below_step H7.out.1 hb8)
        clear hF8 ho8 hb8
        go_wp2_with fail
        refine (wsAwake_calls _).mono ?_
        rintro e w9 ⟨rfl, hb9⟩
        have H9 := Lib.hid (below_step (below_alloc H8.out _) hb9)
        clear hb9
        go_wp2
        go_ret
        exact ⟨rfl, H9.out⟩
      · have hd4 : decide (mk.length = 4) = true := by rw [HI.out.2.2.2.2.1]; rfl
        have HD := Lib.hid hd4
        clear hd4
        go_upto_region 6 with (fail)
        obtain ⟨g2, hg2⟩ : ∃ g, g = w1.heap.size := ⟨_, rfl⟩
        have hn2 : ∀ W, W = w1.alloc (.cells #[.slice B L cb, .slice A2 nb c2] 22) → W.cell? ⟨g2, 0, none⟩ = some (.slice B L cb) ∧ W.cell? ⟨g2, 1, none⟩ = some (.slice A2 nb c2) ∧ BackAt w W gf fin op A c l A1 4 mk A2 nb bh ∧ Below w1.heap.size w1 W ∧ Rd W B L (wrL ⟨fin, op, l⟩ mk) := fun W hW => by
          have hk : Whole W g2 22 #[.slice B L cb, .slice A2 nb c2] := by rw [hW, hg2]; exact Whole.new w1 _ _
          have hbw : Below w1.heap.size w1 W := by rw [hW]; exact below_alloc (Below.refl _ _) _
          exact ⟨hk.cell 0 _ rfl, hk.cell 1 _ rfl, H1.out.1.below hbw, hbw, Kd.C_below HX.out.1 hbw⟩
        have HN2 := Lib.hid hn2
        have HG2 := Lib.hid hg2
        clear hn2 hg2
        go_wp2_with fail
        rw [← HG2.out]
        obtain ⟨W2, hW2⟩ : ∃ W, W = w1.alloc (.cells #[.slice B L cb, .slice A2 nb c2] 22) := ⟨_, rfl⟩
        rw [← hW2]
        have H2 := Lib.hid (HN2.out W2 hW2)
        clear hW2 HN2
        refine (Concat_calls B cb _ A2 c2 bh g2 _ H2.out.2.2.2.2 H2.out.2.2.1.2.2.2.2 H2.out.1 H2.out.2.1 (by have := HX.out; have := HL.out; omega)).mono ?_
        rintro e w3 ⟨v3, rfl, ho3, hb3⟩
        obtain ⟨B3, c3, rfl, hc3, hr3⟩ := ho3.reads
        obtain ⟨L3, hL3⟩ : ∃ n, n = (wrL ⟨fin, op, l⟩ mk ++ bh).length := ⟨_, rfl⟩
        rw [← hL3] at hc3 hr3 ⊢
        have hL3s : L3 ≤ 600000 := by rw [hL3, List.length_append, HX.out.2.2.2.2.1, HI.out.2.2.2.2.2.2]; have := HX.out; have := HL.out; omega
        have hb13 := below_step H2.out.2.2.2.1 hb3
        have H3 := Lib.hid (show BackAt w w3 gf fin op A c l A1 4 mk A2 nb bh ∧ Rd w3 B L (wrL ⟨fin, op, l⟩ mk) ∧ Rd w3 B3 L3 (wrL ⟨fin, op, l⟩ mk ++ bh) ∧ L3 ≤ c3 ∧ L3 ≤ 600000 from ⟨H2.out.2.2.1.below hb3, Kd.C_below H2.out.2.2.2.2 hb3, hr3, hc3, hL3s⟩)
        clear ho3 hb3 hc3 hr3 hL3 hL3s hb13
        go_wp2_with fail
        refine (WsRead_calls B3 c3 _ true _ H3.out.2.2.1 H3.out.2.2.2.1 (Bytes.app HX.out.2.2.2.2.2 HI.out.2.2.2.2.2.1) (by have := H3.out; omega)).mono ?_
        rintro e w4 ⟨f4, k4, y4, v4, rfl, hF4, ho4, hb4⟩
        have hG4 := rdF_wrL (f := ⟨fin, op, l⟩) (m := mk) HZ.out HI.out.1 HI.out.2.2.1 bh
        rw [HD.out, hF4, HX.out.2.2.2.2.1] at hG4
        simp only [Prod.mk.injEq] at hG4
        obtain ⟨rfl, rfl, rfl⟩ := hG4
        obtain ⟨A4, c4, rfl, hc4, hr4⟩ := ho4.reads
        have H4 := Lib.hid (show BackAt w w4 gf fin op A c l A1 4 mk A2 nb bh ∧ Rd w4 B L (wrL ⟨fin, op, l⟩ mk) ∧ Rd w4 A4 l.length l from ⟨H3.out.1.below hb4, Kd.C_below H3.out.2.1 hb4, hr4⟩)
        clear hF4 ho4 hb4 hc4 hr4
        go_upto_region 7 with (fail)
        obtain ⟨g5, hg5⟩ : ∃ g, g = w4.heap.size := ⟨_, rfl⟩
        obtain ⟨W5, hW5⟩ : ∃ W, W = w4.alloc (.cells #[.bool fin, .int .i64 op, .slice A4 l.length c4] 26) := ⟨_, rfl⟩
        have hb5 : Below w4.heap.size w4 W5 := by rw [hW5]; exact below_alloc (Below.refl _ _) _
        have hk5 : Whole W5 g5 26 #[.bool fin, .int .i64 op, .slice A4 l.length c4] := by rw [hW5, hg5]; exact Whole.new w4 _ _
        have H5 := Lib.hid (show BackAt w W5 gf fin op A c l A1 4 mk A2 nb bh ∧ Rd W5 B L (wrL ⟨fin, op, l⟩ mk) ∧ Rd W5 A4 l.length l from ⟨H4.out.1.below hb5, Kd.C_below H4.out.2.1 hb5, Kd.C_below H4.out.2.2 hb5⟩)
        rw [← hW5, ← hg5]
        have x0 := hk5.cell 0 _ rfl
        have x1 := hk5.cell 1 _ rfl
        have x2 := hk5.cell 2 _ rfl
        have y0 := H5.out.1.2.1.cell 0 _ rfl
        have y1 := H5.out.1.2.1.cell 1 _ rfl
        have y2 := H5.out.1.2.1.cell 2 _ rfl
        have eL : ((L : Int) != L) = false := by simp
        clear hb5 hk5 hg5 hW5
        go_wp2_with fail
        refine (SameFrame_true fin op A4 c4 l A c _ H5.out.2.2 H5.out.1.2.2.1).mono ?_
        rintro e w6 ⟨rfl, hb6⟩
        have H6 := Lib.hid (show BackAt w w6 gf fin op A c l A1 4 mk A2 nb bh ∧ Rd w6 B L (wrL ⟨fin, op, l⟩ mk) from ⟨H5.out.1.below hb6, Kd.C_below H5.out.2.1 hb6⟩)
        clear hb6 x0 x1 x2 y0 y1 y2 eL
        obtain ⟨hu, e1, wl, wq, wq2, ln0, ln1⟩ := HU.out
        go_wp2_with fail
        refine (WsRead_calls B cb _ true _ (Rd.take H6.out.2 q (by have := HQ.out; omega)) (by have := HQ.out; have := HX.out; omega) (HX.out.2.2.2.2.2.tk q) (by have := HQ.out; have := HX.out; omega)).mono ?_
        rintro e w7 ⟨f7, k7, y7, v7, rfl, hF7, ho7, hb7⟩
        have hG7 := rdF_torn (f := ⟨fin, op, l⟩) (m := mk) HZ.out q (by rw [HX.out.2.2.2.2.1]; exact HQ.out)
        rw [HD.out, hF7] at hG7
        simp only [Prod.mk.injEq] at hG7
        obtain ⟨rfl, rfl, rfl⟩ := hG7
        have H7 := Lib.hid (show Below w.heap.size w w7 ∧ Rd w7 B L (wrL ⟨fin, op, l⟩ mk) from ⟨below_step H6.out.1.1 hb7, Kd.C_below H6.out.2 hb7⟩)
        obtain ⟨A7, c7, rfl, _, _⟩ := ho7.reads
        clear hF7 ho7 hb7 hu e1 wl wq wq2 ln0 ln1 j0 j1 t1
        go_wp2_with fail
        refine (WsRead_calls B cb _ false _ H7.out.2 HX.out.2.1 HX.out.2.2.2.2.2 (by have := HX.out; omega)).mono ?_
        rintro e w8 ⟨f8, k8, y8, v8, rfl, hF8, ho8, hb8⟩
        have hG8 := rdF_otherL (f := ⟨fin, op, l⟩) (m := mk) HZ.out
        rw [HD.out, show (!true) = false from rfl, hF8] at hG8
        simp only [Prod.mk.injEq] at hG8
        obtain ⟨rfl, rfl, rfl⟩ := hG8
        obtain ⟨A8, c8, rfl, _, _⟩ := ho8.reads
        have H8 := Lib.hid (below_step H7.out.1 hb8)
        clear hF8 ho8 hb8
        go_wp2_with fail
        refine (wsAwake_calls _).mono ?_
        rintro e w9 ⟨rfl, hb9⟩
        have H9 := Lib.hid (below_step (below_alloc H8.out _) hb9)
        clear hb9
        go_wp2
        go_ret
        exact ⟨rfl, H9.out⟩
    · have e3 : (E != 0) = true := by unfold bne; rw [beq_eq_false_iff_ne.2 h0]; rfl
      have ho := H1.out.2.cast (if_neg h0)
      obtain ⟨B, cb, rfl, _, _⟩ := ho.reads
      clear ho
      go_wp2_with fail
      refine (wsAwake_calls _).mono ?_
      rintro e w3 ⟨rfl, hb3⟩
      have HB := Lib.hid (below_step H1.out.1.1 hb3)
      clear hb3
      go_wp2
      go_ret
      exact ⟨rfl, HB.out⟩
end Go.Proofs.YtcfbfmgckaehdaaDoor
