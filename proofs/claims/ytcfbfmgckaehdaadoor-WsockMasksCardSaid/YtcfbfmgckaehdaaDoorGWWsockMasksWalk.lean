/- The walk of a law: WsockMasksWalk. -/
import Derived.Test.YtcfbfmgckaehdaaDoorG01
import Derived.Test.YtcfbfmgckaehdaaDoorG13
namespace Go.Proofs.YtcfbfmgckaehdaaDoor
open Go.RowKit Go.Proofs.YtcfbfmgckaehdaaDoorW.PrintWords
/-- What stands through all of the walk: the frame, the masks, the load. -/
def MaskAt (w W : World) (gf gp gq : Nat) (fin : Bool) (op : Int) (A : Option Addr) (c : Nat) (l p q : List Int) : Prop :=
  Below w.heap.size w W ∧ Whole W gf 26 #[.bool fin, .int .i64 op, .slice A l.length c] ∧ Rd W (some ⟨gp, 0, none⟩) 4 p ∧ Rd W (some ⟨gq, 0, none⟩) 4 q ∧ Rd W A l.length l
theorem MaskAt.below {w W W' : World} {gf gp gq : Nat} {fin : Bool} {op : Int} {A : Option Addr} {c : Nat} {l p q : List Int} (h : MaskAt w W gf gp gq fin op A c l p q) (hb : Below W.heap.size W W') : MaskAt w W' gf gp gq fin op A c l p q :=
  ⟨below_step h.1 hb, h.2.1.below hb h.2.1.lt, Kd.C_below h.2.2.1 hb, Kd.C_below h.2.2.2.1 hb, Kd.C_below h.2.2.2.2 hb⟩
set_option maxRecDepth 20000 in
set_option maxHeartbeats 4000000 in
theorem WsockMasks_walk (fin : Bool) (op : Int) (A : Option Addr) (c : Nat) (l : List Int) (p0 p1 p2 p3 q0 q1 q2 q3 : Int) (w : World) (hr : Rd w A l.length l) (hc : l.length ≤ c) (hb : Bytes l) (_hop : -9223372036854775808 ≤ op ∧ op ≤ 9223372036854775807) (hp : Bytes [p0, p1, p2, p3]) (hq : Bytes [q0, q1, q2, q3]) :
    Calls Tryd.prog 4 #[.agg #[.bool fin, .int .i64 op, .slice A l.length c], .agg #[.int .u8 p0, .int .u8 p1, .int .u8 p2, .int .u8 p3], .agg #[.int .u8 q0, .int .u8 q1, .int .u8 q2, .int .u8 q3]] w fun e w' => e = .returned (.bool true) ∧ Below w.heap.size w w' := by
  obtain ⟨gf, hgf⟩ : ∃ g, g = w.heap.size := ⟨_, rfl⟩
  obtain ⟨gp, hgp⟩ : ∃ g, g = gf + 1 := ⟨_, rfl⟩
  obtain ⟨gq, hgq⟩ : ∃ g, g = gp + 1 := ⟨_, rfl⟩
  obtain ⟨W0, hW0⟩ : ∃ W0, W0 = w.alloc (.cells #[.bool fin, .int .i64 op, .slice A l.length c] 26) := ⟨_, rfl⟩
  obtain ⟨W1, hW1⟩ : ∃ W1, W1 = W0.alloc (.cells #[.int .u8 p0, .int .u8 p1, .int .u8 p2, .int .u8 p3] 32) := ⟨_, rfl⟩
  obtain ⟨W2, hW2⟩ : ∃ W2, W2 = W1.alloc (.cells #[.int .u8 q0, .int .u8 q1, .int .u8 q2, .int .u8 q3] 32) := ⟨_, rfl⟩
  have hz0 : W0.heap.size = gp := by rw [hW0, size_alloc, hgp, hgf]
  have hz1 : W1.heap.size = gq := by rw [hW1, size_alloc, hgq, hz0]
  have hb0 : Below w.heap.size w W0 := by rw [hW0]; exact below_alloc (Below.refl _ _) _
  have hb01 : Below W0.heap.size W0 W1 := by rw [hW1]; exact below_alloc (Below.refl _ _) _
  have hb12 : Below W1.heap.size W1 W2 := by rw [hW2]; exact below_alloc (Below.refl _ _) _
  have hk0 : Whole W0 gf 26 #[.bool fin, .int .i64 op, .slice A l.length c] := by rw [hW0, hgf]; exact Whole.new w _ _
  have hk2 := (hk0.below hb01 hk0.lt).below hb12 (hk0.below hb01 hk0.lt).lt
  have hp1 : Rd W1 (some ⟨gp, 0, none⟩) 4 [p0, p1, p2, p3] := by rw [hW1, ← hz0]; exact C_const W0 32 [p0, p1, p2, p3] (0, 0) (by simp)
  have hq2 : Rd W2 (some ⟨gq, 0, none⟩) 4 [q0, q1, q2, q3] := by rw [hW2, ← hz1]; exact C_const W1 32 [q0, q1, q2, q3] (0, 0) (by simp)
  have hb2 := below_step (below_step hb0 hb01) hb12
  have HS := Lib.hid (show gf = w.heap.size ∧ W0 = w.alloc _ ∧ gp = gf + 1 ∧ W1 = W0.alloc _ ∧ gq = gp + 1 ∧ W2 = W1.alloc _ from ⟨hgf, hW0, hgp, hW1, hgq, hW2⟩)
  have HM := Lib.hid (show MaskAt w W2 gf gp gq fin op A c l [p0, p1, p2, p3] [q0, q1, q2, q3] from ⟨hb2, hk2, Kd.C_below hp1 hb12, hq2, Kd.C_below hr hb2⟩)
  have HI := Lib.hid (show Bytes l ∧ l.length ≤ c ∧ Bytes [p0, p1, p2, p3] ∧ Bytes [q0, q1, q2, q3] from ⟨hb, hc, hp, hq⟩)
  clear hz0 hz1 hb0 hb01 hb12 hk0 hk2 hp1 hq2 hb2 hgf hgp hgq hW0 hW1 hW2 hr hc hb hp hq
  have x0 := HM.out.2.1.cell 0 _ rfl
  have x1 := HM.out.2.1.cell 1 _ rfl
  have x2 := HM.out.2.1.cell 2 _ rfl
  by_cases hbig : 262144 < l.length
  · have d1 : decide (262144 < (l.length : Int)) = true := decide_eq_true (by omega)
    have d1' : decide (262144 < l.length) = true := decide_eq_true hbig
    go_enter Tryd.func4, Tryd.ntmps4
    go_upto_region 1 with (fail)
    rw [← HS.out.1, ← HS.out.2.1, ← HS.out.2.2.1, ← HS.out.2.2.2.1, ← HS.out.2.2.2.2.1, ← HS.out.2.2.2.2.2]
    go_wp2_with fail
    refine (wsAwake_calls _).mono ?_
    rintro e w1 ⟨rfl, hb1⟩
    have HB := Lib.hid (below_step HM.out.1 hb1)
    clear hb1
    go_wp2
    go_ret
    exact ⟨rfl, HB.out⟩
  · have d1 : decide (262144 < (l.length : Int)) = false := decide_eq_false (by omega)
    have d1' : decide (262144 < l.length) = false := decide_eq_false hbig
    have hl : l.length ≤ 262144 := by omega
    have HL := Lib.hid hl
    clear hbig hl
    go_enter Tryd.func4, Tryd.ntmps4
    go_upto_region 1 with (fail)
    rw [← HS.out.1, ← HS.out.2.1, ← HS.out.2.2.1, ← HS.out.2.2.2.1, ← HS.out.2.2.2.2.1, ← HS.out.2.2.2.2.2]
    obtain ⟨E, hE⟩ : ∃ E, E = wrE ⟨fin, op, l⟩ 4 := ⟨_, rfl⟩
    have HE := Lib.hid hE
    clear hE
    go_upto_region 3 with (fail)
    have HC1 := Lib.hid (show ∀ c1, 4 ≤ c1 → Calls Tryd.prog 19 #[.agg #[.bool fin, .int .i64 op, .slice A l.length c], .slice (some ⟨gp, 0, none⟩) 4 c1] W2.drew (fun e w' => ∃ v, e = .returned (.tuple #[v, .int .i64 E]) ∧ MaskAt w w' gf gp gq fin op A c l [p0, p1, p2, p3] [q0, q1, q2, q3] ∧ Below W2.heap.size W2 w' ∧ Own w w' v (if E = 0 then wrL ⟨fin, op, l⟩ [p0, p1, p2, p3] else [])) from fun c1 hc1 => by
      have hbd : Below W2.heap.size W2 W2.drew := below_drew (Below.refl _ _)
      refine (WsWrite_calls fin op A c l _ c1 [p0, p1, p2, p3] _ (Kd.C_below HM.out.2.2.2.2 hbd) HI.out.2.1 HI.out.1 (by have := HL.out; omega) (Kd.C_below HM.out.2.2.1 hbd) hc1).mono ?_
      rintro e w9 ⟨v9, rfl, ho9, hb9⟩
      refine ⟨v9, by rw [HE.out]; rfl, HM.out.below (below_step hbd hb9), below_step hbd hb9, (ho9.cast (by rw [HE.out]; rfl)).lower HM.out.1.size⟩)
    go_region_held3 (fun w' => w'.cell? ⟨gf, 0, none⟩ = some (.bool fin) ∧ w'.cell? ⟨gf, 1, none⟩ = some (.int .i64 op) ∧ w'.cell? ⟨gf, 2, none⟩ = some (.slice A l.length c)) (first | exact ⟨H1.out.1.2.1.cell 0 _ rfl, H1.out.1.2.1.cell 1 _ rfl, H1.out.1.2.1.cell 2 _ rfl⟩ | exact ⟨x0, x1, x2⟩) (first | (go_at_call 19; (with_reducible refine (HC1.out 4 (Nat.le_refl 4)).mono ?_); rintro e w1 ⟨v1, rfl, h1, h2, h3⟩; have H1 := Lib.hid (And.intro h1 (And.intro h2 h3)); clear h1 h2 h3) | (fail))
    clear x0 x1 x2
    have x0 := H1.out.1.2.1.cell 0 _ rfl
    have x1 := H1.out.1.2.1.cell 1 _ rfl
    have x2 := H1.out.1.2.1.cell 2 _ rfl
    go_upto_region 4 with (fail)
    have HC2 := Lib.hid (show ∀ c1, 4 ≤ c1 → Calls Tryd.prog 19 #[.agg #[.bool fin, .int .i64 op, .slice A l.length c], .slice (some ⟨gq, 0, none⟩) 4 c1] w1.drew (fun e w' => ∃ v, e = .returned (.tuple #[v, .int .i64 E]) ∧ MaskAt w w' gf gp gq fin op A c l [p0, p1, p2, p3] [q0, q1, q2, q3] ∧ Below w1.heap.size w1 w' ∧ Own w w' v (if E = 0 then wrL ⟨fin, op, l⟩ [q0, q1, q2, q3] else [])) from fun c1 hc1 => by
      have hbd : Below w1.heap.size w1 w1.drew := below_drew (Below.refl _ _)
      refine (WsWrite_calls fin op A c l _ c1 [q0, q1, q2, q3] _ (Kd.C_below H1.out.1.2.2.2.2 hbd) HI.out.2.1 HI.out.1 (by have := HL.out; omega) (Kd.C_below H1.out.1.2.2.2.1 hbd) hc1).mono ?_
      rintro e w9 ⟨v9, rfl, ho9, hb9⟩
      refine ⟨v9, by rw [HE.out]; rfl, H1.out.1.below (below_step hbd hb9), below_step hbd hb9, (ho9.cast (by rw [HE.out]; rfl)).lower H1.out.1.1.size⟩)
    go_region_held3 (fun w' => w'.cell? ⟨gf, 0, none⟩ = some (.bool fin) ∧ w'.cell? ⟨gf, 1, none⟩ = some (.int .i64 op) ∧ w'.cell? ⟨gf, 2, none⟩ = some (.slice A l.length c)) (first | exact ⟨H2.out.1.2.1.cell 0 _ rfl, H2.out.1.2.1.cell 1 _ rfl, H2.out.1.2.1.cell 2 _ rfl⟩ | exact ⟨x0, x1, x2⟩) (first | (go_at_call 19; (with_reducible refine (HC2.out 4 (Nat.le_refl 4)).mono ?_); rintro e w2 ⟨v2, rfl, h1, h2, h3⟩; have H2 := Lib.hid (And.intro h1 (And.intro h2 h3)); clear h1 h2 h3) | (fail))
    have HV := Lib.hid (H1.out.2.2.below H2.out.2.1)
    clear x0 x1 x2
    have e1 : (E != E) = false := by simp
    have e2 : (E == E) = true := by simp
    by_cases h0 : E = 0
    · have HZ := Lib.hid (show wrE ⟨fin, op, l⟩ 4 = 0 from HE.out.symm.trans h0)
      have HO := Lib.hid (show Own w w2 v1 (wrL ⟨fin, op, l⟩ [p0, p1, p2, p3]) ∧ Own w w2 v2 (wrL ⟨fin, op, l⟩ [q0, q1, q2, q3]) from ⟨HV.out.cast (by rw [if_pos h0]), H2.out.2.2.cast (by rw [if_pos h0])⟩)
      obtain ⟨L, hL⟩ : ∃ L, L = (wrL ⟨fin, op, l⟩ [p0, p1, p2, p3]).length := ⟨_, rfl⟩
      have hLq : (wrL ⟨fin, op, l⟩ [q0, q1, q2, q3]).length = L := by rw [hL, wrL_length, wrL_length]; rfl
      have hLs : L ≤ 300000 := by rw [hL, wrL_length]; have := HL.out; simp only [List.length_cons, List.length_nil]; split <;> omega
      obtain ⟨A1, c1, rfl, hc1, hr1⟩ := HO.out.1.reads
      obtain ⟨A2, c2, rfl, hc2, hr2⟩ := HO.out.2.reads
      rw [hLq] at hc2 hr2
      rw [← hL] at hc1 hr1
      rw [← hL, hLq]
      have HX := Lib.hid (show Rd w2 A1 L (wrL ⟨fin, op, l⟩ [p0, p1, p2, p3]) ∧ L ≤ c1 ∧ Rd w2 A2 L (wrL ⟨fin, op, l⟩ [q0, q1, q2, q3]) ∧ L ≤ c2 ∧ L ≤ 300000 from ⟨hr1, hc1, hr2, hc2, hLs⟩)
      have HLL := Lib.hid (show (wrL ⟨fin, op, l⟩ [p0, p1, p2, p3]).length = L ∧ (wrL ⟨fin, op, l⟩ [q0, q1, q2, q3]).length = L from ⟨hL.symm, hLq⟩)
      clear hr1 hc1 hr2 hc2 hLs hLq hL HO HV
      subst h0
      go_wp2_with fail
      refine (WsRead_calls A1 c1 _ true _ HX.out.1 HX.out.2.1 (wrL_Bytes HZ.out HI.out.1 HI.out.2.2.1) (by have := HX.out; omega)).mono ?_
      rintro e w3 ⟨f3, k3, y3, v3, rfl, hF3, ho3, hb3⟩
      have hG3 := rdF_wrL (f := ⟨fin, op, l⟩) (m := [p0, p1, p2, p3]) HZ.out HI.out.1 HI.out.2.2.1 []
      rw [List.append_nil, show decide (([p0, p1, p2, p3] : List Int).length = 4) = true from rfl, hF3, HLL.out.1] at hG3
      simp only [Prod.mk.injEq] at hG3
      obtain ⟨rfl, rfl, rfl⟩ := hG3
      obtain ⟨A3, c3, rfl, hc3, hr3⟩ := ho3.reads
      have H3 := Lib.hid (show Below w.heap.size w w3 ∧ Rd w3 A3 l.length l ∧ Rd w3 A2 L (wrL ⟨fin, op, l⟩ [q0, q1, q2, q3]) from ⟨below_step H2.out.1.1 hb3, hr3, Kd.C_below HX.out.2.2.1 hb3⟩)
      clear hF3 ho3 hb3 hc3 hr3
      go_upto_region 8 with (fail)
      obtain ⟨g4, hg4⟩ : ∃ g, g = w3.heap.size := ⟨_, rfl⟩
      obtain ⟨W4, hW4⟩ : ∃ W, W = w3.alloc (.cells #[.bool fin, .int .i64 op, .slice A3 l.length c3] 26) := ⟨_, rfl⟩
      have hb4 : Below w3.heap.size w3 W4 := by rw [hW4]; exact below_alloc (Below.refl _ _) _
      have hk4 : Whole W4 g4 26 #[.bool fin, .int .i64 op, .slice A3 l.length c3] := by rw [hW4, hg4]; exact Whole.new w3 _ _
      have H4 := Lib.hid (show Below w.heap.size w W4 ∧ Whole W4 g4 26 #[.bool fin, .int .i64 op, .slice A3 l.length c3] ∧ Rd W4 A3 l.length l ∧ Rd W4 A2 L (wrL ⟨fin, op, l⟩ [q0, q1, q2, q3]) from ⟨below_step H3.out.1 hb4, hk4, Kd.C_below H3.out.2.1 hb4, Kd.C_below H3.out.2.2 hb4⟩)
      rw [← hW4, ← hg4]
      clear hb4 hk4 hg4 hW4
      go_wp2_with fail
      refine (WsRead_calls A2 c2 _ true _ H4.out.2.2.2 HX.out.2.2.2.1 (wrL_Bytes HZ.out HI.out.1 HI.out.2.2.2) (by have := HX.out; omega)).mono ?_
      rintro e w5 ⟨f5, k5, y5, v5, rfl, hF5, ho5, hb5⟩
      have hG5 := rdF_wrL (f := ⟨fin, op, l⟩) (m := [q0, q1, q2, q3]) HZ.out HI.out.1 HI.out.2.2.2 []
      rw [List.append_nil, show decide (([q0, q1, q2, q3] : List Int).length = 4) = true from rfl, hF5, HLL.out.2] at hG5
      simp only [Prod.mk.injEq] at hG5
      obtain ⟨rfl, rfl, rfl⟩ := hG5
      obtain ⟨A5, c5, rfl, hc5, hr5⟩ := ho5.reads
      have H5 := Lib.hid (show Below w.heap.size w w5 ∧ Whole w5 g4 26 #[.bool fin, .int .i64 op, .slice A3 l.length c3] ∧ Rd w5 A3 l.length l ∧ Rd w5 A5 l.length l from ⟨below_step H4.out.1 hb5, H4.out.2.1.below hb5 H4.out.2.1.lt, Kd.C_below H4.out.2.2.1 hb5, hr5⟩)
      clear hF5 ho5 hb5 hc5 hr5
      go_upto_region 9 with (fail)
      obtain ⟨g6, hg6⟩ : ∃ g, g = w5.heap.size := ⟨_, rfl⟩
      obtain ⟨W6, hW6⟩ : ∃ W, W = w5.alloc (.cells #[.bool fin, .int .i64 op, .slice A5 l.length c5] 26) := ⟨_, rfl⟩
      have hb6 : Below w5.heap.size w5 W6 := by rw [hW6]; exact below_alloc (Below.refl _ _) _
      have hk6 : Whole W6 g6 26 #[.bool fin, .int .i64 op, .slice A5 l.length c5] := by rw [hW6, hg6]; exact Whole.new w5 _ _
      have hk4 := H5.out.2.1.below hb6 H5.out.2.1.lt
      have H6 := Lib.hid (show Below w.heap.size w W6 ∧ Rd W6 A3 l.length l ∧ Rd W6 A5 l.length l from ⟨below_step H5.out.1 hb6, Kd.C_below H5.out.2.2.1 hb6, Kd.C_below H5.out.2.2.2 hb6⟩)
      rw [← hW6, ← hg6]
      have x0 := hk4.cell 0 _ rfl
      have x1 := hk4.cell 1 _ rfl
      have x2 := hk4.cell 2 _ rfl
      have y0 := hk6.cell 0 _ rfl
      have y1 := hk6.cell 1 _ rfl
      have y2 := hk6.cell 2 _ rfl
      have eL : ((L : Int) == L) = true := by simp
      clear hb6 hk6 hk4 hg6 hW6
      go_wp2_with fail
      refine (SameFrame_true fin op A3 c3 l A5 c5 _ H6.out.2.1 H6.out.2.2).mono ?_
      rintro e w7 ⟨rfl, hb7⟩
      have H7 := Lib.hid (below_step H6.out.1 hb7)
      clear hb7 x0 x1 x2 y0 y1 y2
      go_wp2_with fail
      refine (wsAwake_calls _).mono ?_
      rintro e w8 ⟨rfl, hb8⟩
      have H8 := Lib.hid (below_step H7.out hb8)
      clear hb8
      go_wp2
      go_ret
      exact ⟨rfl, H8.out⟩
    · have e3 : (E != 0) = true := by unfold bne; rw [beq_eq_false_iff_ne.2 h0]; rfl
      obtain ⟨A1, c1, rfl, _, _⟩ := HV.out.reads
      obtain ⟨A2, c2, rfl, _, _⟩ := H2.out.2.2.reads
      go_wp2_with fail
      refine (wsAwake_calls _).mono ?_
      rintro e w3 ⟨rfl, hb3⟩
      have HB := Lib.hid (below_step H2.out.1.1 hb3)
      clear hb3
      go_wp2
      go_ret
      exact ⟨rfl, HB.out⟩
end Go.Proofs.YtcfbfmgckaehdaaDoor
