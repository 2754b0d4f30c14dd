/- The texts WsWrite in one. -/
import Derived.Test.YtcfbfmgckaehdaaDoorG08
namespace Go.Proofs.YtcfbfmgckaehdaaDoor
open Go.RowKit Go.Proofs.YtcfbfmgckaehdaaDoorW.PrintWords
section
variable {ops : Array Oper} {o : Oper} {a : Act} {Kc : Act → World → Prop} {Q : Exit → Act → World → Prop} {w0 W : World} {v : Value} {l ys : List Int} {A : Option Addr} {m c : Nat} {s x : Operand}
theorem app_row_step (hO : Own w0 W v l) (hR : Rd W A m ys) (hB : Below w0.heap.size w0 W) (hL : l.length + m ≤ 140737488355328)
    (hw : Region.wanted o (yielded ops a.tmps) = true) (hop : o.op = .call { callee := .builtin .append, args := #[s, x], argTypes := #[22, 22] }) (hv : a.eval s = v) (hx : a.eval x = .slice A m c)
    (K : ∀ v1 w1, Own w0 w1 v1 (l ++ ys) → Below w0.heap.size w0 w1 → W.grownBy w1 v.ownBlock → (v1.ownBlock = v.ownBlock ∨ ∃ b, v1.ownBlock = some b ∧ W.heap.size ≤ b) → Kc (a.put o.dst v1) w1) :
    if Region.wanted o (yielded ops a.tmps) = true then Oper.wp Tryd.prog o a W Kc Q else Kc (a.put o.dst undef) W :=
  Kd.R_append_rows_step (Kd.int .u8) (w0 := w0) w0.heap.size hw s x 22 5 (.int .u8 0) 1 hop Tryd.underlying22 info_u8 rfl (by decide) (by omega) v l ys A m c (fun _ => True) (fun _ => False) hv hx hO hR (fun _ _ h => h) (fun _ h => h.elim) (fun _ _ => trivial) hB hB.size (by omega) K
end
theorem Whole.other {w : World} {g t : Nat} {cs : Array Value} (h : Whole w g t cs) {p : Addr} (hne : p.block ≠ g) (v : Value) : Whole (w.setCell p v) g t cs := by
  unfold Whole at *
  simp [World.setCell, Array.getElem?_modify, hne, h]
theorem ne_after {N : Nat} {v1 v : Value} {gb : Nat} (hat : v1.ownBlock = v.ownBlock ∨ ∃ b, v1.ownBlock = some b ∧ N ≤ b) (h : some gb ≠ v.ownBlock) (hlt : gb < N) : some gb ≠ v1.ownBlock := by
  rcases hat with e | ⟨b, e, hb⟩
  · rw [e]; exact h
  · rw [e]
    intro h1
    injection h1 with h1
    omega
/-- What a call of Write answers. -/
def WrPost (f : Frm) (mk : List Int) (w : World) (e : Ending) (w' : World) : Prop :=
  ∃ v : Value, e = .returned (.tuple #[v, .int .i64 (wrE f mk.length)]) ∧ Own w w' v (if wrE f mk.length = 0 then wrL f mk else []) ∧ Below w.heap.size w w'
/-- The row under way, the frame's block beside it. -/
def WrAt (w W : World) (gb g : Nat) (fin : Bool) (op : Int) (A : Option Addr) (n c : Nat) (p q : Int) : Prop :=
  Own w W (.slice (some ⟨g, 0, none⟩) 2 2) [p, q] ∧ Whole W gb 26 #[.bool fin, .int .i64 op, .slice A n c] ∧ Below w.heap.size w W ∧ w.heap.size ≤ g ∧ g ≠ gb
theorem WrAt.set0 {w W : World} {gb g : Nat} {fin : Bool} {op : Int} {A : Option Addr} {n c : Nat} {p q : Int} (h : WrAt w W gb g fin op A n c p q) (x : Int) : WrAt w (W.setCell ⟨g, 0, none⟩ (.int .u8 x)) gb g fin op A n c x q :=
  ⟨(h.1.put 0 x).cast rfl, h.2.1.other h.2.2.2.2 _, h.2.2.1.setCell h.2.2.2.1 _, h.2.2.2⟩
theorem WrAt.set1 {w W : World} {gb g : Nat} {fin : Bool} {op : Int} {A : Option Addr} {n c : Nat} {p q : Int} (h : WrAt w W gb g fin op A n c p q) (x : Int) : WrAt w (W.setCell ⟨g, 1, none⟩ (.int .u8 x)) gb g fin op A n c p x :=
  ⟨(h.1.put 1 x).cast rfl, h.2.1.other h.2.2.2.2 _, h.2.2.1.setCell h.2.2.2.1 _, h.2.2.2⟩
theorem wr_s0 {fin : Bool} {op z : Int} {l mk : List Int} (hm : mk.length = 0) (hn : l.length ≤ 125) (hz : z = sizeF 0 l.length) : [if fin = true then op + 128 else op, z] ++ l = wrL ⟨fin, op, l⟩ mk := by
  obtain rfl := List.eq_nil_of_length_eq_zero hm
  subst hz
  unfold wrL topF moreF
  simp [hn]
theorem wr_g0 {fin : Bool} {op z : Int} {l mk : List Int} (hm : mk.length = 0) (hn : 125 < l.length) (hz : z = sizeF 0 l.length) : [if fin = true then op + 128 else op, z] ++ [(l.length : Int) / 256, (l.length : Int) % 256] ++ l = wrL ⟨fin, op, l⟩ mk := by
  obtain rfl := List.eq_nil_of_length_eq_zero hm
  subst hz
  unfold wrL topF moreF
  simp [show ¬ l.length ≤ 125 by omega]
theorem wr_s4 {fin : Bool} {op z : Int} {l mk : List Int} (hm : mk.length = 4) (hn : l.length ≤ 125) (hz : z = sizeF 4 l.length) : [if fin = true then op + 128 else op, z] ++ mk ++ maskL mk l = wrL ⟨fin, op, l⟩ mk := by
  subst hz
  unfold wrL topF moreF
  simp [hn, hm]
theorem wr_g4 {fin : Bool} {op z : Int} {l mk : List Int} (hm : mk.length = 4) (hn : 125 < l.length) (hz : z = sizeF 4 l.length) : [if fin = true then op + 128 else op, z] ++ [(l.length : Int) / 256, (l.length : Int) % 256] ++ mk ++ maskL mk l = wrL ⟨fin, op, l⟩ mk := by
  subst hz
  unfold wrL topF moreF
  simp [show ¬ l.length ≤ 125 by omega, hm]
set_option maxHeartbeats 1600000 in
theorem WsWrite_no {n : Nat} (fin : Bool) (op : Int) (A : Option Addr) (c : Nat) (l : List Int) (A1 : Option Addr) (c1 : Nat) (mk : List Int) (w : World) (hr : Rd w A n l) (hc : n ≤ c) (hb : Bytes l) {m : Nat} (hs : n ≤ 140737488351232) (hm : mk.length = m) (hE : wrE ⟨fin, op, l⟩ m ≠ 0) :
    Calls Tryd.prog 19 #[.agg #[.bool fin, .int .i64 op, .slice A n c], .slice A1 m c1] w (WrPost ⟨fin, op, l⟩ mk w) := by
  have hlen := Kd.C_len hr
  subst hlen
  obtain ⟨gb, hgb⟩ : ∃ g, g = w.heap.size := ⟨_, rfl⟩
  obtain ⟨W0, hW0⟩ : ∃ W0, W0 = w.alloc (.cells #[.bool fin, .int .i64 op, .slice A l.length c] 26) := ⟨_, rfl⟩
  have hb0 : Below w.heap.size w W0 := by rw [hW0]; exact below_alloc (Below.refl _ _) _
  have hk0 : Whole W0 gb 26 #[.bool fin, .int .i64 op, .slice A l.length c] := by rw [hW0, hgb]; exact Whole.new w _ _
  have HS := Lib.hid (show gb = w.heap.size ∧ W0 = w.alloc _ from ⟨hgb, hW0⟩)
  have HI := Lib.hid (show Rd w A l.length l ∧ Bytes l ∧ Below w.heap.size w W0 ∧ Whole W0 gb 26 #[.bool fin, .int .i64 op, .slice A l.length c] ∧ l.length ≤ 140737488351232 ∧ l.length ≤ c from ⟨hr, hb, hb0, hk0, hs, hc⟩)
  have q0 := hk0.cell 0 _ rfl
  have q1 := hk0.cell 1 _ rfl
  have q2 := hk0.cell 2 _ rfl
  clear hr hb hb0 hk0 hgb hW0 hs hc
  have HM := Lib.hid hm
  clear hm
  by_cases h0 : m ≠ 0 ∧ m ≠ 4
  · have e0 : ((m : Int) != 0) = true := by unfold bne; rw [beq_eq_false_iff_ne.2 (by omega)]; rfl
    have e4 : ((m : Int) != 4) = true := by unfold bne; rw [beq_eq_false_iff_ne.2 (by omega)]; rfl
    have HV := Lib.hid (show wrE ⟨fin, op, l⟩ mk.length = 1 by rw [HM.out]; unfold wrE; rw [if_pos h0])
    clear h0 hE
    go_enter Tryd.func19, Tryd.ntmps19
    go_upto_region 1 with (fail)
    rw [← HS.out.1, ← HS.out.2]
    go_wp2
    go_ret2
    exact ⟨.slice none 0 0, by rw [HV.out]; rfl, by rw [HV.out]; exact Own.nil _ _, HI.out.2.2.1⟩
  · have hm4 : m = 0 ∨ m = 4 := by omega
    have hU : wrE ⟨fin, op, l⟩ m = if (!knownB op || (decide (8 ≤ op) && (!fin || decide (125 < l.length)))) = true then 90 else if 16384 < l.length then 4 else 0 := by unfold wrE; rw [if_neg h0]
    have HU := Lib.hid (show wrE ⟨fin, op, l⟩ mk.length = (if (!knownB op || (decide (8 ≤ op) && (!fin || decide (125 < l.length)))) = true then 90 else if 16384 < l.length then 4 else 0) by rw [HM.out]; exact hU)
    rw [hU] at hE
    clear hU h0
    have d125 : ∀ b, decide (125 < l.length) = b → decide (125 < (l.length : Int)) = b := fun b h => by rw [← h, decide_eq_decide]; omega
    cases hk : knownB op with
    | false =>
      have HK := Lib.hid hk
      have HV := Lib.hid (show wrE ⟨fin, op, l⟩ mk.length = 90 by rw [HU.out, hk]; rfl)
      clear hk hE d125
      rcases hm4 with rfl | rfl
      all_goals
        go_enter Tryd.func19, Tryd.ntmps19
        go_upto_region 1 with (fail)
        rw [← HS.out.1, ← HS.out.2]
        go_wp2_with fail
        refine (known_calls op _).mono ?_
        rintro e w' ⟨rfl, rfl⟩
        rw [HK.out]
        go_wp2
        go_ret2
        exact ⟨.slice none 0 0, by rw [HV.out]; rfl, by rw [HV.out]; exact Own.nil _ _, HI.out.2.2.1⟩
    | true =>
      have HK := Lib.hid hk
      rw [hk] at hE
      cases h8 : decide (8 ≤ op) with
      | true =>
        rw [h8] at hE
        cases fin with
        | false =>
          have HV := Lib.hid (show wrE ⟨false, op, l⟩ mk.length = 90 by rw [HU.out, hk, h8]; rfl)
          clear hk hE d125
          rcases hm4 with rfl | rfl
          all_goals
            go_enter Tryd.func19, Tryd.ntmps19
            go_upto_region 1 with (fail)
            rw [← HS.out.1, ← HS.out.2]
            go_wp2_with fail
            refine (known_calls op _).mono ?_
            rintro e w' ⟨rfl, rfl⟩
            rw [HK.out]
            go_wp2_with fail
            refine (control_calls op _).mono ?_
            rintro e w' ⟨rfl, rfl⟩
            go_wp2
            go_ret2
            exact ⟨.slice none 0 0, by rw [HV.out]; rfl, by rw [HV.out]; exact Own.nil _ _, HI.out.2.2.1⟩
        | true =>
          cases hl : decide (125 < l.length) with
          | true =>
            have e1 := d125 _ hl
            have HV := Lib.hid (show wrE ⟨true, op, l⟩ mk.length = 90 by rw [HU.out, hk, h8, hl]; rfl)
            clear hk hE d125
            rcases hm4 with rfl | rfl
            all_goals
              go_enter Tryd.func19, Tryd.ntmps19
              go_upto_region 1 with (fail)
              rw [← HS.out.1, ← HS.out.2]
              go_wp2_with fail
              refine (known_calls op _).mono ?_
              rintro e w' ⟨rfl, rfl⟩
              rw [HK.out]
              go_wp2_with fail
              refine (control_calls op _).mono ?_
              rintro e w' ⟨rfl, rfl⟩
              go_wp2
              go_ret2
              exact ⟨.slice none 0 0, by rw [HV.out]; rfl, by rw [HV.out]; exact Own.nil _ _, HI.out.2.2.1⟩
          | false =>
            exfalso
            apply hE
            rw [hl]
            rw [decide_eq_false_iff_not] at hl
            simp only [Bool.not_true, Bool.or_false, Bool.and_false, Bool.false_eq_true, if_false]
            rw [if_neg (by omega)]
      | false =>
        rw [h8] at hE
        have hbig : 16384 < l.length := by
          rcases Nat.lt_or_ge 16384 l.length with h | h
          · exact h
          · exfalso
            apply hE
            simp only [Bool.not_true, Bool.false_and, Bool.or_false, Bool.false_eq_true, if_false]
            rw [if_neg (by omega)]
        have e1 : decide (16384 < (l.length : Int)) = true := decide_eq_true (by omega)
        have e2 : decide (16384 < l.length) = true := decide_eq_true hbig
        have HV := Lib.hid (show wrE ⟨fin, op, l⟩ mk.length = 4 by rw [HU.out, hk, h8]; simp only [Bool.not_true, Bool.false_and, Bool.or_false, Bool.false_eq_true, if_false]; rw [if_pos hbig])
        clear hk hE d125 hbig
        rcases hm4 with rfl | rfl
        all_goals
          go_enter Tryd.func19, Tryd.ntmps19
          go_upto_region 1 with (fail)
          rw [← HS.out.1, ← HS.out.2]
          go_wp2_with fail
          refine (known_calls op _).mono ?_
          rintro e w' ⟨rfl, rfl⟩
          rw [HK.out]
          go_wp2_with fail
          refine (control_calls op _).mono ?_
          rintro e w' ⟨rfl, rfl⟩
          go_wp2
          go_ret2
          exact ⟨.slice none 0 0, by rw [HV.out]; rfl, by rw [HV.out]; exact Own.nil _ _, HI.out.2.2.1⟩
set_option maxRecDepth 20000 in
set_option maxHeartbeats 3200000 in
theorem WsWrite_0s {n : Nat} (fin : Bool) (op : Int) (A : Option Addr) (c : Nat) (l : List Int) (A1 : Option Addr) (c1 : Nat) (mk : List Int) (w : World) (hr : Rd w A n l) (hc : n ≤ c) (hb : Bytes l) (hs : n ≤ 140737488351232) (hrm : Rd w A1 0 mk) (hcm : 0 ≤ c1) (hE : wrE ⟨fin, op, l⟩ 0 = 0) (hn : n ≤ 125) :
    Calls Tryd.prog 19 #[.agg #[.bool fin, .int .i64 op, .slice A n c], .slice A1 0 c1] w (WrPost ⟨fin, op, l⟩ mk w) := by
  have hml := Kd.C_len hrm
  obtain ⟨_, hk, h8, hbig⟩ := wrE_ok hE
  simp only at hk h8 hbig
  have hop := known_cases hk
  have hlen := Kd.C_len hr
  subst hlen
  obtain ⟨gb, hgb⟩ : ∃ g, g = w.heap.size := ⟨_, rfl⟩
  obtain ⟨W0, hW0⟩ : ∃ W0, W0 = w.alloc (.cells #[.bool fin, .int .i64 op, .slice A l.length c] 26) := ⟨_, rfl⟩
  have hb0 : Below w.heap.size w W0 := by rw [hW0]; exact below_alloc (Below.refl _ _) _
  have hk0 : Whole W0 gb 26 #[.bool fin, .int .i64 op, .slice A l.length c] := by rw [hW0, hgb]; exact Whole.new w _ _
  have HS := Lib.hid (show gb = w.heap.size ∧ W0 = w.alloc _ from ⟨hgb, hW0⟩)
  have HI := Lib.hid (show Rd w A l.length l ∧ Bytes l ∧ Below w.heap.size w W0 ∧ Whole W0 gb 26 #[.bool fin, .int .i64 op, .slice A l.length c] ∧ l.length ≤ 140737488351232 ∧ l.length ≤ c from ⟨hr, hb, hb0, hk0, hs, hc⟩)
  have q0 := hk0.cell 0 _ rfl
  have q1 := hk0.cell 1 _ rfl
  have q2 := hk0.cell 2 _ rfl
  clear hr hb hb0 hk0 hgb hW0 hs hc
  have HK := Lib.hid hk
  have HM := Lib.hid (show mk.length = 0 ∧ wrE ⟨fin, op, l⟩ mk.length = 0 ∧ Rd w A1 0 mk ∧ 0 ≤ c1 from ⟨hml, by rw [hml]; exact hE, hrm, hcm⟩)
  clear hml hE hrm hcm hk
  have e16 : decide (16384 < (l.length : Int)) = false := decide_eq_false (by omega)
  have e16' : decide (16384 < l.length) = false := decide_eq_false (by omega)
  have e125 : decide (125 < (l.length : Int)) = false := decide_eq_false (by omega)
  have e125' : decide (125 < l.length) = false := decide_eq_false (by omega)
  have f125 : decide ((l.length : Int) ≤ 125) = true := decide_eq_true (by omega)
  have f125' : decide (l.length ≤ 125) = true := decide_eq_true (by omega)
  have wop : IntKind.u8.wrap op = op := by rw [IntKind.wrap_u8]; omega
  have hor : bits .or .u8 op 128 = op + 128 := (or_128 op (by omega)).1
  have wn : IntKind.u8.wrap (l.length : Int) = l.length := by rw [IntKind.wrap_u8]; omega
  have hnn : bits .or .u8 0 (l.length : Int) = l.length := (or_128 (l.length : Int) (by omega)).2.2
  have HSZ := Lib.hid (show (l.length : Int) = sizeF 0 l.length by unfold sizeF; rw [if_pos (by omega)]; omega)
  have HN := Lib.hid (show l.length ≤ 125 ∧ l.length ≤ 16384 from ⟨by omega, hbig⟩)
  clear hop
  obtain ⟨W1, hW1⟩ : ∃ W1, W1 = W0.alloc (.cells #[.int .u8 op, .int .u8 0] 5) := ⟨_, rfl⟩
  obtain ⟨g, hg⟩ : ∃ g, g = W0.heap.size := ⟨_, rfl⟩
  have HW1 := Lib.hid (show g = W0.heap.size ∧ W1 = W0.alloc _ from ⟨hg, hW1⟩)
  have HAT := Lib.hid (show WrAt w W1 gb g fin op A l.length c op 0 from ⟨by rw [hW1, hg]; exact lit_two HI.out.2.2.1 op 0, HI.out.2.2.2.1.below (by rw [hW1]; exact below_alloc (Below.refl _ _) _) HI.out.2.2.2.1.lt, below_step HI.out.2.2.1 (by rw [hW1]; exact below_alloc (Below.refl _ _) _), by rw [hg]; exact HI.out.2.2.1.size, by have := HI.out.2.2.2.1.lt; omega⟩)
  clear hW1 hg
  cases h8c : decide (8 ≤ op) with
  | true =>
    obtain ⟨hfin, hsm⟩ := h8 (of_decide_eq_true h8c)
    subst hfin
    clear h8 hsm hn hbig
    go_enter Tryd.func19, Tryd.ntmps19
    go_upto_region 1 with (fail)
    rw [← HS.out.1, ← HS.out.2]
    go_wp2_with fail
    refine (known_calls op _).mono ?_
    rintro e w' ⟨rfl, rfl⟩
    rw [HK.out]
    go_wp2_with fail
    refine (control_calls op _).mono ?_
    rintro e w' ⟨rfl, rfl⟩
    go_upto_region 9 with (fail)
    rw [← HW1.out.1, ← HW1.out.2]
    clear q0 q1 q2
    have q0 := HAT.out.2.1.cell 0 _ rfl
    have q1 := HAT.out.2.1.cell 1 _ rfl
    have q2 := HAT.out.2.1.cell 2 _ rfl
    obtain ⟨z0, y0⟩ := Own.cell HAT.out.1 0 (by decide)
    obtain ⟨z1, y1⟩ := Own.cell HAT.out.1 1 (by decide)
    simp only [rd, Int.toNat_natCast, List.getD_cons_zero, List.getD_cons_succ] at z0 z1
    go_upto_region 11 with (fail)
    have HX1 := Lib.hid (HAT.out.set0 (op + 128))
    generalize W1.setCell ⟨g, 0, none⟩ (.int .u8 (op + 128)) = X1 at HX1 ⊢
    clear z0 y0 z1 y1 q0 q1 q2 HAT
    have q0 := HX1.out.2.1.cell 0 _ rfl
    have q1 := HX1.out.2.1.cell 1 _ rfl
    have q2 := HX1.out.2.1.cell 2 _ rfl
    obtain ⟨z0, y0⟩ := Own.cell HX1.out.1 0 (by decide)
    obtain ⟨z1, y1⟩ := Own.cell HX1.out.1 1 (by decide)
    simp only [rd, Int.toNat_natCast, List.getD_cons_zero, List.getD_cons_succ] at z0 z1
    go_upto_region 17 with (fail)
    have HX2 := Lib.hid (HX1.out.set1 ((l.length : Int)))
    generalize X1.setCell ⟨g, 1, none⟩ (.int .u8 ((l.length : Int))) = X2 at HX2 ⊢
    clear z0 y0 z1 y1 q0 q1 q2 HX1
    have q0 := HX2.out.2.1.cell 0 _ rfl
    have q1 := HX2.out.2.1.cell 1 _ rfl
    have q2 := HX2.out.2.1.cell 2 _ rfl
    obtain ⟨z0, y0⟩ := Own.cell HX2.out.1 0 (by decide)
    obtain ⟨z1, y1⟩ := Own.cell HX2.out.1 1 (by decide)
    simp only [rd, Int.toNat_natCast, List.getD_cons_zero, List.getD_cons_succ] at z0 z1
    have HY := Lib.hid (show Own w X2 (.slice (some ⟨g, 0, none⟩) 2 2) [op + 128, (l.length : Int)] ∧ Below w.heap.size w X2 ∧ Whole X2 gb 26 #[.bool true, .int .i64 op, .slice A l.length c] ∧ gb ≠ g from ⟨HX2.out.1, HX2.out.2.2.1, HX2.out.2.1, fun e => HX2.out.2.2.2.2 e.symm⟩)
    clear z0 y0 z1 y1 q0 q1
    go_wp2_with (at_builtin; refine app_row HY.out.1 (Kd.C_below HI.out.1 HY.out.2.1) HY.out.2.1 (by have := HI.out; simp only [List.length_cons, List.length_nil]; omega) rfl rfl rfl rfl ?_)
    intro v7 w7 ho7 hb7 _ _
    go_wp2
    go_ret2
    exact ⟨_, by rw [HM.out.2.1]; rfl, ho7.cast (by rw [if_pos HM.out.2.1]; exact wr_s0 (fin := true) (op := op) HM.out.1 HN.out.1 HSZ.out), hb7⟩
  | false =>
    clear h8 hn hbig
    cases fin with
    | true =>
      go_enter Tryd.func19, Tryd.ntmps19
      go_upto_region 1 with (fail)
      rw [← HS.out.1, ← HS.out.2]
      go_wp2_with fail
      refine (known_calls op _).mono ?_
      rintro e w' ⟨rfl, rfl⟩
      rw [HK.out]
      go_wp2_with fail
      refine (control_calls op _).mono ?_
      rintro e w' ⟨rfl, rfl⟩
      go_upto_region 9 with (fail)
      rw [← HW1.out.1, ← HW1.out.2]
      clear q0 q1 q2
      have q0 := HAT.out.2.1.cell 0 _ rfl
      have q1 := HAT.out.2.1.cell 1 _ rfl
      have q2 := HAT.out.2.1.cell 2 _ rfl
      obtain ⟨z0, y0⟩ := Own.cell HAT.out.1 0 (by decide)
      obtain ⟨z1, y1⟩ := Own.cell HAT.out.1 1 (by decide)
      simp only [rd, Int.toNat_natCast, List.getD_cons_zero, List.getD_cons_succ] at z0 z1
      go_upto_region 11 with (fail)
      have HX1 := Lib.hid (HAT.out.set0 (op + 128))
      generalize W1.setCell ⟨g, 0, none⟩ (.int .u8 (op + 128)) = X1 at HX1 ⊢
      clear z0 y0 z1 y1 q0 q1 q2 HAT
      have q0 := HX1.out.2.1.cell 0 _ rfl
      have q1 := HX1.out.2.1.cell 1 _ rfl
      have q2 := HX1.out.2.1.cell 2 _ rfl
      obtain ⟨z0, y0⟩ := Own.cell HX1.out.1 0 (by decide)
      obtain ⟨z1, y1⟩ := Own.cell HX1.out.1 1 (by decide)
      simp only [rd, Int.toNat_natCast, List.getD_cons_zero, List.getD_cons_succ] at z0 z1
      go_upto_region 17 with (fail)
      have HX2 := Lib.hid (HX1.out.set1 ((l.length : Int)))
      generalize X1.setCell ⟨g, 1, none⟩ (.int .u8 ((l.length : Int))) = X2 at HX2 ⊢
      clear z0 y0 z1 y1 q0 q1 q2 HX1
      have q0 := HX2.out.2.1.cell 0 _ rfl
      have q1 := HX2.out.2.1.cell 1 _ rfl
      have q2 := HX2.out.2.1.cell 2 _ rfl
      obtain ⟨z0, y0⟩ := Own.cell HX2.out.1 0 (by decide)
      obtain ⟨z1, y1⟩ := Own.cell HX2.out.1 1 (by decide)
      simp only [rd, Int.toNat_natCast, List.getD_cons_zero, List.getD_cons_succ] at z0 z1
      have HY := Lib.hid (show Own w X2 (.slice (some ⟨g, 0, none⟩) 2 2) [op + 128, (l.length : Int)] ∧ Below w.heap.size w X2 ∧ Whole X2 gb 26 #[.bool true, .int .i64 op, .slice A l.length c] ∧ gb ≠ g from ⟨HX2.out.1, HX2.out.2.2.1, HX2.out.2.1, fun e => HX2.out.2.2.2.2 e.symm⟩)
      clear z0 y0 z1 y1 q0 q1
      go_wp2_with (at_builtin; refine app_row HY.out.1 (Kd.C_below HI.out.1 HY.out.2.1) HY.out.2.1 (by have := HI.out; simp only [List.length_cons, List.length_nil]; omega) rfl rfl rfl rfl ?_)
      intro v7 w7 ho7 hb7 _ _
      go_wp2
      go_ret2
      exact ⟨_, by rw [HM.out.2.1]; rfl, ho7.cast (by rw [if_pos HM.out.2.1]; exact wr_s0 (fin := true) (op := op) HM.out.1 HN.out.1 HSZ.out), hb7⟩
    | false =>
      go_enter Tryd.func19, Tryd.ntmps19
      go_upto_region 1 with (fail)
      rw [← HS.out.1, ← HS.out.2]
      go_wp2_with fail
      refine (known_calls op _).mono ?_
      rintro e w' ⟨rfl, rfl⟩
      rw [HK.out]
      go_wp2_with fail
      refine (control_calls op _).mono ?_
      rintro e w' ⟨rfl, rfl⟩
      go_upto_region 9 with (fail)
      rw [← HW1.out.1, ← HW1.out.2]
      clear q0 q1 q2
      have q0 := HAT.out.2.1.cell 0 _ rfl
      have q1 := HAT.out.2.1.cell 1 _ rfl
      have q2 := HAT.out.2.1.cell 2 _ rfl
      obtain ⟨z0, y0⟩ := Own.cell HAT.out.1 0 (by decide)
      obtain ⟨z1, y1⟩ := Own.cell HAT.out.1 1 (by decide)
      simp only [rd, Int.toNat_natCast, List.getD_cons_zero, List.getD_cons_succ] at z0 z1
      go_upto_region 17 with (fail)
      have HX1 := Lib.hid (HAT.out.set1 ((l.length : Int)))
      generalize W1.setCell ⟨g, 1, none⟩ (.int .u8 ((l.length : Int))) = X1 at HX1 ⊢
      clear z0 y0 z1 y1 q0 q1 q2 HAT
      have q0 := HX1.out.2.1.cell 0 _ rfl
      have q1 := HX1.out.2.1.cell 1 _ rfl
      have q2 := HX1.out.2.1.cell 2 _ rfl
      obtain ⟨z0, y0⟩ := Own.cell HX1.out.1 0 (by decide)
      obtain ⟨z1, y1⟩ := Own.cell HX1.out.1 1 (by decide)
      simp only [rd, Int.toNat_natCast, List.getD_cons_zero, List.getD_cons_succ] at z0 z1
      have HY := Lib.hid (show Own w X1 (.slice (some ⟨g, 0, none⟩) 2 2) [op, (l.length : Int)] ∧ Below w.heap.size w X1 ∧ Whole X1 gb 26 #[.bool false, .int .i64 op, .slice A l.length c] ∧ gb ≠ g from ⟨HX1.out.1, HX1.out.2.2.1, HX1.out.2.1, fun e => HX1.out.2.2.2.2 e.symm⟩)
      clear z0 y0 z1 y1 q0 q1
      go_wp2_with (at_builtin; refine app_row HY.out.1 (Kd.C_below HI.out.1 HY.out.2.1) HY.out.2.1 (by have := HI.out; simp only [List.length_cons, List.length_nil]; omega) rfl rfl rfl rfl ?_)
      intro v7 w7 ho7 hb7 _ _
      go_wp2
      go_ret2
      exact ⟨_, by rw [HM.out.2.1]; rfl, ho7.cast (by rw [if_pos HM.out.2.1]; exact wr_s0 (fin := false) (op := op) HM.out.1 HN.out.1 HSZ.out), hb7⟩
set_option maxRecDepth 20000 in
set_option maxHeartbeats 3200000 in
theorem WsWrite_0g {n : Nat} (fin : Bool) (op : Int) (A : Option Addr) (c : Nat) (l : List Int) (A1 : Option Addr) (c1 : Nat) (mk : List Int) (w : World) (hr : Rd w A n l) (hc : n ≤ c) (hb : Bytes l) (hs : n ≤ 140737488351232) (hrm : Rd w A1 0 mk) (hcm : 0 ≤ c1) (hE : wrE ⟨fin, op, l⟩ 0 = 0) (hn : 125 < n) :
    Calls Tryd.prog 19 #[.agg #[.bool fin, .int .i64 op, .slice A n c], .slice A1 0 c1] w (WrPost ⟨fin, op, l⟩ mk w) := by
  have hml := Kd.C_len hrm
  obtain ⟨_, hk, h8, hbig⟩ := wrE_ok hE
  simp only at hk h8 hbig
  have hop := known_cases hk
  have hlen := Kd.C_len hr
  subst hlen
  obtain ⟨gb, hgb⟩ : ∃ g, g = w.heap.size := ⟨_, rfl⟩
  obtain ⟨W0, hW0⟩ : ∃ W0, W0 = w.alloc (.cells #[.bool fin, .int .i64 op, .slice A l.length c] 26) := ⟨_, rfl⟩
  have hb0 : Below w.heap.size w W0 := by rw [hW0]; exact below_alloc (Below.refl _ _) _
  have hk0 : Whole W0 gb 26 #[.bool fin, .int .i64 op, .slice A l.length c] := by rw [hW0, hgb]; exact Whole.new w _ _
  have HS := Lib.hid (show gb = w.heap.size ∧ W0 = w.alloc _ from ⟨hgb, hW0⟩)
  have HI := Lib.hid (show Rd w A l.length l ∧ Bytes l ∧ Below w.heap.size w W0 ∧ Whole W0 gb 26 #[.bool fin, .int .i64 op, .slice A l.length c] ∧ l.length ≤ 140737488351232 ∧ l.length ≤ c from ⟨hr, hb, hb0, hk0, hs, hc⟩)
  have q0 := hk0.cell 0 _ rfl
  have q1 := hk0.cell 1 _ rfl
  have q2 := hk0.cell 2 _ rfl
  clear hr hb hb0 hk0 hgb hW0 hs hc
  have HK := Lib.hid hk
  have HM := Lib.hid (show mk.length = 0 ∧ wrE ⟨fin, op, l⟩ mk.length = 0 ∧ Rd w A1 0 mk ∧ 0 ≤ c1 from ⟨hml, by rw [hml]; exact hE, hrm, hcm⟩)
  clear hml hE hrm hcm hk
  have e16 : decide (16384 < (l.length : Int)) = false := decide_eq_false (by omega)
  have e16' : decide (16384 < l.length) = false := decide_eq_false (by omega)
  have e125 : decide (125 < (l.length : Int)) = true := decide_eq_true (by omega)
  have e125' : decide (125 < l.length) = true := decide_eq_true (by omega)
  have f125 : decide ((l.length : Int) ≤ 125) = false := decide_eq_false (by omega)
  have f125' : decide (l.length ≤ 125) = false := decide_eq_false (by omega)
  have wop : IntKind.u8.wrap op = op := by rw [IntKind.wrap_u8]; omega
  have hor : bits .or .u8 op 128 = op + 128 := (or_128 op (by omega)).1
  have hnn : bits .or .u8 0 126 = 126 := by decide
  have wn1 : IntKind.u8.wrap ((l.length : Int) / 256) = (l.length : Int) / 256 := by rw [IntKind.wrap_u8]; omega
  have wn2 : IntKind.u8.wrap (l.length : Int) = (l.length : Int) % 256 := by rw [IntKind.wrap_u8]
  have HSZ := Lib.hid (show (126 : Int) = sizeF 0 l.length by unfold sizeF; rw [if_neg (by omega)]; rfl)
  have HN := Lib.hid (show 125 < l.length ∧ l.length ≤ 16384 from ⟨by omega, hbig⟩)
  clear hop
  obtain ⟨W1, hW1⟩ : ∃ W1, W1 = W0.alloc (.cells #[.int .u8 op, .int .u8 0] 5) := ⟨_, rfl⟩
  obtain ⟨g, hg⟩ : ∃ g, g = W0.heap.size := ⟨_, rfl⟩
  have HW1 := Lib.hid (show g = W0.heap.size ∧ W1 = W0.alloc _ from ⟨hg, hW1⟩)
  have HAT := Lib.hid (show WrAt w W1 gb g fin op A l.length c op 0 from ⟨by rw [hW1, hg]; exact lit_two HI.out.2.2.1 op 0, HI.out.2.2.2.1.below (by rw [hW1]; exact below_alloc (Below.refl _ _) _) HI.out.2.2.2.1.lt, below_step HI.out.2.2.1 (by rw [hW1]; exact below_alloc (Below.refl _ _) _), by rw [hg]; exact HI.out.2.2.1.size, by have := HI.out.2.2.2.1.lt; omega⟩)
  clear hW1 hg
  cases h8c : decide (8 ≤ op) with
  | true =>
    obtain ⟨hfin, hsm⟩ := h8 (of_decide_eq_true h8c)
    omega
  | false =>
    clear h8 hn hbig
    cases fin with
    | true =>
      go_enter Tryd.func19, Tryd.ntmps19
      go_upto_region 1 with (fail)
      rw [← HS.out.1, ← HS.out.2]
      go_wp2_with fail
      refine (known_calls op _).mono ?_
      rintro e w' ⟨rfl, rfl⟩
      rw [HK.out]
      go_wp2_with fail
      refine (control_calls op _).mono ?_
      rintro e w' ⟨rfl, rfl⟩
      go_upto_region 9 with (fail)
      rw [← HW1.out.1, ← HW1.out.2]
      clear q0 q1 q2
      have q0 := HAT.out.2.1.cell 0 _ rfl
      have q1 := HAT.out.2.1.cell 1 _ rfl
      have q2 := HAT.out.2.1.cell 2 _ rfl
      obtain ⟨z0, y0⟩ := Own.cell HAT.out.1 0 (by decide)
      obtain ⟨z1, y1⟩ := Own.cell HAT.out.1 1 (by decide)
      simp only [rd, Int.toNat_natCast, List.getD_cons_zero, List.getD_cons_succ] at z0 z1
      go_upto_region 11 with (fail)
      have HX1 := Lib.hid (HAT.out.set0 (op + 128))
      generalize W1.setCell ⟨g, 0, none⟩ (.int .u8 (op + 128)) = X1 at HX1 ⊢
      clear z0 y0 z1 y1 q0 q1 q2 HAT
      have q0 := HX1.out.2.1.cell 0 _ rfl
      have q1 := HX1.out.2.1.cell 1 _ rfl
      have q2 := HX1.out.2.1.cell 2 _ rfl
      obtain ⟨z0, y0⟩ := Own.cell HX1.out.1 0 (by decide)
      obtain ⟨z1, y1⟩ := Own.cell HX1.out.1 1 (by decide)
      simp only [rd, Int.toNat_natCast, List.getD_cons_zero, List.getD_cons_succ] at z0 z1
      go_upto_region 16 with (fail)
      have HX2 := Lib.hid (HX1.out.set1 (126))
      generalize X1.setCell ⟨g, 1, none⟩ (.int .u8 (126)) = X2 at HX2 ⊢
      clear z0 y0 z1 y1 q0 q1 q2 HX1
      have q0 := HX2.out.2.1.cell 0 _ rfl
      have q1 := HX2.out.2.1.cell 1 _ rfl
      have q2 := HX2.out.2.1.cell 2 _ rfl
      obtain ⟨z0, y0⟩ := Own.cell HX2.out.1 0 (by decide)
      obtain ⟨z1, y1⟩ := Own.cell HX2.out.1 1 (by decide)
      simp only [rd, Int.toNat_natCast, List.getD_cons_zero, List.getD_cons_succ] at z0 z1
      go_wp2_with (at_builtin; refine app_row (Kd.R_alloc HX2.out.1 _) (C_const _ 5 [(l.length : Int) / 256, (l.length : Int) % 256] (0, 0) (by simp)) (below_alloc HX2.out.2.2.1 _) (by simp) rfl rfl rfl rfl ?_)
      intro v5 w5 ho5 hb5 hg5 hat5
      have hk5 := ((HX2.out.2.1.below (below_alloc (Below.refl _ _) _) HX2.out.2.1.lt).grown hg5 (by have := HX2.out.2.2.2.2; simp [Value.ownBlock]; omega))
      have hng : some gb ≠ (Value.slice (some ⟨g, 0, none⟩) 2 2).ownBlock := fun e => HX2.out.2.2.2.2 (by injection e with e; exact e.symm)
      have hne5 : some gb ≠ v5.ownBlock := by
        refine ne_after hat5 hng ?_
        have := HX2.out.2.1.lt
        omega
      clear hng
      obtain ⟨G, c5, rfl, _⟩ := ho5.form (by simp)
      have HY := Lib.hid (show Own w w5 (.slice (some ⟨G, 0, none⟩) ([op + 128, 126] ++ [(l.length : Int) / 256, (l.length : Int) % 256]).length c5) ([op + 128, 126] ++ [(l.length : Int) / 256, (l.length : Int) % 256]) ∧ Below w.heap.size w w5 ∧ Whole w5 gb 26 #[.bool true, .int .i64 op, .slice A l.length c] ∧ gb ≠ G from ⟨ho5, hb5, hk5, fun e => hne5 (by rw [e]; rfl)⟩)
      clear ho5 hb5 hg5 hk5 hat5 hne5 z0 y0 z1 y1 q0 q1 q2
      have q2 := HY.out.2.2.1.cell 2 _ rfl
      go_wp2_with (at_builtin; refine app_row HY.out.1 (Kd.C_below HI.out.1 HY.out.2.1) HY.out.2.1 (by have := HI.out; simp only [List.length_append, List.length_cons, List.length_nil]; omega) rfl rfl rfl rfl ?_)
      intro v7 w7 ho7 hb7 _ _
      go_wp2
      go_ret2
      exact ⟨_, by rw [HM.out.2.1]; rfl, ho7.cast (by rw [if_pos HM.out.2.1]; exact wr_g0 (fin := true) (op := op) HM.out.1 HN.out.1 HSZ.out), hb7⟩
    | false =>
      go_enter Tryd.func19, Tryd.ntmps19
      go_upto_region 1 with (fail)
      rw [← HS.out.1, ← HS.out.2]
      go_wp2_with fail
      refine (known_calls op _).mono ?_
      rintro e w' ⟨rfl, rfl⟩
      rw [HK.out]
      go_wp2_with fail
      refine (control_calls op _).mono ?_
      rintro e w' ⟨rfl, rfl⟩
      go_upto_region 9 with (fail)
      rw [← HW1.out.1, ← HW1.out.2]
      clear q0 q1 q2
      have q0 := HAT.out.2.1.cell 0 _ rfl
      have q1 := HAT.out.2.1.cell 1 _ rfl
      have q2 := HAT.out.2.1.cell 2 _ rfl
      obtain ⟨z0, y0⟩ := Own.cell HAT.out.1 0 (by decide)
      obtain ⟨z1, y1⟩ := Own.cell HAT.out.1 1 (by decide)
      simp only [rd, Int.toNat_natCast, List.getD_cons_zero, List.getD_cons_succ] at z0 z1
      go_upto_region 16 with (fail)
      have HX1 := Lib.hid (HAT.out.set1 (126))
      generalize W1.setCell ⟨g, 1, none⟩ (.int .u8 (126)) = X1 at HX1 ⊢
      clear z0 y0 z1 y1 q0 q1 q2 HAT
      have q0 := HX1.out.2.1.cell 0 _ rfl
      have q1 := HX1.out.2.1.cell 1 _ rfl
      have q2 := HX1.out.2.1.cell 2 _ rfl
      obtain ⟨z0, y0⟩ := Own.cell HX1.out.1 0 (by decide)
      obtain ⟨z1, y1⟩ := Own.cell HX1.out.1 1 (by decide)
      simp only [rd, Int.toNat_natCast, List.getD_cons_zero, List.getD_cons_succ] at z0 z1
      go_wp2_with (at_builtin; refine app_row (Kd.R_alloc HX1.out.1 _) (C_const _ 5 [(l.length : Int) / 256, (l.length : Int) % 256] (0, 0) (by simp)) (below_alloc HX1.out.2.2.1 _) (by simp) rfl rfl rfl rfl ?_)
      intro v5 w5 ho5 hb5 hg5 hat5
      have hk5 := ((HX1.out.2.1.below (below_alloc (Below.refl _ _) _) HX1.out.2.1.lt).grown hg5 (by have := HX1.out.2.2.2.2; simp [Value.ownBlock]; omega))
      have hng : some gb ≠ (Value.slice (some ⟨g, 0, none⟩) 2 2).ownBlock := fun e => HX1.out.2.2.2.2 (by injection e with e; exact e.symm)
      have hne5 : some gb ≠ v5.ownBlock := by
        refine ne_after hat5 hng ?_
        have := HX1.out.2.1.lt
        omega
      clear hng
      obtain ⟨G, c5, rfl, _⟩ := ho5.form (by simp)
      have HY := Lib.hid (show Own w w5 (.slice (some ⟨G, 0, none⟩) ([op, 126] ++ [(l.length : Int) / 256, (l.length : Int) % 256]).length c5) ([op, 126] ++ [(l.length : Int) / 256, (l.length : Int) % 256]) ∧ Below w.heap.size w w5 ∧ Whole w5 gb 26 #[.bool false, .int .i64 op, .slice A l.length c] ∧ gb ≠ G from ⟨ho5, hb5, hk5, fun e => hne5 (by rw [e]; rfl)⟩)
      clear ho5 hb5 hg5 hk5 hat5 hne5 z0 y0 z1 y1 q0 q1 q2
      have q2 := HY.out.2.2.1.cell 2 _ rfl
      go_wp2_with (at_builtin; refine app_row HY.out.1 (Kd.C_below HI.out.1 HY.out.2.1) HY.out.2.1 (by have := HI.out; simp only [List.length_append, List.length_cons, List.length_nil]; omega) rfl rfl rfl rfl ?_)
      intro v7 w7 ho7 hb7 _ _
      go_wp2
      go_ret2
      exact ⟨_, by rw [HM.out.2.1]; rfl, ho7.cast (by rw [if_pos HM.out.2.1]; exact wr_g0 (fin := false) (op := op) HM.out.1 HN.out.1 HSZ.out), hb7⟩
set_option maxRecDepth 20000 in
set_option maxHeartbeats 3200000 in
theorem WsWrite_4s {n : Nat} (fin : Bool) (op : Int) (A : Option Addr) (c : Nat) (l : List Int) (A1 : Option Addr) (c1 : Nat) (mk : List Int) (w : World) (hr : Rd w A n l) (hc : n ≤ c) (hb : Bytes l) (hs : n ≤ 140737488351232) (hrm : Rd w A1 4 mk) (hcm : 4 ≤ c1) (hE : wrE ⟨fin, op, l⟩ 4 = 0) (hn : n ≤ 125) :
    Calls Tryd.prog 19 #[.agg #[.bool fin, .int .i64 op, .slice A n c], .slice A1 4 c1] w (WrPost ⟨fin, op, l⟩ mk w) := by
  have hml := Kd.C_len hrm
  obtain ⟨_, hk, h8, hbig⟩ := wrE_ok hE
  simp only at hk h8 hbig
  have hop := known_cases hk
  have hlen := Kd.C_len hr
  subst hlen
  obtain ⟨gb, hgb⟩ : ∃ g, g = w.heap.size := ⟨_, rfl⟩
  obtain ⟨W0, hW0⟩ : ∃ W0, W0 = w.alloc (.cells #[.bool fin, .int .i64 op, .slice A l.length c] 26) := ⟨_, rfl⟩
  have hb0 : Below w.heap.size w W0 := by rw [hW0]; exact below_alloc (Below.refl _ _) _
  have hk0 : Whole W0 gb 26 #[.bool fin, .int .i64 op, .slice A l.length c] := by rw [hW0, hgb]; exact Whole.new w _ _
  have HS := Lib.hid (show gb = w.heap.size ∧ W0 = w.alloc _ from ⟨hgb, hW0⟩)
  have HI := Lib.hid (show Rd w A l.length l ∧ Bytes l ∧ Below w.heap.size w W0 ∧ Whole W0 gb 26 #[.bool fin, .int .i64 op, .slice A l.length c] ∧ l.length ≤ 140737488351232 ∧ l.length ≤ c from ⟨hr, hb, hb0, hk0, hs, hc⟩)
  have q0 := hk0.cell 0 _ rfl
  have q1 := hk0.cell 1 _ rfl
  have q2 := hk0.cell 2 _ rfl
  clear hr hb hb0 hk0 hgb hW0 hs hc
  have HK := Lib.hid hk
  have HM := Lib.hid (show mk.length = 4 ∧ wrE ⟨fin, op, l⟩ mk.length = 0 ∧ Rd w A1 4 mk ∧ 4 ≤ c1 from ⟨hml, by rw [hml]; exact hE, hrm, hcm⟩)
  clear hml hE hrm hcm hk
  have e16 : decide (16384 < (l.length : Int)) = false := decide_eq_false (by omega)
  have e16' : decide (16384 < l.length) = false := decide_eq_false (by omega)
  have e125 : decide (125 < (l.length : Int)) = false := decide_eq_false (by omega)
  have e125' : decide (125 < l.length) = false := decide_eq_false (by omega)
  have f125 : decide ((l.length : Int) ≤ 125) = true := decide_eq_true (by omega)
  have f125' : decide (l.length ≤ 125) = true := decide_eq_true (by omega)
  have wop : IntKind.u8.wrap op = op := by rw [IntKind.wrap_u8]; omega
  have hor : bits .or .u8 op 128 = op + 128 := (or_128 op (by omega)).1
  have wn : IntKind.u8.wrap (l.length : Int) = l.length := by rw [IntKind.wrap_u8]; omega
  have hnn : bits .or .u8 128 (l.length : Int) = (l.length : Int) + 128 := (or_128 (l.length : Int) (by omega)).2.1
  have HSZ := Lib.hid (show (l.length : Int) + 128 = sizeF 4 l.length by unfold sizeF; rw [if_pos (by omega)]; rfl)
  have HN := Lib.hid (show l.length ≤ 125 ∧ l.length ≤ 16384 from ⟨by omega, hbig⟩)
  clear hop
  obtain ⟨W1, hW1⟩ : ∃ W1, W1 = W0.alloc (.cells #[.int .u8 op, .int .u8 0] 5) := ⟨_, rfl⟩
  obtain ⟨g, hg⟩ : ∃ g, g = W0.heap.size := ⟨_, rfl⟩
  have HW1 := Lib.hid (show g = W0.heap.size ∧ W1 = W0.alloc _ from ⟨hg, hW1⟩)
  have HAT := Lib.hid (show WrAt w W1 gb g fin op A l.length c op 0 from ⟨by rw [hW1, hg]; exact lit_two HI.out.2.2.1 op 0, HI.out.2.2.2.1.below (by rw [hW1]; exact below_alloc (Below.refl _ _) _) HI.out.2.2.2.1.lt, below_step HI.out.2.2.1 (by rw [hW1]; exact below_alloc (Below.refl _ _) _), by rw [hg]; exact HI.out.2.2.1.size, by have := HI.out.2.2.2.1.lt; omega⟩)
  clear hW1 hg
  cases h8c : decide (8 ≤ op) with
  | true =>
    obtain ⟨hfin, hsm⟩ := h8 (of_decide_eq_true h8c)
    subst hfin
    clear h8 hsm hn hbig
    go_enter Tryd.func19, Tryd.ntmps19
    go_upto_region 1 with (fail)
    rw [← HS.out.1, ← HS.out.2]
    go_wp2_with fail
    refine (known_calls op _).mono ?_
    rintro e w' ⟨rfl, rfl⟩
    rw [HK.out]
    go_wp2_with fail
    refine (control_calls op _).mono ?_
    rintro e w' ⟨rfl, rfl⟩
    go_upto_region 9 with (fail)
    rw [← HW1.out.1, ← HW1.out.2]
    clear q0 q1 q2
    have q0 := HAT.out.2.1.cell 0 _ rfl
    have q1 := HAT.out.2.1.cell 1 _ rfl
    have q2 := HAT.out.2.1.cell 2 _ rfl
    obtain ⟨z0, y0⟩ := Own.cell HAT.out.1 0 (by decide)
    obtain ⟨z1, y1⟩ := Own.cell HAT.out.1 1 (by decide)
    simp only [rd, Int.toNat_natCast, List.getD_cons_zero, List.getD_cons_succ] at z0 z1
    go_upto_region 11 with (fail)
    have HX1 := Lib.hid (HAT.out.set0 (op + 128))
    generalize W1.setCell ⟨g, 0, none⟩ (.int .u8 (op + 128)) = X1 at HX1 ⊢
    clear z0 y0 z1 y1 q0 q1 q2 HAT
    have q0 := HX1.out.2.1.cell 0 _ rfl
    have q1 := HX1.out.2.1.cell 1 _ rfl
    have q2 := HX1.out.2.1.cell 2 _ rfl
    obtain ⟨z0, y0⟩ := Own.cell HX1.out.1 0 (by decide)
    obtain ⟨z1, y1⟩ := Own.cell HX1.out.1 1 (by decide)
    simp only [rd, Int.toNat_natCast, List.getD_cons_zero, List.getD_cons_succ] at z0 z1
    go_upto_region 13 with (fail)
    have HX2 := Lib.hid (HX1.out.set1 (128))
    generalize X1.setCell ⟨g, 1, none⟩ (.int .u8 (128)) = X2 at HX2 ⊢
    clear z0 y0 z1 y1 q0 q1 q2 HX1
    have q0 := HX2.out.2.1.cell 0 _ rfl
    have q1 := HX2.out.2.1.cell 1 _ rfl
    have q2 := HX2.out.2.1.cell 2 _ rfl
    obtain ⟨z0, y0⟩ := Own.cell HX2.out.1 0 (by decide)
    obtain ⟨z1, y1⟩ := Own.cell HX2.out.1 1 (by decide)
    simp only [rd, Int.toNat_natCast, List.getD_cons_zero, List.getD_cons_succ] at z0 z1
    go_upto_region 17 with (fail)
    have HX3 := Lib.hid (HX2.out.set1 ((l.length : Int) + 128))
    generalize X2.setCell ⟨g, 1, none⟩ (.int .u8 ((l.length : Int) + 128)) = X3 at HX3 ⊢
    clear z0 y0 z1 y1 q0 q1 q2 HX2
    have q0 := HX3.out.2.1.cell 0 _ rfl
    have q1 := HX3.out.2.1.cell 1 _ rfl
    have q2 := HX3.out.2.1.cell 2 _ rfl
    obtain ⟨z0, y0⟩ := Own.cell HX3.out.1 0 (by decide)
    obtain ⟨z1, y1⟩ := Own.cell HX3.out.1 1 (by decide)
    simp only [rd, Int.toNat_natCast, List.getD_cons_zero, List.getD_cons_succ] at z0 z1
    have HY := Lib.hid (show Own w X3 (.slice (some ⟨g, 0, none⟩) 2 2) [op + 128, (l.length : Int) + 128] ∧ Below w.heap.size w X3 ∧ Whole X3 gb 26 #[.bool true, .int .i64 op, .slice A l.length c] ∧ gb ≠ g from ⟨HX3.out.1, HX3.out.2.2.1, HX3.out.2.1, fun e => HX3.out.2.2.2.2 e.symm⟩)
    clear z0 y0 z1 y1 q0 q1
    have HD := Lib.hid (show Own w X3.drew (.slice (some ⟨g, 0, none⟩) 2 2) [op + 128, (l.length : Int) + 128] ∧ Below w.heap.size w X3.drew ∧ Whole X3.drew gb 26 #[.bool true, .int .i64 op, .slice A l.length c] from ⟨HY.out.1.below (below_drew (Below.refl _ _)), below_drew HY.out.2.1, HY.out.2.2.1.below (below_drew (Below.refl _ _)) HY.out.2.2.1.lt⟩)
    have HNE := Lib.hid (show gb ≠ g from HY.out.2.2.2)
    have hlim : [op + 128, (l.length : Int) + 128].length + 4 ≤ 140737488355328 := by simp
    have hlim2 : ([op + 128, (l.length : Int) + 128] ++ mk).length + (maskL mk l).length ≤ 140737488355328 := by have := HN.out; have := HM.out.1; rw [List.length_append, maskL_length]; simp only [List.length_cons, List.length_nil]; omega
    go_upto_region 19 with (fail)
    go_region_held3 (fun w' => w'.cell? ⟨gb, 2, none⟩ = some (.slice A l.length c)) (first | exact H9.out.2.2.cell 2 _ rfl | exact HE.out.2.2.1.1.cell 2 _ rfl | exact HB.out.2.2.1.1.cell 2 _ rfl | exact HA.out.2.2.1.cell 2 _ rfl | exact HC.out.2.2.1.cell 2 _ rfl | exact HD.out.2.2.cell 2 _ rfl) (first | (refine app_row_step (s := .tmp 89) (x := .tmp 93) HB.out.1 HB.out.2.2.2 HB.out.2.1 hlim2 (by rfl) rfl rfl rfl ?_; intro v9 w9 ho9 hb9 hg9 _; have H9 := Lib.hid (show Own w w9 v9 ([op + 128, (l.length : Int) + 128] ++ mk ++ maskL mk l) ∧ Below w.heap.size w w9 ∧ Whole w9 gb 26 #[.bool true, .int .i64 op, .slice A l.length c] from ⟨ho9, hb9, HB.out.2.2.1.1.grown hg9 HB.out.2.2.1.2⟩); clear ho9 hb9 hg9) | (refine app_row_step (s := .tmp 89) (x := .tmp 93) HE.out.1 HE.out.2.2.2 HE.out.2.1 hlim2 (by rfl) rfl rfl rfl ?_; intro v9 w9 ho9 hb9 hg9 _; have H9 := Lib.hid (show Own w w9 v9 ([op + 128, (l.length : Int) + 128] ++ mk ++ maskL mk l) ∧ Below w.heap.size w w9 ∧ Whole w9 gb 26 #[.bool true, .int .i64 op, .slice A l.length c] from ⟨ho9, hb9, HE.out.2.2.1.1.grown hg9 HE.out.2.2.1.2⟩); clear ho9 hb9 hg9) | (go_at_call 41; (with_reducible refine (masked_calls A c l A1 c1 mk _ (Kd.C_below HI.out.1 HA.out.2.1) HI.out.2.2.2.2.2 (Kd.C_below HM.out.2.2.1 HA.out.2.1) (by have := HN.out; omega)).mono ?_); rintro e w6 ⟨v6, rfl, ho6, hb6⟩; obtain ⟨A6, c6, rfl, _, hr6⟩ := ho6.reads; have HB := Lib.hid (show Own w w6 v5 ([op + 128, (l.length : Int) + 128] ++ mk) ∧ Below w.heap.size w w6 ∧ (Whole w6 gb 26 #[.bool true, .int .i64 op, .slice A l.length c] ∧ some gb ≠ v5.ownBlock) ∧ Rd w6 A6 (maskL mk l).length (maskL mk l) from ⟨HA.out.1.below hb6, below_step HA.out.2.1 hb6, ⟨HA.out.2.2.1.below hb6 HA.out.2.2.1.lt, HA.out.2.2.2⟩, hr6⟩); clear ho6 hb6 hr6) | (go_at_call 41; (with_reducible refine (masked_calls A c l A1 c1 mk _ (Kd.C_below HI.out.1 HD.out.2.1) HI.out.2.2.2.2.2 (Kd.C_below HM.out.2.2.1 HD.out.2.1) (by have := HN.out; omega)).mono ?_); rintro e w6 ⟨v6, rfl, ho6, hb6⟩; have hap := Own.apart HD.out.1 ho6 (Nat.le_refl _) (Or.inr (by simp [Value.ownBlock])); obtain ⟨A6, c6, rfl, _, _⟩ := ho6.reads; have HC := Lib.hid (show Own w w6 (.slice (some ⟨g, 0, none⟩) 2 2) [op + 128, (l.length : Int) + 128] ∧ Below w.heap.size w w6 ∧ Whole w6 gb 26 #[.bool true, .int .i64 op, .slice A l.length c] ∧ Own X3.drew w6 (.slice A6 (maskL mk l).length c6) (maskL mk l) ∧ (Value.ownBlock (.slice (some ⟨g, 0, none⟩) 2 2) ≠ Value.ownBlock (.slice A6 (maskL mk l).length c6)) from ⟨HD.out.1.below hb6, below_step HD.out.2.1 hb6, HD.out.2.2.below hb6 HD.out.2.2.lt, ho6, hap⟩); clear ho6 hb6 hap) | (refine app_row_step (s := .tmp 87) (x := .tmp 88) HC.out.1 (Kd.C_below HM.out.2.2.1 HC.out.2.1) HC.out.2.1 hlim (by rfl) rfl rfl rfl ?_; intro v5 w5 ho5 hb5 hg5 hat5; have HE := Lib.hid (show Own w w5 v5 ([op + 128, (l.length : Int) + 128] ++ mk) ∧ Below w.heap.size w w5 ∧ (Whole w5 gb 26 #[.bool true, .int .i64 op, .slice A l.length c] ∧ some gb ≠ v5.ownBlock) ∧ Rd w5 A6 (maskL mk l).length (maskL mk l) from ⟨ho5, hb5, ⟨HC.out.2.2.1.grown hg5 (by have := HNE.out; simp [Value.ownBlock]; omega), ne_after hat5 (by have := HNE.out; simp [Value.ownBlock]; omega) HC.out.2.2.1.lt⟩, (Kd.R_reads' (HC.out.2.2.2.1.stay hg5 HC.out.2.2.2.2)).2.2⟩); clear ho5 hb5 hg5 hat5) | (refine app_row_step (s := .tmp 87) (x := .tmp 88) HD.out.1 (Kd.C_below HM.out.2.2.1 HD.out.2.1) HD.out.2.1 hlim (by rfl) rfl rfl rfl ?_; intro v5 w5 ho5 hb5 hg5 hat5; have HA := Lib.hid (show Own w w5 v5 ([op + 128, (l.length : Int) + 128] ++ mk) ∧ Below w.heap.size w w5 ∧ Whole w5 gb 26 #[.bool true, .int .i64 op, .slice A l.length c] ∧ some gb ≠ v5.ownBlock from ⟨ho5, hb5, HD.out.2.2.grown hg5 (by have := HNE.out; simp [Value.ownBlock]; omega), ne_after hat5 (by have := HNE.out; simp [Value.ownBlock]; omega) HD.out.2.2.lt⟩); clear ho5 hb5 hg5 hat5) | (fail))
    all_goals
      go_wp2
      go_ret2
      exact ⟨_, by rw [HM.out.2.1]; rfl, H9.out.1.cast (by rw [if_pos HM.out.2.1]; exact wr_s4 (fin := true) (op := op) HM.out.1 HN.out.1 HSZ.out), H9.out.2.1⟩
  | false =>
    clear h8 hn hbig
    cases fin with
    | true =>
      go_enter Tryd.func19, Tryd.ntmps19
      go_upto_region 1 with (fail)
      rw [← HS.out.1, ← HS.out.2]
      go_wp2_with fail
      refine (known_calls op _).mono ?_
      rintro e w' ⟨rfl, rfl⟩
      rw [HK.out]
      go_wp2_with fail
      refine (control_calls op _).mono ?_
      rintro e w' ⟨rfl, rfl⟩
      go_upto_region 9 with (fail)
      rw [← HW1.out.1, ← HW1.out.2]
      clear q0 q1 q2
      have q0 := HAT.out.2.1.cell 0 _ rfl
      have q1 := HAT.out.2.1.cell 1 _ rfl
      have q2 := HAT.out.2.1.cell 2 _ rfl
      obtain ⟨z0, y0⟩ := Own.cell HAT.out.1 0 (by decide)
      obtain ⟨z1, y1⟩ := Own.cell HAT.out.1 1 (by decide)
      simp only [rd, Int.toNat_natCast, List.getD_cons_zero, List.getD_cons_succ] at z0 z1
      go_upto_region 11 with (fail)
      have HX1 := Lib.hid (HAT.out.set0 (op + 128))
      generalize W1.setCell ⟨g, 0, none⟩ (.int .u8 (op + 128)) = X1 at HX1 ⊢
      clear z0 y0 z1 y1 q0 q1 q2 HAT
      have q0 := HX1.out.2.1.cell 0 _ rfl
      have q1 := HX1.out.2.1.cell 1 _ rfl
      have q2 := HX1.out.2.1.cell 2 _ rfl
      obtain ⟨z0, y0⟩ := Own.cell HX1.out.1 0 (by decide)
      obtain ⟨z1, y1⟩ := Own.cell HX1.out.1 1 (by decide)
      simp only [rd, Int.toNat_natCast, List.getD_cons_zero, List.getD_cons_succ] at z0 z1
      go_upto_region 13 with (fail)
      have HX2 := Lib.hid (HX1.out.set1 (128))
      generalize X1.setCell ⟨g, 1, none⟩ (.int .u8 (128)) = X2 at HX2 ⊢
      clear z0 y0 z1 y1 q0 q1 q2 HX1
      have q0 := HX2.out.2.1.cell 0 _ rfl
      have q1 := HX2.out.2.1.cell 1 _ rfl
      have q2 := HX2.out.2.1.cell 2 _ rfl
      obtain ⟨z0, y0⟩ := Own.cell HX2.out.1 0 (by decide)
      obtain ⟨z1, y1⟩ := Own.cell HX2.out.1 1 (by decide)
      simp only [rd, Int.toNat_natCast, List.getD_cons_zero, List.getD_cons_succ] at z0 z1
      go_upto_region 17 with (fail)
      have HX3 := Lib.hid (HX2.out.set1 ((l.length : Int) + 128))
      generalize X2.setCell ⟨g, 1, none⟩ (.int .u8 ((l.length : Int) + 128)) = X3 at HX3 ⊢
      clear z0 y0 z1 y1 q0 q1 q2 HX2
      have q0 := HX3.out.2.1.cell 0 _ rfl
      have q1 := HX3.out.2.1.cell 1 _ rfl
      have q2 := HX3.out.2.1.cell 2 _ rfl
      obtain ⟨z0, y0⟩ := Own.cell HX3.out.1 0 (by decide)
      obtain ⟨z1, y1⟩ := Own.cell HX3.out.1 1 (by decide)
      simp only [rd, Int.toNat_natCast, List.getD_cons_zero, List.getD_cons_succ] at z0 z1
      have HY := Lib.hid (show Own w X3 (.slice (some ⟨g, 0, none⟩) 2 2) [op + 128, (l.length : Int) + 128] ∧ Below w.heap.size w X3 ∧ Whole X3 gb 26 #[.bool true, .int .i64 op, .slice A l.length c] ∧ gb ≠ g from ⟨HX3.out.1, HX3.out.2.2.1, HX3.out.2.1, fun e => HX3.out.2.2.2.2 e.symm⟩)
      clear z0 y0 z1 y1 q0 q1
      have HD := Lib.hid (show Own w X3.drew (.slice (some ⟨g, 0, none⟩) 2 2) [op + 128, (l.length : Int) + 128] ∧ Below w.heap.size w X3.drew ∧ Whole X3.drew gb 26 #[.bool true, .int .i64 op, .slice A l.length c] from ⟨HY.out.1.below (below_drew (Below.refl _ _)), below_drew HY.out.2.1, HY.out.2.2.1.below (below_drew (Below.refl _ _)) HY.out.2.2.1.lt⟩)
      have HNE := Lib.hid (show gb ≠ g from HY.out.2.2.2)
      have hlim : [op + 128, (l.length : Int) + 128].length + 4 ≤ 140737488355328 := by simp
      have hlim2 : ([op + 128, (l.length : Int) + 128] ++ mk).length + (maskL mk l).length ≤ 140737488355328 := by have := HN.out; have := HM.out.1; rw [List.length_append, maskL_length]; simp only [List.length_cons, List.length_nil]; omega
      go_upto_region 19 with (fail)
      go_region_held3 (fun w' => w'.cell? ⟨gb, 2, none⟩ = some (.slice A l.length c)) (first | exact H9.out.2.2.cell 2 _ rfl | exact HE.out.2.2.1.1.cell 2 _ rfl | exact HB.out.2.2.1.1.cell 2 _ rfl | exact HA.out.2.2.1.cell 2 _ rfl | exact HC.out.2.2.1.cell 2 _ rfl | exact HD.out.2.2.cell 2 _ rfl) (first | (refine app_row_step (s := .tmp 89) (x := .tmp 93) HB.out.1 HB.out.2.2.2 HB.out.2.1 hlim2 (by rfl) rfl rfl rfl ?_; intro v9 w9 ho9 hb9 hg9 _; have H9 := Lib.hid (show Own w w9 v9 ([op + 128, (l.length : Int) + 128] ++ mk ++ maskL mk l) ∧ Below w.heap.size w w9 ∧ Whole w9 gb 26 #[.bool true, .int .i64 op, .slice A l.length c] from ⟨ho9, hb9, HB.out.2.2.1.1.grown hg9 HB.out.2.2.1.2⟩); clear ho9 hb9 hg9) | (refine app_row_step (s := .tmp 89) (x := .tmp 93) HE.out.1 HE.out.2.2.2 HE.out.2.1 hlim2 (by rfl) rfl rfl rfl ?_; intro v9 w9 ho9 hb9 hg9 _; have H9 := Lib.hid (show Own w w9 v9 ([op + 128, (l.length : Int) + 128] ++ mk ++ maskL mk l) ∧ Below w.heap.size w w9 ∧ Whole w9 gb 26 #[.bool true, .int .i64 op, .slice A l.length c] from ⟨ho9, hb9, HE.out.2.2.1.1.grown hg9 HE.out.2.2.1.2⟩); clear ho9 hb9 hg9) | (go_at_call 41; (with_reducible refine (masked_calls A c l A1 c1 mk _ (Kd.C_below HI.out.1 HA.out.2.1) HI.out.2.2.2.2.2 (Kd.C_below HM.out.2.2.1 HA.out.2.1) (by have := HN.out; omega)).mono ?_); rintro e w6 ⟨v6, rfl, ho6, hb6⟩; obtain ⟨A6, c6, rfl, _, hr6⟩ := ho6.reads; have HB := Lib.hid (show Own w w6 v5 ([op + 128, (l.length : Int) + 128] ++ mk) ∧ Below w.heap.size w w6 ∧ (Whole w6 gb 26 #[.bool true, .int .i64 op, .slice A l.length c] ∧ some gb ≠ v5.ownBlock) ∧ Rd w6 A6 (maskL mk l).length (maskL mk l) from ⟨HA.out.1.below hb6, below_step HA.out.2.1 hb6, ⟨HA.out.2.2.1.below hb6 HA.out.2.2.1.lt, HA.out.2.2.2⟩, hr6⟩); clear ho6 hb6 hr6) | (go_at_call 41; (with_reducible refine (masked_calls A c l A1 c1 mk _ (Kd.C_below HI.out.1 HD.out.2.1) HI.out.2.2.2.2.2 (Kd.C_below HM.out.2.2.1 HD.out.2.1) (by have := HN.out; omega)).mono ?_); rintro e w6 ⟨v6, rfl, ho6, hb6⟩; have hap := Own.apart HD.out.1 ho6 (Nat.le_refl _) (Or.inr (by simp [Value.ownBlock])); obtain ⟨A6, c6, rfl, _, _⟩ := ho6.reads; have HC := Lib.hid (show Own w w6 (.slice (some ⟨g, 0, none⟩) 2 2) [op + 128, (l.length : Int) + 128] ∧ Below w.heap.size w w6 ∧ Whole w6 gb 26 #[.bool true, .int .i64 op, .slice A l.length c] ∧ Own X3.drew w6 (.slice A6 (maskL mk l).length c6) (maskL mk l) ∧ (Value.ownBlock (.slice (some ⟨g, 0, none⟩) 2 2) ≠ Value.ownBlock (.slice A6 (maskL mk l).length c6)) from ⟨HD.out.1.below hb6, below_step HD.out.2.1 hb6, HD.out.2.2.below hb6 HD.out.2.2.lt, ho6, hap⟩); clear ho6 hb6 hap) | (refine app_row_step (s := .tmp 87) (x := .tmp 88) HC.out.1 (Kd.C_below HM.out.2.2.1 HC.out.2.1) HC.out.2.1 hlim (by rfl) rfl rfl rfl ?_; intro v5 w5 ho5 hb5 hg5 hat5; have HE := Lib.hid (show Own w w5 v5 ([op + 128, (l.length : Int) + 128] ++ mk) ∧ Below w.heap.size w w5 ∧ (Whole w5 gb 26 #[.bool true, .int .i64 op, .slice A l.length c] ∧ some gb ≠ v5.ownBlock) ∧ Rd w5 A6 (maskL mk l).length (maskL mk l) from ⟨ho5, hb5, ⟨HC.out.2.2.1.grown hg5 (by have := HNE.out; simp [Value.ownBlock]; omega), ne_after hat5 (by have := HNE.out; simp [Value.ownBlock]; omega) HC.out.2.2.1.lt⟩, (Kd.R_reads' (HC.out.2.2.2.1.stay hg5 HC.out.2.2.2.2)).2.2⟩); clear ho5 hb5 hg5 hat5) | (refine app_row_step (s := .tmp 87) (x := .tmp 88) HD.out.1 (Kd.C_below HM.out.2.2.1 HD.out.2.1) HD.out.2.1 hlim (by rfl) rfl rfl rfl ?_; intro v5 w5 ho5 hb5 hg5 hat5; have HA := Lib.hid (show Own w w5 v5 ([op + 128, (l.length : Int) + 128] ++ mk) ∧ Below w.heap.size w w5 ∧ Whole w5 gb 26 #[.bool true, .int .i64 op, .slice A l.length c] ∧ some gb ≠ v5.ownBlock from ⟨ho5, hb5, HD.out.2.2.grown hg5 (by have := HNE.out; simp [Value.ownBlock]; omega), ne_after hat5 (by have := HNE.out; simp [Value.ownBlock]; omega) HD.out.2.2.lt⟩); clear ho5 hb5 hg5 hat5) | (fail))
      all_goals
        go_wp2
        go_ret2
        exact ⟨_, by rw [HM.out.2.1]; rfl, H9.out.1.cast (by rw [if_pos HM.out.2.1]; exact wr_s4 (fin := true) (op := op) HM.out.1 HN.out.1 HSZ.out), H9.out.2.1⟩
    | false =>
      go_enter Tryd.func19, Tryd.ntmps19
      go_upto_region 1 with (fail)
      rw [← HS.out.1, ← HS.out.2]
      go_wp2_with fail
      refine (known_calls op _).mono ?_
      rintro e w' ⟨rfl, rfl⟩
      rw [HK.out]
      go_wp2_with fail
      refine (control_calls op _).mono ?_
      rintro e w' ⟨rfl, rfl⟩
      go_upto_region 9 with (fail)
      rw [← HW1.out.1, ← HW1.out.2]
      clear q0 q1 q2
      have q0 := HAT.out.2.1.cell 0 _ rfl
      have q1 := HAT.out.2.1.cell 1 _ rfl
      have q2 := HAT.out.2.1.cell 2 _ rfl
      obtain ⟨z0, y0⟩ := Own.cell HAT.out.1 0 (by decide)
      obtain ⟨z1, y1⟩ := Own.cell HAT.out.1 1 (by decide)
      simp only [rd, Int.toNat_natCast, List.getD_cons_zero, List.getD_cons_succ] at z0 z1
      go_upto_region 13 with (fail)
      have HX1 := Lib.hid (HAT.out.set1 (128))
      generalize W1.setCell ⟨g, 1, none⟩ (.int .u8 (128)) = X1 at HX1 ⊢
      clear z0 y0 z1 y1 q0 q1 q2 HAT
      have q0 := HX1.out.2.1.cell 0 _ rfl
      have q1 := HX1.out.2.1.cell 1 _ rfl
      have q2 := HX1.out.2.1.cell 2 _ rfl
      obtain ⟨z0, y0⟩ := Own.cell HX1.out.1 0 (by decide)
      obtain ⟨z1, y1⟩ := Own.cell HX1.out.1 1 (by decide)
      simp only [rd, Int.toNat_natCast, List.getD_cons_zero, List.getD_cons_succ] at z0 z1
      go_upto_region 17 with (fail)
      have HX2 := Lib.hid (HX1.out.set1 ((l.length : Int) + 128))
      generalize X1.setCell ⟨g, 1, none⟩ (.int .u8 ((l.length : Int) + 128)) = X2 at HX2 ⊢
      clear z0 y0 z1 y1 q0 q1 q2 HX1
      have q0 := HX2.out.2.1.cell 0 _ rfl
      have q1 := HX2.out.2.1.cell 1 _ rfl
      have q2 := HX2.out.2.1.cell 2 _ rfl
      obtain ⟨z0, y0⟩ := Own.cell HX2.out.1 0 (by decide)
      obtain ⟨z1, y1⟩ := Own.cell HX2.out.1 1 (by decide)
      simp only [rd, Int.toNat_natCast, List.getD_cons_zero, List.getD_cons_succ] at z0 z1
      have HY := Lib.hid (show Own w X2 (.slice (some ⟨g, 0, none⟩) 2 2) [op, (l.length : Int) + 128] ∧ Below w.heap.size w X2 ∧ Whole X2 gb 26 #[.bool false, .int .i64 op, .slice A l.length c] ∧ gb ≠ g from ⟨HX2.out.1, HX2.out.2.2.1, HX2.out.2.1, fun e => HX2.out.2.2.2.2 e.symm⟩)
      clear z0 y0 z1 y1 q0 q1
      have HD := Lib.hid (show Own w X2.drew (.slice (some ⟨g, 0, none⟩) 2 2) [op, (l.length : Int) + 128] ∧ Below w.heap.size w X2.drew ∧ Whole X2.drew gb 26 #[.bool false, .int .i64 op, .slice A l.length c] from ⟨HY.out.1.below (below_drew (Below.refl _ _)), below_drew HY.out.2.1, HY.out.2.2.1.below (below_drew (Below.refl _ _)) HY.out.2.2.1.lt⟩)
      have HNE := Lib.hid (show gb ≠ g from HY.out.2.2.2)
      have hlim : [op, (l.length : Int) + 128].length + 4 ≤ 140737488355328 := by simp
      have hlim2 : ([op, (l.length : Int) + 128] ++ mk).length + (maskL mk l).length ≤ 140737488355328 := by have := HN.out; have := HM.out.1; rw [List.length_append, maskL_length]; simp only [List.length_cons, List.length_nil]; omega
      go_upto_region 19 with (fail)
      go_region_held3 (fun w' => w'.cell? ⟨gb, 2, none⟩ = some (.slice A l.length c)) (first | exact H9.out.2.2.cell 2 _ rfl | exact HE.out.2.2.1.1.cell 2 _ rfl | exact HB.out.2.2.1.1.cell 2 _ rfl | exact HA.out.2.2.1.cell 2 _ rfl | exact HC.out.2.2.1.cell 2 _ rfl | exact HD.out.2.2.cell 2 _ rfl) (first | (refine app_row_step (s := .tmp 89) (x := .tmp 93) HB.out.1 HB.out.2.2.2 HB.out.2.1 hlim2 (by rfl) rfl rfl rfl ?_; intro v9 w9 ho9 hb9 hg9 _; have H9 := Lib.hid (show Own w w9 v9 ([op, (l.length : Int) + 128] ++ mk ++ maskL mk l) ∧ Below w.heap.size w w9 ∧ Whole w9 gb 26 #[.bool false, .int .i64 op, .slice A l.length c] from ⟨ho9, hb9, HB.out.2.2.1.1.grown hg9 HB.out.2.2.1.2⟩); clear ho9 hb9 hg9) | (refine app_row_step (s := .tmp 89) (x := .tmp 93) HE.out.1 HE.out.2.2.2 HE.out.2.1 hlim2 (by rfl) rfl rfl rfl ?_; intro v9 w9 ho9 hb9 hg9 _; have H9 := Lib.hid (show Own w w9 v9 ([op, (l.length : Int) + 128] ++ mk ++ maskL mk l) ∧ Below w.heap.size w w9 ∧ Whole w9 gb 26 #[.bool false, .int .i64 op, .slice A l.length c] from ⟨ho9, hb9, HE.out.2.2.1.1.grown hg9 HE.out.2.2.1.2⟩); clear ho9 hb9 hg9) | (go_at_call 41; (with_reducible refine (masked_calls A c l A1 c1 mk _ (Kd.C_below HI.out.1 HA.out.2.1) HI.out.2.2.2.2.2 (Kd.C_below HM.out.2.2.1 HA.out.2.1) (by have := HN.out; omega)).mono ?_); rintro e w6 ⟨v6, rfl, ho6, hb6⟩; obtain ⟨A6, c6, rfl, _, hr6⟩ := ho6.reads; have HB := Lib.hid (show Own w w6 v5 ([op, (l.length : Int) + 128] ++ mk) ∧ Below w.heap.size w w6 ∧ (Whole w6 gb 26 #[.bool false, .int .i64 op, .slice A l.length c] ∧ some gb ≠ v5.ownBlock) ∧ Rd w6 A6 (maskL mk l).length (maskL mk l) from ⟨HA.out.1.below hb6, below_step HA.out.2.1 hb6, ⟨HA.out.2.2.1.below hb6 HA.out.2.2.1.lt, HA.out.2.2.2⟩, hr6⟩); clear ho6 hb6 hr6) | (go_at_call 41; (with_reducible refine (masked_calls A c l A1 c1 mk _ (Kd.C_below HI.out.1 HD.out.2.1) HI.out.2.2.2.2.2 (Kd.C_below HM.out.2.2.1 HD.out.2.1) (by have := HN.out; omega)).mono ?_); rintro e w6 ⟨v6, rfl, ho6, hb6⟩; have hap := Own.apart HD.out.1 ho6 (Nat.le_refl _) (Or.inr (by simp [Value.ownBlock])); obtain ⟨A6, c6, rfl, _, _⟩ := ho6.reads; have HC := Lib.hid (show Own w w6 (.slice (some ⟨g, 0, none⟩) 2 2) [op, (l.length : Int) + 128] ∧ Below w.heap.size w w6 ∧ Whole w6 gb 26 #[.bool false, .int .i64 op, .slice A l.length c] ∧ Own X2.drew w6 (.slice A6 (maskL mk l).length c6) (maskL mk l) ∧ (Value.ownBlock (.slice (some ⟨g, 0, none⟩) 2 2) ≠ Value.ownBlock (.slice A6 (maskL mk l).length c6)) from ⟨HD.out.1.below hb6, below_step HD.out.2.1 hb6, HD.out.2.2.below hb6 HD.out.2.2.lt, ho6, hap⟩); clear ho6 hb6 hap) | (refine app_row_step (s := .tmp 87) (x := .tmp 88) HC.out.1 (Kd.C_below HM.out.2.2.1 HC.out.2.1) HC.out.2.1 hlim (by rfl) rfl rfl rfl ?_; intro v5 w5 ho5 hb5 hg5 hat5; have HE := Lib.hid (show Own w w5 v5 ([op, (l.length : Int) + 128] ++ mk) ∧ Below w.heap.size w w5 ∧ (Whole w5 gb 26 #[.bool false, .int .i64 op, .slice A l.length c] ∧ some gb ≠ v5.ownBlock) ∧ Rd w5 A6 (maskL mk l).length (maskL mk l) from ⟨ho5, hb5, ⟨HC.out.2.2.1.grown hg5 (by have := HNE.out; simp [Value.ownBlock]; omega), ne_after hat5 (by have := HNE.out; simp [Value.ownBlock]; omega) HC.out.2.2.1.lt⟩, (Kd.R_reads' (HC.out.2.2.2.1.stay hg5 HC.out.2.2.2.2)).2.2⟩); clear ho5 hb5 hg5 hat5) | (refine app_row_step (s := .tmp 87) (x := .tmp 88) HD.out.1 (Kd.C_below HM.out.2.2.1 HD.out.2.1) HD.out.2.1 hlim (by rfl) rfl rfl rfl ?_; intro v5 w5 ho5 hb5 hg5 hat5; have HA := Lib.hid (show Own w w5 v5 ([op, (l.length : Int) + 128] ++ mk) ∧ Below w.heap.size w w5 ∧ Whole w5 gb 26 #[.bool false, .int .i64 op, .slice A l.length c] ∧ some gb ≠ v5.ownBlock from ⟨ho5, hb5, HD.out.2.2.grown hg5 (by have := HNE.out; simp [Value.ownBlock]; omega), ne_after hat5 (by have := HNE.out; simp [Value.ownBlock]; omega) HD.out.2.2.lt⟩); clear ho5 hb5 hg5 hat5) | (fail))
      all_goals
        go_wp2
        go_ret2
        exact ⟨_, by rw [HM.out.2.1]; rfl, H9.out.1.cast (by rw [if_pos HM.out.2.1]; exact wr_s4 (fin := false) (op := op) HM.out.1 HN.out.1 HSZ.out), H9.out.2.1⟩
set_option maxRecDepth 20000 in
set_option maxHeartbeats 3200000 in
theorem WsWrite_4g {n : Nat} (fin : Bool) (op : Int) (A : Option Addr) (c : Nat) (l : List Int) (A1 : Option Addr) (c1 : Nat) (mk : List Int) (w : World) (hr : Rd w A n l) (hc : n ≤ c) (hb : Bytes l) (hs : n ≤ 140737488351232) (hrm : Rd w A1 4 mk) (hcm : 4 ≤ c1) (hE : wrE ⟨fin, op, l⟩ 4 = 0) (hn : 125 < n) :
    Calls Tryd.prog 19 #[.agg #[.bool fin, .int .i64 op, .slice A n c], .slice A1 4 c1] w (WrPost ⟨fin, op, l⟩ mk w) := by
  have hml := Kd.C_len hrm
  obtain ⟨_, hk, h8, hbig⟩ := wrE_ok hE
  simp only at hk h8 hbig
  have hop := known_cases hk
  have hlen := Kd.C_len hr
  subst hlen
  obtain ⟨gb, hgb⟩ : ∃ g, g = w.heap.size := ⟨_, rfl⟩
  obtain ⟨W0, hW0⟩ : ∃ W0, W0 = w.alloc (.cells #[.bool fin, .int .i64 op, .slice A l.length c] 26) := ⟨_, rfl⟩
  have hb0 : Below w.heap.size w W0 := by rw [hW0]; exact below_alloc (Below.refl _ _) _
  have hk0 : Whole W0 gb 26 #[.bool fin, .int .i64 op, .slice A l.length c] := by rw [hW0, hgb]; exact Whole.new w _ _
  have HS := Lib.hid (show gb = w.heap.size ∧ W0 = w.alloc _ from ⟨hgb, hW0⟩)
  have HI := Lib.hid (show Rd w A l.length l ∧ Bytes l ∧ Below w.heap.size w W0 ∧ Whole W0 gb 26 #[.bool fin, .int .i64 op, .slice A l.length c] ∧ l.length ≤ 140737488351232 ∧ l.length ≤ c from ⟨hr, hb, hb0, hk0, hs, hc⟩)
  have q0 := hk0.cell 0 _ rfl
  have q1 := hk0.cell 1 _ rfl
  have q2 := hk0.cell 2 _ rfl
  clear hr hb hb0 hk0 hgb hW0 hs hc
  have HK := Lib.hid hk
  have HM := Lib.hid (show mk.length = 4 ∧ wrE ⟨fin, op, l⟩ mk.length = 0 ∧ Rd w A1 4 mk ∧ 4 ≤ c1 from ⟨hml, by rw [hml]; exact hE, hrm, hcm⟩)
  clear hml hE hrm hcm hk
  have e16 : decide (16384 < (l.length : Int)) = false := decide_eq_false (by omega)
  have e16' : decide (16384 < l.length) = false := decide_eq_false (by omega)
  have e125 : decide (125 < (l.length : Int)) = true := decide_eq_true (by omega)
  have e125' : decide (125 < l.length) = true := decide_eq_true (by omega)
  have f125 : decide ((l.length : Int) ≤ 125) = false := decide_eq_false (by omega)
  have f125' : decide (l.length ≤ 125) = false := decide_eq_false (by omega)
  have wop : IntKind.u8.wrap op = op := by rw [IntKind.wrap_u8]; omega
  have hor : bits .or .u8 op 128 = op + 128 := (or_128 op (by omega)).1
  have hnn : bits .or .u8 128 126 = 254 := by decide
  have wn1 : IntKind.u8.wrap ((l.length : Int) / 256) = (l.length : Int) / 256 := by rw [IntKind.wrap_u8]; omega
  have wn2 : IntKind.u8.wrap (l.length : Int) = (l.length : Int) % 256 := by rw [IntKind.wrap_u8]
  have HSZ := Lib.hid (show (254 : Int) = sizeF 4 l.length by unfold sizeF; rw [if_neg (by omega)]; rfl)
  have HN := Lib.hid (show 125 < l.length ∧ l.length ≤ 16384 from ⟨by omega, hbig⟩)
  clear hop
  obtain ⟨W1, hW1⟩ : ∃ W1, W1 = W0.alloc (.cells #[.int .u8 op, .int .u8 0] 5) := ⟨_, rfl⟩
  obtain ⟨g, hg⟩ : ∃ g, g = W0.heap.size := ⟨_, rfl⟩
  have HW1 := Lib.hid (show g = W0.heap.size ∧ W1 = W0.alloc _ from ⟨hg, hW1⟩)
  have HAT := Lib.hid (show WrAt w W1 gb g fin op A l.length c op 0 from ⟨by rw [hW1, hg]; exact lit_two HI.out.2.2.1 op 0, HI.out.2.2.2.1.below (by rw [hW1]; exact below_alloc (Below.refl _ _) _) HI.out.2.2.2.1.lt, below_step HI.out.2.2.1 (by rw [hW1]; exact below_alloc (Below.refl _ _) _), by rw [hg]; exact HI.out.2.2.1.size, by have := HI.out.2.2.2.1.lt; omega⟩)
  clear hW1 hg
  cases h8c : decide (8 ≤ op) with
  | true =>
    obtain ⟨hfin, hsm⟩ := h8 (of_decide_eq_true h8c)
    omega
  | false =>
    clear h8 hn hbig
    cases fin with
    | true =>
      go_enter Tryd.func19, Tryd.ntmps19
      go_upto_region 1 with (fail)
      rw [← HS.out.1, ← HS.out.2]
      go_wp2_with fail
      refine (known_calls op _).mono ?_
      rintro e w' ⟨rfl, rfl⟩
      rw [HK.out]
      go_wp2_with fail
      refine (control_calls op _).mono ?_
      rintro e w' ⟨rfl, rfl⟩
      go_upto_region 9 with (fail)
      rw [← HW1.out.1, ← HW1.out.2]
      clear q0 q1 q2
      have q0 := HAT.out.2.1.cell 0 _ rfl
      have q1 := HAT.out.2.1.cell 1 _ rfl
      have q2 := HAT.out.2.1.cell 2 _ rfl
      obtain ⟨z0, y0⟩ := Own.cell HAT.out.1 0 (by decide)
      obtain ⟨z1, y1⟩ := Own.cell HAT.out.1 1 (by decide)
      simp only [rd, Int.toNat_natCast, List.getD_cons_zero, List.getD_cons_succ] at z0 z1
      go_upto_region 11 with (fail)
      have HX1 := Lib.hid (HAT.out.set0 (op + 128))
      generalize W1.setCell ⟨g, 0, none⟩ (.int .u8 (op + 128)) = X1 at HX1 ⊢
      clear z0 y0 z1 y1 q0 q1 q2 HAT
      have q0 := HX1.out.2.1.cell 0 _ rfl
      have q1 := HX1.out.2.1.cell 1 _ rfl
      have q2 := HX1.out.2.1.cell 2 _ rfl
      obtain ⟨z0, y0⟩ := Own.cell HX1.out.1 0 (by decide)
      obtain ⟨z1, y1⟩ := Own.cell HX1.out.1 1 (by decide)
      simp only [rd, Int.toNat_natCast, List.getD_cons_zero, List.getD_cons_succ] at z0 z1
      go_upto_region 13 with (fail)
      have HX2 := Lib.hid (HX1.out.set1 (128))
      generalize X1.setCell ⟨g, 1, none⟩ (.int .u8 (128)) = X2 at HX2 ⊢
      clear z0 y0 z1 y1 q0 q1 q2 HX1
      have q0 := HX2.out.2.1.cell 0 _ rfl
      have q1 := HX2.out.2.1.cell 1 _ rfl
      have q2 := HX2.out.2.1.cell 2 _ rfl
      obtain ⟨z0, y0⟩ := Own.cell HX2.out.1 0 (by decide)
      obtain ⟨z1, y1⟩ := Own.cell HX2.out.1 1 (by decide)
      simp only [rd, Int.toNat_natCast, List.getD_cons_zero, List.getD_cons_succ] at z0 z1
      go_upto_region 16 with (fail)
      have HX3 := Lib.hid (HX2.out.set1 (254))
      generalize X2.setCell ⟨g, 1, none⟩ (.int .u8 (254)) = X3 at HX3 ⊢
      clear z0 y0 z1 y1 q0 q1 q2 HX2
      have q0 := HX3.out.2.1.cell 0 _ rfl
      have q1 := HX3.out.2.1.cell 1 _ rfl
      have q2 := HX3.out.2.1.cell 2 _ rfl
      obtain ⟨z0, y0⟩ := Own.cell HX3.out.1 0 (by decide)
      obtain ⟨z1, y1⟩ := Own.cell HX3.out.1 1 (by decide)
      simp only [rd, Int.toNat_natCast, List.getD_cons_zero, List.getD_cons_succ] at z0 z1
      go_wp2_with (at_builtin; refine app_row (Kd.R_alloc HX3.out.1 _) (C_const _ 5 [(l.length : Int) / 256, (l.length : Int) % 256] (0, 0) (by simp)) (below_alloc HX3.out.2.2.1 _) (by simp) rfl rfl rfl rfl ?_)
      intro v5 w5 ho5 hb5 hg5 hat5
      have hk5 := ((HX3.out.2.1.below (below_alloc (Below.refl _ _) _) HX3.out.2.1.lt).grown hg5 (by have := HX3.out.2.2.2.2; simp [Value.ownBlock]; omega))
      have hng : some gb ≠ (Value.slice (some ⟨g, 0, none⟩) 2 2).ownBlock := fun e => HX3.out.2.2.2.2 (by injection e with e; exact e.symm)
      have hne5 : some gb ≠ v5.ownBlock := by
        refine ne_after hat5 hng ?_
        have := HX3.out.2.1.lt
        omega
      clear hng
      obtain ⟨G, c5, rfl, _⟩ := ho5.form (by simp)
      have HY := Lib.hid (show Own w w5 (.slice (some ⟨G, 0, none⟩) ([op + 128, 254] ++ [(l.length : Int) / 256, (l.length : Int) % 256]).length c5) ([op + 128, 254] ++ [(l.length : Int) / 256, (l.length : Int) % 256]) ∧ Below w.heap.size w w5 ∧ Whole w5 gb 26 #[.bool true, .int .i64 op, .slice A l.length c] ∧ gb ≠ G from ⟨ho5, hb5, hk5, fun e => hne5 (by rw [e]; rfl)⟩)
      clear ho5 hb5 hg5 hk5 hat5 hne5 z0 y0 z1 y1 q0 q1 q2
      have q2 := HY.out.2.2.1.cell 2 _ rfl
      have HD := Lib.hid (show Own w w5.drew (.slice (some ⟨G, 0, none⟩) ([op + 128, 254] ++ [(l.length : Int) / 256, (l.length : Int) % 256]).length c5) ([op + 128, 254] ++ [(l.length : Int) / 256, (l.length : Int) % 256]) ∧ Below w.heap.size w w5.drew ∧ Whole w5.drew gb 26 #[.bool true, .int .i64 op, .slice A l.length c] from ⟨HY.out.1.below (below_drew (Below.refl _ _)), below_drew HY.out.2.1, HY.out.2.2.1.below (below_drew (Below.refl _ _)) HY.out.2.2.1.lt⟩)
      have HNE := Lib.hid (show gb ≠ G from HY.out.2.2.2)
      have hlim : ([op + 128, 254] ++ [(l.length : Int) / 256, (l.length : Int) % 256]).length + 4 ≤ 140737488355328 := by simp
      have hlim2 : (([op + 128, 254] ++ [(l.length : Int) / 256, (l.length : Int) % 256]) ++ mk).length + (maskL mk l).length ≤ 140737488355328 := by have := HN.out; have := HM.out.1; rw [List.length_append, maskL_length]; simp only [List.length_append, List.length_cons, List.length_nil]; omega
      go_upto_region 19 with (fail)
      go_region_held3 (fun w' => w'.cell? ⟨gb, 2, none⟩ = some (.slice A l.length c)) (first | exact H9.out.2.2.cell 2 _ rfl | exact HE.out.2.2.1.1.cell 2 _ rfl | exact HB.out.2.2.1.1.cell 2 _ rfl | exact HA.out.2.2.1.cell 2 _ rfl | exact HC.out.2.2.1.cell 2 _ rfl | exact HD.out.2.2.cell 2 _ rfl) (first | (refine app_row_step (s := .tmp 89) (x := .tmp 93) HB.out.1 HB.out.2.2.2 HB.out.2.1 hlim2 (by rfl) rfl rfl rfl ?_; intro v9 w9 ho9 hb9 hg9 _; have H9 := Lib.hid (show Own w w9 v9 (([op + 128, 254] ++ [(l.length : Int) / 256, (l.length : Int) % 256]) ++ mk ++ maskL mk l) ∧ Below w.heap.size w w9 ∧ Whole w9 gb 26 #[.bool true, .int .i64 op, .slice A l.length c] from ⟨ho9, hb9, HB.out.2.2.1.1.grown hg9 HB.out.2.2.1.2⟩); clear ho9 hb9 hg9) | (refine app_row_step (s := .tmp 89) (x := .tmp 93) HE.out.1 HE.out.2.2.2 HE.out.2.1 hlim2 (by rfl) rfl rfl rfl ?_; intro v9 w9 ho9 hb9 hg9 _; have H9 := Lib.hid (show Own w w9 v9 (([op + 128, 254] ++ [(l.length : Int) / 256, (l.length : Int) % 256]) ++ mk ++ maskL mk l) ∧ Below w.heap.size w w9 ∧ Whole w9 gb 26 #[.bool true, .int .i64 op, .slice A l.length c] from ⟨ho9, hb9, HE.out.2.2.1.1.grown hg9 HE.out.2.2.1.2⟩); clear ho9 hb9 hg9) | (go_at_call 41; (with_reducible refine (masked_calls A c l A1 c1 mk _ (Kd.C_below HI.out.1 HA.out.2.1) HI.out.2.2.2.2.2 (Kd.C_below HM.out.2.2.1 HA.out.2.1) (by have := HN.out; omega)).mono ?_); rintro e w6 ⟨v6, rfl, ho6, hb6⟩; obtain ⟨A6, c6, rfl, _, hr6⟩ := ho6.reads; have HB := Lib.hid (show Own w w6 v5 (([op + 128, 254] ++ [(l.length : Int) / 256, (l.length : Int) % 256]) ++ mk) ∧ Below w.heap.size w w6 ∧ (Whole w6 gb 26 #[.bool true, .int .i64 op, .slice A l.length c] ∧ some gb ≠ v5.ownBlock) ∧ Rd w6 A6 (maskL mk l).length (maskL mk l) from ⟨HA.out.1.below hb6, below_step HA.out.2.1 hb6, ⟨HA.out.2.2.1.below hb6 HA.out.2.2.1.lt, HA.out.2.2.2⟩, hr6⟩); clear ho6 hb6 hr6) | (go_at_call 41; (with_reducible refine (masked_calls A c l A1 c1 mk _ (Kd.C_below HI.out.1 HD.out.2.1) HI.out.2.2.2.2.2 (Kd.C_below HM.out.2.2.1 HD.out.2.1) (by have := HN.out; omega)).mono ?_); rintro e w6 ⟨v6, rfl, ho6, hb6⟩; have hap := Own.apart HD.out.1 ho6 (Nat.le_refl _) (Or.inr (by simp [Value.ownBlock])); obtain ⟨A6, c6, rfl, _, _⟩ := ho6.reads; have HC := Lib.hid (show Own w w6 (.slice (some ⟨G, 0, none⟩) ([op + 128, 254] ++ [(l.length : Int) / 256, (l.length : Int) % 256]).length c5) ([op + 128, 254] ++ [(l.length : Int) / 256, (l.length : Int) % 256]) ∧ Below w.heap.size w w6 ∧ Whole w6 gb 26 #[.bool true, .int .i64 op, .slice A l.length c] ∧ Own w5.drew w6 (.slice A6 (maskL mk l).length c6) (maskL mk l) ∧ (Value.ownBlock (.slice (some ⟨G, 0, none⟩) ([op + 128, 254] ++ [(l.length : Int) / 256, (l.length : Int) % 256]).length c5) ≠ Value.ownBlock (.slice A6 (maskL mk l).length c6)) from ⟨HD.out.1.below hb6, below_step HD.out.2.1 hb6, HD.out.2.2.below hb6 HD.out.2.2.lt, ho6, hap⟩); clear ho6 hb6 hap) | (refine app_row_step (s := .tmp 87) (x := .tmp 88) HC.out.1 (Kd.C_below HM.out.2.2.1 HC.out.2.1) HC.out.2.1 hlim (by rfl) rfl rfl rfl ?_; intro v5 w5 ho5 hb5 hg5 hat5; have HE := Lib.hid (show Own w w5 v5 (([op + 128, 254] ++ [(l.length : Int) / 256, (l.length : Int) % 256]) ++ mk) ∧ Below w.heap.size w w5 ∧ (Whole w5 gb 26 #[.bool true, .int .i64 op, .slice A l.length c] ∧ some gb ≠ v5.ownBlock) ∧ Rd w5 A6 (maskL mk l).length (maskL mk l) from ⟨ho5, hb5, ⟨HC.out.2.2.1.grown hg5 (by have := HNE.out; simp [Value.ownBlock]; omega), ne_after hat5 (by have := HNE.out; simp [Value.ownBlock]; omega) HC.out.2.2.1.lt⟩, (Kd.R_reads' (HC.out.2.2.2.1.stay hg5 HC.out.2.2.2.2)).2.2⟩); clear ho5 hb5 hg5 hat5) | (refine app_row_step (s := .tmp 87) (x := .tmp 88) HD.out.1 (Kd.C_below HM.out.2.2.1 HD.out.2.1) HD.out.2.1 hlim (by rfl) rfl rfl rfl ?_; intro v5 w5 ho5 hb5 hg5 hat5; have HA := Lib.hid (show Own w w5 v5 (([op + 128, 254] ++ [(l.length : Int) / 256, (l.length : Int) % 256]) ++ mk) ∧ Below w.heap.size w w5 ∧ Whole w5 gb 26 #[.bool true, .int .i64 op, .slice A l.length c] ∧ some gb ≠ v5.ownBlock from ⟨ho5, hb5, HD.out.2.2.grown hg5 (by have := HNE.out; simp [Value.ownBlock]; omega), ne_after hat5 (by have := HNE.out; simp [Value.ownBlock]; omega) HD.out.2.2.lt⟩); clear ho5 hb5 hg5 hat5) | (fail))
      all_goals
        go_wp2
        go_ret2
        exact ⟨_, by rw [HM.out.2.1]; rfl, H9.out.1.cast (by rw [if_pos HM.out.2.1]; exact wr_g4 (fin := true) (op := op) HM.out.1 HN.out.1 HSZ.out), H9.out.2.1⟩
    | false =>
      go_enter Tryd.func19, Tryd.ntmps19
      go_upto_region 1 with (fail)
      rw [← HS.out.1, ← HS.out.2]
      go_wp2_with fail
      refine (known_calls op _).mono ?_
      rintro e w' ⟨rfl, rfl⟩
      rw [HK.out]
      go_wp2_with fail
      refine (control_calls op _).mono ?_
      rintro e w' ⟨rfl, rfl⟩
      go_upto_region 9 with (fail)
      rw [← HW1.out.1, ← HW1.out.2]
      clear q0 q1 q2
      have q0 := HAT.out.2.1.cell 0 _ rfl
      have q1 := HAT.out.2.1.cell 1 _ rfl
      have q2 := HAT.out.2.1.cell 2 _ rfl
      obtain ⟨z0, y0⟩ := Own.cell HAT.out.1 0 (by decide)
      obtain ⟨z1, y1⟩ := Own.cell HAT.out.1 1 (by decide)
      simp only [rd, Int.toNat_natCast, List.getD_cons_zero, List.getD_cons_succ] at z0 z1
      go_upto_region 13 with (fail)
      have HX1 := Lib.hid (HAT.out.set1 (128))
      generalize W1.setCell ⟨g, 1, none⟩ (.int .u8 (128)) = X1 at HX1 ⊢
      clear z0 y0 z1 y1 q0 q1 q2 HAT
      have q0 := HX1.out.2.1.cell 0 _ rfl
      have q1 := HX1.out.2.1.cell 1 _ rfl
      have q2 := HX1.out.2.1.cell 2 _ rfl
      obtain ⟨z0, y0⟩ := Own.cell HX1.out.1 0 (by decide)
      obtain ⟨z1, y1⟩ := Own.cell HX1.out.1 1 (by decide)
      simp only [rd, Int.toNat_natCast, List.getD_cons_zero, List.getD_cons_succ] at z0 z1
      go_upto_region 16 with (fail)
      have HX2 := Lib.hid (HX1.out.set1 (254))
      generalize X1.setCell ⟨g, 1, none⟩ (.int .u8 (254)) = X2 at HX2 ⊢
      clear z0 y0 z1 y1 q0 q1 q2 HX1
      have q0 := HX2.out.2.1.cell 0 _ rfl
      have q1 := HX2.out.2.1.cell 1 _ rfl
      have q2 := HX2.out.2.1.cell 2 _ rfl
      obtain ⟨z0, y0⟩ := Own.cell HX2.out.1 0 (by decide)
      obtain ⟨z1, y1⟩ := Own.cell HX2.out.1 1 (by decide)
      simp only [rd, Int.toNat_natCast, List.getD_cons_zero, List.getD_cons_succ] at z0 z1
      go_wp2_with (at_builtin; refine app_row (Kd.R_alloc HX2.out.1 _) (C_const _ 5 [(l.length : Int) / 256, (l.length : Int) % 256] (0, 0) (by simp)) (below_alloc HX2.out.2.2.1 _) (by simp) rfl rfl rfl rfl ?_)
      intro v5 w5 ho5 hb5 hg5 hat5
      have hk5 := ((HX2.out.2.1.below (below_alloc (Below.refl _ _) _) HX2.out.2.1.lt).grown hg5 (by have := HX2.out.2.2.2.2; simp [Value.ownBlock]; omega))
      have hng : some gb ≠ (Value.slice (some ⟨g, 0, none⟩) 2 2).ownBlock := fun e => HX2.out.2.2.2.2 (by injection e with e; exact e.symm)
      have hne5 : some gb ≠ v5.ownBlock := by
        refine ne_after hat5 hng ?_
        have := HX2.out.2.1.lt
        omega
      clear hng
      obtain ⟨G, c5, rfl, _⟩ := ho5.form (by simp)
      have HY := Lib.hid (show Own w w5 (.slice (some ⟨G, 0, none⟩) ([op, 254] ++ [(l.length : Int) / 256, (l.length : Int) % 256]).length c5) ([op, 254] ++ [(l.length : Int) / 256, (l.length : Int) % 256]) ∧ Below w.heap.size w w5 ∧ Whole w5 gb 26 #[.bool false, .int .i64 op, .slice A l.length c] ∧ gb ≠ G from ⟨ho5, hb5, hk5, fun e => hne5 (by rw [e]; rfl)⟩)
      clear ho5 hb5 hg5 hk5 hat5 hne5 z0 y0 z1 y1 q0 q1 q2
      have q2 := HY.out.2.2.1.cell 2 _ rfl
      have HD := Lib.hid (show Own w w5.drew (.slice (some ⟨G, 0, none⟩) ([op, 254] ++ [(l.length : Int) / 256, (l.length : Int) % 256]).length c5) ([op, 254] ++ [(l.length : Int) / 256, (l.length : Int) % 256]) ∧ Below w.heap.size w w5.drew ∧ Whole w5.drew gb 26 #[.bool false, .int .i64 op, .slice A l.length c] from ⟨HY.out.1.below (below_drew (Below.refl _ _)), below_drew HY.out.2.1, HY.out.2.2.1.below (below_drew (Below.refl _ _)) HY.out.2.2.1.lt⟩)
      have HNE := Lib.hid (show gb ≠ G from HY.out.2.2.2)
      have hlim : ([op, 254] ++ [(l.length : Int) / 256, (l.length : Int) % 256]).length + 4 ≤ 140737488355328 := by simp
      have hlim2 : (([op, 254] ++ [(l.length : Int) / 256, (l.length : Int) % 256]) ++ mk).length + (maskL mk l).length ≤ 140737488355328 := by have := HN.out; have := HM.out.1; rw [List.length_append, maskL_length]; simp only [List.length_append, List.length_cons, List.length_nil]; omega
      go_upto_region 19 with (fail)
      go_region_held3 (fun w' => w'.cell? ⟨gb, 2, none⟩ = some (.slice A l.length c)) (first | exact H9.out.2.2.cell 2 _ rfl | exact HE.out.2.2.1.1.cell 2 _ rfl | exact HB.out.2.2.1.1.cell 2 _ rfl | exact HA.out.2.2.1.cell 2 _ rfl | exact HC.out.2.2.1.cell 2 _ rfl | exact HD.out.2.2.cell 2 _ rfl) (first | (refine app_row_step (s := .tmp 89) (x := .tmp 93) HB.out.1 HB.out.2.2.2 HB.out.2.1 hlim2 (by rfl) rfl rfl rfl ?_; intro v9 w9 ho9 hb9 hg9 _; have H9 := Lib.hid (show Own w w9 v9 (([op, 254] ++ [(l.length : Int) / 256, (l.length : Int) % 256]) ++ mk ++ maskL mk l) ∧ Below w.heap.size w w9 ∧ Whole w9 gb 26 #[.bool false, .int .i64 op, .slice A l.length c] from ⟨ho9, hb9, HB.out.2.2.1.1.grown hg9 HB.out.2.2.1.2⟩); clear ho9 hb9 hg9) | (refine app_row_step (s := .tmp 89) (x := .tmp 93) HE.out.1 HE.out.2.2.2 HE.out.2.1 hlim2 (by rfl) rfl rfl rfl ?_; intro v9 w9 ho9 hb9 hg9 _; have H9 := Lib.hid (show Own w w9 v9 (([op, 254] ++ [(l.length : Int) / 256, (l.length : Int) % 256]) ++ mk ++ maskL mk l) ∧ Below w.heap.size w w9 ∧ Whole w9 gb 26 #[.bool false, .int .i64 op, .slice A l.length c] from ⟨ho9, hb9, HE.out.2.2.1.1.grown hg9 HE.out.2.2.1.2⟩); clear ho9 hb9 hg9) | (go_at_call 41; (with_reducible refine (masked_calls A c l A1 c1 mk _ (Kd.C_below HI.out.1 HA.out.2.1) HI.out.2.2.2.2.2 (Kd.C_below HM.out.2.2.1 HA.out.2.1) (by have := HN.out; omega)).mono ?_); rintro e w6 ⟨v6, rfl, ho6, hb6⟩; obtain ⟨A6, c6, rfl, _, hr6⟩ := ho6.reads; have HB := Lib.hid (show Own w w6 v5 (([op, 254] ++ [(l.length : Int) / 256, (l.length : Int) % 256]) ++ mk) ∧ Below w.heap.size w w6 ∧ (Whole w6 gb 26 #[.bool false, .int .i64 op, .slice A l.length c] ∧ some gb ≠ v5.ownBlock) ∧ Rd w6 A6 (maskL mk l).length (maskL mk l) from ⟨HA.out.1.below hb6, below_step HA.out.2.1 hb6, ⟨HA.out.2.2.1.below hb6 HA.out.2.2.1.lt, HA.out.2.2.2⟩, hr6⟩); clear ho6 hb6 hr6) | (go_at_call 41; (with_reducible refine (masked_calls A c l A1 c1 mk _ (Kd.C_below HI.out.1 HD.out.2.1) HI.out.2.2.2.2.2 (Kd.C_below HM.out.2.2.1 HD.out.2.1) (by have := HN.out; omega)).mono ?_); rintro e w6 ⟨v6, rfl, ho6, hb6⟩; have hap := Own.apart HD.out.1 ho6 (Nat.le_refl _) (Or.inr (by simp [Value.ownBlock])); obtain ⟨A6, c6, rfl, _, _⟩ := ho6.reads; have HC := Lib.hid (show Own w w6 (.slice (some ⟨G, 0, none⟩) ([op, 254] ++ [(l.length : Int) / 256, (l.length : Int) % 256]).length c5) ([op, 254] ++ [(l.length : Int) / 256, (l.length : Int) % 256]) ∧ Below w.heap.size w w6 ∧ Whole w6 gb 26 #[.bool false, .int .i64 op, .slice A l.length c] ∧ Own w5.drew w6 (.slice A6 (maskL mk l).length c6) (maskL mk l) ∧ (Value.ownBlock (.slice (some ⟨G, 0, none⟩) ([op, 254] ++ [(l.length : Int) / 256, (l.length : Int) % 256]).length c5) ≠ Value.ownBlock (.slice A6 (maskL mk l).length c6)) from ⟨HD.out.1.below hb6, below_step HD.out.2.1 hb6, HD.out.2.2.below hb6 HD.out.2.2.lt, ho6, hap⟩); clear ho6 hb6 hap) | (refine app_row_step (s := .tmp 87) (x := .tmp 88) HC.out.1 (Kd.C_below HM.out.2.2.1 HC.out.2.1) HC.out.2.1 hlim (by rfl) rfl rfl rfl ?_; intro v5 w5 ho5 hb5 hg5 hat5; have HE := Lib.hid (show Own w w5 v5 (([op, 254] ++ [(l.length : Int) / 256, (l.length : Int) % 256]) ++ mk) ∧ Below w.heap.size w w5 ∧ (Whole w5 gb 26 #[.bool false, .int .i64 op, .slice A l.length c] ∧ some gb ≠ v5.ownBlock) ∧ Rd w5 A6 (maskL mk l).length (maskL mk l) from ⟨ho5, hb5, ⟨HC.out.2.2.1.grown hg5 (by have := HNE.out; simp [Value.ownBlock]; omega), ne_after hat5 (by have := HNE.out; simp [Value.ownBlock]; omega) HC.out.2.2.1.lt⟩, (Kd.R_reads' (HC.out.2.2.2.1.stay hg5 HC.out.2.2.2.2)).2.2⟩); clear ho5 hb5 hg5 hat5) | (refine app_row_step (s := .tmp 87) (x := .tmp 88) HD.out.1 (Kd.C_below HM.out.2.2.1 HD.out.2.1) HD.out.2.1 hlim (by rfl) rfl rfl rfl ?_; intro v5 w5 ho5 hb5 hg5 hat5; have HA := Lib.hid (show Own w w5 v5 (([op, 254] ++ [(l.length : Int) / 256, (l.length : Int) % 256]) ++ mk) ∧ Below w.heap.size w w5 ∧ Whole w5 gb 26 #[.bool false, .int .i64 op, .slice A l.length c] ∧ some gb ≠ v5.ownBlock from ⟨ho5, hb5, HD.out.2.2.grown hg5 (by have := HNE.out; simp [Value.ownBlock]; omega), ne_after hat5 (by have := HNE.out; simp [Value.ownBlock]; omega) HD.out.2.2.lt⟩); clear ho5 hb5 hg5 hat5) | (fail))
      all_goals
        go_wp2
        go_ret2
        exact ⟨_, by rw [HM.out.2.1]; rfl, H9.out.1.cast (by rw [if_pos HM.out.2.1]; exact wr_g4 (fin := false) (op := op) HM.out.1 HN.out.1 HSZ.out), H9.out.2.1⟩
/-- wsock.Write, of any frame and any mask. -/
theorem WsWrite_calls {n m : Nat} (fin : Bool) (op : Int) (A : Option Addr) (c : Nat) (l : List Int) (A1 : Option Addr) (c1 : Nat) (mk : List Int) (w : World) (hr : Rd w A n l) (hc : n ≤ c) (hb : Bytes l) (hs : n ≤ 140737488351232) (hrm : Rd w A1 m mk) (hcm : m ≤ c1) :
    Calls Tryd.prog 19 #[.agg #[.bool fin, .int .i64 op, .slice A n c], .slice A1 m c1] w (WrPost ⟨fin, op, l⟩ mk w) := by
  have hml := Kd.C_len hrm
  by_cases hE : wrE ⟨fin, op, l⟩ m = 0
  · rcases (wrE_ok hE).1 with rfl | rfl
    · by_cases hn : n ≤ 125
      · exact WsWrite_0s fin op A c l A1 c1 mk w hr hc hb hs hrm hcm hE hn
      · exact WsWrite_0g fin op A c l A1 c1 mk w hr hc hb hs hrm hcm hE (by omega)
    · by_cases hn : n ≤ 125
      · exact WsWrite_4s fin op A c l A1 c1 mk w hr hc hb hs hrm hcm hE hn
      · exact WsWrite_4g fin op A c l A1 c1 mk w hr hc hb hs hrm hcm hE (by omega)
  · exact WsWrite_no fin op A c l A1 c1 mk w hr hc hb hs hml hE
end Go.Proofs.YtcfbfmgckaehdaaDoor
