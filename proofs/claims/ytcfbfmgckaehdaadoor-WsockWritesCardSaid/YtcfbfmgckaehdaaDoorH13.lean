/- The texts WsWriteRef in one. -/
import Derived.Test.YtcfbfmgckaehdaaDoorH12
namespace Go.Proofs.YtcfbfmgckaehdaaDoor
open Go.RowKit Go.Proofs.YtcfbfmgckaehdaaDoorW.PrintWords
theorem take_one (l : List Int) (k : Nat) (h : k < l.length) : l.take (k + 1) = l.take k ++ [rd l (k : Nat)] := by rw [List.take_succ_eq_append_getElem h, rd_get l k h]
set_option maxHeartbeats 1600000 in
theorem WsWriteRef_no {n : Nat} (fin : Bool) (op : Int) (A : Option Addr) (c : Nat) (l : List Int) (A1 : Option Addr) (c1 : Nat) (mk : List Int) (w : World) (hr : Rd w A n l) (hc : n ≤ c) (hb : Bytes l) {m : Nat} (hs : n ≤ 140737488351232) (hm : mk.length = m) (hE : wrE ⟨fin, op, l⟩ m ≠ 0) :
    Calls Tryd.prog 21 #[.agg #[.bool fin, .int .i64 op, .slice A n c], .slice A1 m c1] w (WrPost ⟨fin, op, l⟩ mk w) := by
  have hlen := Kd.C_len hr
  subst hlen
  obtain ⟨gb, hgb⟩ : ∃ g, g = w.heap.size := ⟨_, rfl⟩
  obtain ⟨W0, hW0⟩ : ∃ W0, W0 = w.alloc (.cells #[.bool fin, .int .i64 op, .slice A l.length c] 26) := ⟨_, rfl⟩
  have hb0 : Below w.heap.size w W0 := by rw [hW0]; exact below_alloc (Below.refl _ _) _
  have hk0 : Whole W0 gb 26 #[.bool fin, .int .i64 op, .slice A l.length c] := by rw [hW0, hgb]; exact Whole.new w _ _
  have HS := Lib.hid (show gb = w.heap.size ∧ W0 = w.alloc _ from ⟨hgb, hW0⟩)
  have HI := Lib.hid (show Rd w A l.length l ∧ Bytes l ∧ Below w.heap.size w W0 ∧ Whole W0 gb 26 #[.bool fin, .int .i64 op, .slice A l.length c] ∧ l.length ≤ 140737488351232 ∧ l.length ≤ c from ⟨hr, hb, hb0, hk0, hs, hc⟩)
  have q0 := hk0.cell 0 _ rfl
  have q1 := hk0.cell 1 _ rfl
  have q2 := hk0.cell 2 _ rfl
  clear hr hb hb0 hk0 hgb hW0 hs hc
  have HM := Lib.hid hm
  clear hm
  by_cases h0 : m ≠ 0 ∧ m ≠ 4
  · have e0 : ((m : Int) != 0) = true := by unfold bne; rw [beq_eq_false_iff_ne.2 (by omega)]; rfl
    have e4 : ((m : Int) != 4) = true := by unfold bne; rw [beq_eq_false_iff_ne.2 (by omega)]; rfl
    have HV := Lib.hid (show wrE ⟨fin, op, l⟩ mk.length = 1 by rw [HM.out]; unfold wrE; rw [if_pos h0])
    clear h0 hE
    go_enter Tryd.func21, Tryd.ntmps21
    go_upto_region 1 with (fail)
    rw [← HS.out.1, ← HS.out.2]
    go_wp2
    go_ret2
    exact ⟨.slice none 0 0, by rw [HV.out]; rfl, by rw [HV.out]; exact Own.nil _ _, HI.out.2.2.1⟩
  · have hm4 : m = 0 ∨ m = 4 := by omega
    have hU : wrE ⟨fin, op, l⟩ m = if (!knownB op || (decide (8 ≤ op) && (!fin || decide (125 < l.length)))) = true then 90 else if 16384 < l.length then 4 else 0 := by unfold wrE; rw [if_neg h0]
    have HU := Lib.hid (show wrE ⟨fin, op, l⟩ mk.length = (if (!knownB op || (decide (8 ≤ op) && (!fin || decide (125 < l.length)))) = true then 90 else if 16384 < l.length then 4 else 0) by rw [HM.out]; exact hU)
    rw [hU] at hE
    clear hU h0
    have d125 : ∀ b, decide (125 < l.length) = b → decide (125 < (l.length : Int)) = b := fun b h => by rw [← h, decide_eq_decide]; omega
    cases hk : knownB op with
    | false =>
      have HK := Lib.hid hk
      have HV := Lib.hid (show wrE ⟨fin, op, l⟩ mk.length = 90 by rw [HU.out, hk]; rfl)
      clear hk hE d125
      rcases hm4 with rfl | rfl
      all_goals
        go_enter Tryd.func21, Tryd.ntmps21
        go_upto_region 1 with (fail)
        rw [← HS.out.1, ← HS.out.2]
        go_wp2_with fail
        refine (knownRef_calls op _).mono ?_
        rintro e w' ⟨rfl, rfl⟩
        rw [HK.out]
        go_wp2
        go_ret2
        exact ⟨.slice none 0 0, by rw [HV.out]; rfl, by rw [HV.out]; exact Own.nil _ _, HI.out.2.2.1⟩
    | true =>
      have HK := Lib.hid hk
      rw [hk] at hE
      cases h8 : decide (8 ≤ op) with
      | true =>
        rw [h8] at hE
        cases fin with
        | false =>
          have HV := Lib.hid (show wrE ⟨false, op, l⟩ mk.length = 90 by rw [HU.out, hk, h8]; rfl)
          clear hk hE d125
          rcases hm4 with rfl | rfl
          all_goals
            go_enter Tryd.func21, Tryd.ntmps21
            go_upto_region 1 with (fail)
            rw [← HS.out.1, ← HS.out.2]
            go_wp2_with fail
            refine (knownRef_calls op _).mono ?_
            rintro e w' ⟨rfl, rfl⟩
            rw [HK.out]
            go_wp2
            go_ret2
            exact ⟨.slice none 0 0, by rw [HV.out]; rfl, by rw [HV.out]; exact Own.nil _ _, HI.out.2.2.1⟩
        | true =>
          cases hl : decide (125 < l.length) with
          | true =>
            have e1 := d125 _ hl
            have HV := Lib.hid (show wrE ⟨true, op, l⟩ mk.length = 90 by rw [HU.out, hk, h8, hl]; rfl)
            clear hk hE d125
            rcases hm4 with rfl | rfl
            all_goals
              go_enter Tryd.func21, Tryd.ntmps21
              go_upto_region 1 with (fail)
              rw [← HS.out.1, ← HS.out.2]
              go_wp2_with fail
              refine (knownRef_calls op _).mono ?_
              rintro e w' ⟨rfl, rfl⟩
              rw [HK.out]
              go_wp2
              go_ret2
              exact ⟨.slice none 0 0, by rw [HV.out]; rfl, by rw [HV.out]; exact Own.nil _ _, HI.out.2.2.1⟩
          | false =>
            exfalso
            apply hE
            rw [hl]
            rw [decide_eq_false_iff_not] at hl
            simp only [Bool.not_true, Bool.or_false, Bool.and_false, Bool.false_eq_true, if_false]
            rw [if_neg (by omega)]
      | false =>
        rw [h8] at hE
        have hbig : 16384 < l.length := by
          rcases Nat.lt_or_ge 16384 l.length with h | h
          · exact h
          · exfalso
            apply hE
            simp only [Bool.not_true, Bool.false_and, Bool.or_false, Bool.false_eq_true, if_false]
            rw [if_neg (by omega)]
        have e1 : decide (16384 < (l.length : Int)) = true := decide_eq_true (by omega)
        have e2 : decide (16384 < l.length) = true := decide_eq_true hbig
        have HV := Lib.hid (show wrE ⟨fin, op, l⟩ mk.length = 4 by rw [HU.out, hk, h8]; simp only [Bool.not_true, Bool.false_and, Bool.or_false, Bool.false_eq_true, if_false]; rw [if_pos hbig])
        clear hk hE d125 hbig
        rcases hm4 with rfl | rfl
        all_goals
          go_enter Tryd.func21, Tryd.ntmps21
          go_upto_region 1 with (fail)
          rw [← HS.out.1, ← HS.out.2]
          go_wp2_with fail
          refine (knownRef_calls op _).mono ?_
          rintro e w' ⟨rfl, rfl⟩
          rw [HK.out]
          go_wp2
          go_ret2
          exact ⟨.slice none 0 0, by rw [HV.out]; rfl, by rw [HV.out]; exact Own.nil _ _, HI.out.2.2.1⟩
set_option maxRecDepth 20000 in
set_option maxHeartbeats 3200000 in
theorem WsWriteRef_0s {n : Nat} (fin : Bool) (op : Int) (A : Option Addr) (c : Nat) (l : List Int) (A1 : Option Addr) (c1 : Nat) (mk : List Int) (w : World) (hr : Rd w A n l) (hc : n ≤ c) (hb : Bytes l) (hs : n ≤ 140737488351232) (hrm : Rd w A1 0 mk) (hE : wrE ⟨fin, op, l⟩ 0 = 0) (hn : n ≤ 125) :
    Calls Tryd.prog 21 #[.agg #[.bool fin, .int .i64 op, .slice A n c], .slice A1 0 c1] w (WrPost ⟨fin, op, l⟩ mk w) := by
  have hml := Kd.C_len hrm
  obtain ⟨_, hk, h8, hbig⟩ := wrE_ok hE
  simp only at hk h8 hbig
  have hop := known_cases hk
  have hlen := Kd.C_len hr
  subst hlen
  obtain ⟨gb, hgb⟩ : ∃ g, g = w.heap.size := ⟨_, rfl⟩
  obtain ⟨W0, hW0⟩ : ∃ W0, W0 = w.alloc (.cells #[.bool fin, .int .i64 op, .slice A l.length c] 26) := ⟨_, rfl⟩
  have hb0 : Below w.heap.size w W0 := by rw [hW0]; exact below_alloc (Below.refl _ _) _
  have hk0 : Whole W0 gb 26 #[.bool fin, .int .i64 op, .slice A l.length c] := by rw [hW0, hgb]; exact Whole.new w _ _
  have HS := Lib.hid (show gb = w.heap.size ∧ W0 = w.alloc _ from ⟨hgb, hW0⟩)
  have HI := Lib.hid (show Rd w A l.length l ∧ Bytes l ∧ Below w.heap.size w W0 ∧ Whole W0 gb 26 #[.bool fin, .int .i64 op, .slice A l.length c] ∧ l.length ≤ 140737488351232 ∧ l.length ≤ c from ⟨hr, hb, hb0, hk0, hs, hc⟩)
  have q0 := hk0.cell 0 _ rfl
  have q1 := hk0.cell 1 _ rfl
  have q2 := hk0.cell 2 _ rfl
  clear hr hb hb0 hk0 hgb hW0 hs hc
  have HK := Lib.hid hk
  have HM := Lib.hid (show mk.length = 0 ∧ wrE ⟨fin, op, l⟩ mk.length = 0 ∧ Rd w A1 0 mk from ⟨hml, by rw [hml]; exact hE, hrm⟩)
  clear hml hE hrm hk
  have e16 : decide (16384 < (l.length : Int)) = false := decide_eq_false (by omega)
  have e16' : decide (16384 < l.length) = false := decide_eq_false (by omega)
  have e125 : decide (125 < (l.length : Int)) = false := decide_eq_false (by omega)
  have e125' : decide (125 < l.length) = false := decide_eq_false (by omega)
  have wop : IntKind.u8.wrap op = op := by rw [IntKind.wrap_u8]; omega
  have wop2 : IntKind.u8.wrap (op + 128) = op + 128 := by rw [IntKind.wrap_u8]; omega
  have wop3 : IntKind.i64.wrap (op + 128) = op + 128 := wrap_id (by omega) (by omega)
  have wn : IntKind.u8.wrap ((l.length : Int)) = (l.length : Int) := by rw [IntKind.wrap_u8]; omega
  have HSZ := Lib.hid (show ((l.length : Int) : Int) = sizeF 0 l.length by unfold sizeF; rw [if_pos (by omega)]; omega)
  have HN := Lib.hid (show l.length ≤ 125 ∧ l.length ≤ 16384 from ⟨by omega, hbig⟩)
  clear hop
  cases h8c : decide (8 ≤ op) with
  | true =>
    obtain ⟨hfin, hsm⟩ := h8 (of_decide_eq_true h8c)
    subst hfin
    clear h8 hsm hn hbig
    go_enter Tryd.func21, Tryd.ntmps21
    go_upto_region 1 with (fail)
    rw [← HS.out.1, ← HS.out.2]
    go_wp2_with fail
    refine (knownRef_calls op _).mono ?_
    rintro e w' ⟨rfl, rfl⟩
    rw [HK.out]
    go_upto_region 16 with (fail)
    obtain ⟨W1, hW1⟩ : ∃ W1, W1 = w'.alloc (.cells #[.int .u8 (op + 128), .int .u8 ((l.length : Int))] 5) := ⟨_, rfl⟩
    obtain ⟨g, hg⟩ : ∃ g, g = w'.heap.size := ⟨_, rfl⟩
    have HAT := Lib.hid (show WrAt w W1 gb g true op A l.length c (op + 128) ((l.length : Int)) from ⟨by rw [hW1, hg]; exact lit_two HI.out.2.2.1 _ _, HI.out.2.2.2.1.below (by rw [hW1]; exact below_alloc (Below.refl _ _) _) HI.out.2.2.2.1.lt, below_step HI.out.2.2.1 (by rw [hW1]; exact below_alloc (Below.refl _ _) _), by rw [hg]; exact HI.out.2.2.1.size, by have := HI.out.2.2.2.1.lt; omega⟩)
    rw [← hW1, ← hg]
    clear hW1 hg q0 q1 q2
    have HY := Lib.hid (show Own w W1 (.slice (some ⟨g, 0, none⟩) 2 2) [op + 128, (l.length : Int)] ∧ Below w.heap.size w W1 ∧ Whole W1 gb 26 #[.bool true, .int .i64 op, .slice A l.length c] ∧ some gb ≠ (Value.slice (some ⟨g, 0, none⟩) 2 2).ownBlock from ⟨HAT.out.1, HAT.out.2.2.1, HAT.out.2.1, fun e => HAT.out.2.2.2.2 (Option.some.inj e).symm⟩)
    clear HAT
    go_wp2_with (at_builtin; refine app_row HY.out.1 (Kd.C_below HM.out.2.2 HY.out.2.1) HY.out.2.1 (by simp) rfl rfl rfl rfl ?_)
    intro v6 w6 ho6 hb6 hg6 hat6
    have H6 := Lib.hid (show Own w w6 v6 ([op + 128, (l.length : Int)] ++ mk) ∧ Below w.heap.size w w6 ∧ Whole w6 gb 26 #[.bool true, .int .i64 op, .slice A l.length c] from ⟨ho6, hb6, HY.out.2.2.1.grown hg6 HY.out.2.2.2⟩)
    clear ho6 hb6 hg6 hat6 HY
    have q2 := H6.out.2.2.cell 2 _ rfl
    obtain ⟨R, hR⟩ : ∃ R, R = [op + 128, (l.length : Int)] ++ mk := ⟨_, rfl⟩
    have hRl : R.length ≤ 8 := by rw [hR]; simp only [List.length_append, List.length_cons, List.length_nil, HM.out.1]; omega
    have HR := Lib.hid (And.intro hR hRl)
    clear hR hRl
    obtain ⟨D, hD⟩ : ∃ D, D = l := ⟨_, rfl⟩
    have hDl : D.length = l.length := by rw [hD]
    have HD := Lib.hid (And.intro hD hDl)
    clear hD hDl
    go_wp2_with fail
    clear q2
    go_loopw [9, 79] (fun v i wr => ∃ k : Nat, i = .int .i64 k ∧ k ≤ l.length ∧ Hid (Own w wr v (R ++ D.take k) ∧ Below w.heap.size w wr)) (fun _ i _ => l.length - (intOf i).toNat)
    case atStart => exact ⟨0, rfl, by omega, Lib.hid ⟨H6.out.1.cast (by rw [HR.out.1, List.take_zero, List.append_nil]), H6.out.2.1⟩⟩
    case round =>
      obtain ⟨k, rfl, hk, HA⟩ := hrel
      by_cases hkn : k < l.length
      · have dkn : decide (k < l.length) = true := decide_eq_true hkn
        have dkn' : decide ((k : Int) < l.length) = true := decide_eq_true (by omega)
        have ikn : (k : Int) < l.length := by omega
        have wk : IntKind.i64.wrap ((k : Int) + 1) = k + 1 := wrap_id (by omega) (by have := HN.out; omega)
        obtain ⟨ad, hA, hcl⟩ := Rd.cells (Kd.C_below HI.out.1 HA.out.2) (by omega)
        subst hA
        have hx := hcl k hkn
        obtain ⟨x, hxe⟩ : ∃ x, x = rd l (k : Nat) := ⟨_, rfl⟩
        rw [← hxe] at hx
        clear hcl
        have HST := Lib.hid (show R ++ (D.take k ++ [x]) = R ++ D.take (k + 1) by rw [take_one D k (by rw [HD.out.2]; exact hkn), HD.out.1, hxe])
        clear hxe
        have hlim : (R ++ D.take k).length + 1 ≤ 140737488355328 := by have := HR.out.2; have := HN.out; rw [List.length_append, List.length_take, HD.out.2]; omega
        have HLIM := Lib.hid hlim
        clear hlim
        go_wp2_with (at_builtin; refine app_one HA.out.1 HA.out.2 HLIM.out rfl rfl rfl rfl ?_)
        intro v8 w8 ho8 hb8 _ _
        rw [HST.out] at ho8
        have HN8 := Lib.hid (And.intro ho8 hb8)
        clear ho8 hb8
        go_wp2
        go_roundw
        case rel => exact ⟨k + 1, by go_num, by omega, HN8⟩
        case measure => simp [intOf]; omega
      · obtain rfl : k = l.length := by omega
        have dkn : decide (l.length < l.length) = false := decide_eq_false (by omega)
        go_wp2
        go_ret2
        exact ⟨_, by rw [HM.out.2.1]; rfl, HA.out.1.cast (by rw [if_pos HM.out.2.1, List.take_of_length_le (by rw [HD.out.2]; exact Nat.le_refl _), HR.out.1, HD.out.1]; exact (by rw [List.eq_nil_of_length_eq_zero HM.out.1, List.append_nil]; exact wr_s0 (fin := true) (op := op) rfl HN.out.1 HSZ.out)), HA.out.2⟩
  | false =>
    clear h8 hn hbig
    cases fin with
    | true =>
      go_enter Tryd.func21, Tryd.ntmps21
      go_upto_region 1 with (fail)
      rw [← HS.out.1, ← HS.out.2]
      go_wp2_with fail
      refine (knownRef_calls op _).mono ?_
      rintro e w' ⟨rfl, rfl⟩
      rw [HK.out]
      go_upto_region 16 with (fail)
      obtain ⟨W1, hW1⟩ : ∃ W1, W1 = w'.alloc (.cells #[.int .u8 (op + 128), .int .u8 ((l.length : Int))] 5) := ⟨_, rfl⟩
      obtain ⟨g, hg⟩ : ∃ g, g = w'.heap.size := ⟨_, rfl⟩
      have HAT := Lib.hid (show WrAt w W1 gb g true op A l.length c (op + 128) ((l.length : Int)) from ⟨by rw [hW1, hg]; exact lit_two HI.out.2.2.1 _ _, HI.out.2.2.2.1.below (by rw [hW1]; exact below_alloc (Below.refl _ _) _) HI.out.2.2.2.1.lt, below_step HI.out.2.2.1 (by rw [hW1]; exact below_alloc (Below.refl _ _) _), by rw [hg]; exact HI.out.2.2.1.size, by have := HI.out.2.2.2.1.lt; omega⟩)
      rw [← hW1, ← hg]
      clear hW1 hg q0 q1 q2
      have HY := Lib.hid (show Own w W1 (.slice (some ⟨g, 0, none⟩) 2 2) [op + 128, (l.length : Int)] ∧ Below w.heap.size w W1 ∧ Whole W1 gb 26 #[.bool true, .int .i64 op, .slice A l.length c] ∧ some gb ≠ (Value.slice (some ⟨g, 0, none⟩) 2 2).ownBlock from ⟨HAT.out.1, HAT.out.2.2.1, HAT.out.2.1, fun e => HAT.out.2.2.2.2 (Option.some.inj e).symm⟩)
      clear HAT
      go_wp2_with (at_builtin; refine app_row HY.out.1 (Kd.C_below HM.out.2.2 HY.out.2.1) HY.out.2.1 (by simp) rfl rfl rfl rfl ?_)
      intro v6 w6 ho6 hb6 hg6 hat6
      have H6 := Lib.hid (show Own w w6 v6 ([op + 128, (l.length : Int)] ++ mk) ∧ Below w.heap.size w w6 ∧ Whole w6 gb 26 #[.bool true, .int .i64 op, .slice A l.length c] from ⟨ho6, hb6, HY.out.2.2.1.grown hg6 HY.out.2.2.2⟩)
      clear ho6 hb6 hg6 hat6 HY
      have q2 := H6.out.2.2.cell 2 _ rfl
      obtain ⟨R, hR⟩ : ∃ R, R = [op + 128, (l.length : Int)] ++ mk := ⟨_, rfl⟩
      have hRl : R.length ≤ 8 := by rw [hR]; simp only [List.length_append, List.length_cons, List.length_nil, HM.out.1]; omega
      have HR := Lib.hid (And.intro hR hRl)
      clear hR hRl
      obtain ⟨D, hD⟩ : ∃ D, D = l := ⟨_, rfl⟩
      have hDl : D.length = l.length := by rw [hD]
      have HD := Lib.hid (And.intro hD hDl)
      clear hD hDl
      go_wp2_with fail
      clear q2
      go_loopw [9, 79] (fun v i wr => ∃ k : Nat, i = .int .i64 k ∧ k ≤ l.length ∧ Hid (Own w wr v (R ++ D.take k) ∧ Below w.heap.size w wr)) (fun _ i _ => l.length - (intOf i).toNat)
      case atStart => exact ⟨0, rfl, by omega, Lib.hid ⟨H6.out.1.cast (by rw [HR.out.1, List.take_zero, List.append_nil]), H6.out.2.1⟩⟩
      case round =>
        obtain ⟨k, rfl, hk, HA⟩ := hrel
        by_cases hkn : k < l.length
        · have dkn : decide (k < l.length) = true := decide_eq_true hkn
          have dkn' : decide ((k : Int) < l.length) = true := decide_eq_true (by omega)
          have ikn : (k : Int) < l.length := by omega
          have wk : IntKind.i64.wrap ((k : Int) + 1) = k + 1 := wrap_id (by omega) (by have := HN.out; omega)
          obtain ⟨ad, hA, hcl⟩ := Rd.cells (Kd.C_below HI.out.1 HA.out.2) (by omega)
          subst hA
          have hx := hcl k hkn
          obtain ⟨x, hxe⟩ : ∃ x, x = rd l (k : Nat) := ⟨_, rfl⟩
          rw [← hxe] at hx
          clear hcl
          have HST := Lib.hid (show R ++ (D.take k ++ [x]) = R ++ D.take (k + 1) by rw [take_one D k (by rw [HD.out.2]; exact hkn), HD.out.1, hxe])
          clear hxe
          have hlim : (R ++ D.take k).length + 1 ≤ 140737488355328 := by have := HR.out.2; have := HN.out; rw [List.length_append, List.length_take, HD.out.2]; omega
          have HLIM := Lib.hid hlim
          clear hlim
          go_wp2_with (at_builtin; refine app_one HA.out.1 HA.out.2 HLIM.out rfl rfl rfl rfl ?_)
          intro v8 w8 ho8 hb8 _ _
          rw [HST.out] at ho8
          have HN8 := Lib.hid (And.intro ho8 hb8)
          clear ho8 hb8
          go_wp2
          go_roundw
          case rel => exact ⟨k + 1, by go_num, by omega, HN8⟩
          case measure => simp [intOf]; omega
        · obtain rfl : k = l.length := by omega
          have dkn : decide (l.length < l.length) = false := decide_eq_false (by omega)
          go_wp2
          go_ret2
          exact ⟨_, by rw [HM.out.2.1]; rfl, HA.out.1.cast (by rw [if_pos HM.out.2.1, List.take_of_length_le (by rw [HD.out.2]; exact Nat.le_refl _), HR.out.1, HD.out.1]; exact (by rw [List.eq_nil_of_length_eq_zero HM.out.1, List.append_nil]; exact wr_s0 (fin := true) (op := op) rfl HN.out.1 HSZ.out)), HA.out.2⟩
    | false =>
      go_enter Tryd.func21, Tryd.ntmps21
      go_upto_region 1 with (fail)
      rw [← HS.out.1, ← HS.out.2]
      go_wp2_with fail
      refine (knownRef_calls op _).mono ?_
      rintro e w' ⟨rfl, rfl⟩
      rw [HK.out]
      go_upto_region 16 with (fail)
      obtain ⟨W1, hW1⟩ : ∃ W1, W1 = w'.alloc (.cells #[.int .u8 (op), .int .u8 ((l.length : Int))] 5) := ⟨_, rfl⟩
      obtain ⟨g, hg⟩ : ∃ g, g = w'.heap.size := ⟨_, rfl⟩
      have HAT := Lib.hid (show WrAt w W1 gb g false op A l.length c (op) ((l.length : Int)) from ⟨by rw [hW1, hg]; exact lit_two HI.out.2.2.1 _ _, HI.out.2.2.2.1.below (by rw [hW1]; exact below_alloc (Below.refl _ _) _) HI.out.2.2.2.1.lt, below_step HI.out.2.2.1 (by rw [hW1]; exact below_alloc (Below.refl _ _) _), by rw [hg]; exact HI.out.2.2.1.size, by have := HI.out.2.2.2.1.lt; omega⟩)
      rw [← hW1, ← hg]
      clear hW1 hg q0 q1 q2
      have HY := Lib.hid (show Own w W1 (.slice (some ⟨g, 0, none⟩) 2 2) [op, (l.length : Int)] ∧ Below w.heap.size w W1 ∧ Whole W1 gb 26 #[.bool false, .int .i64 op, .slice A l.length c] ∧ some gb ≠ (Value.slice (some ⟨g, 0, none⟩) 2 2).ownBlock from ⟨HAT.out.1, HAT.out.2.2.1, HAT.out.2.1, fun e => HAT.out.2.2.2.2 (Option.some.inj e).symm⟩)
      clear HAT
      go_wp2_with (at_builtin; refine app_row HY.out.1 (Kd.C_below HM.out.2.2 HY.out.2.1) HY.out.2.1 (by simp) rfl rfl rfl rfl ?_)
      intro v6 w6 ho6 hb6 hg6 hat6
      have H6 := Lib.hid (show Own w w6 v6 ([op, (l.length : Int)] ++ mk) ∧ Below w.heap.size w w6 ∧ Whole w6 gb 26 #[.bool false, .int .i64 op, .slice A l.length c] from ⟨ho6, hb6, HY.out.2.2.1.grown hg6 HY.out.2.2.2⟩)
      clear ho6 hb6 hg6 hat6 HY
      have q2 := H6.out.2.2.cell 2 _ rfl
      obtain ⟨R, hR⟩ : ∃ R, R = [op, (l.length : Int)] ++ mk := ⟨_, rfl⟩
      have hRl : R.length ≤ 8 := by rw [hR]; simp only [List.length_append, List.length_cons, List.length_nil, HM.out.1]; omega
      have HR := Lib.hid (And.intro hR hRl)
      clear hR hRl
      obtain ⟨D, hD⟩ : ∃ D, D = l := ⟨_, rfl⟩
      have hDl : D.length = l.length := by rw [hD]
      have HD := Lib.hid (And.intro hD hDl)
      clear hD hDl
      go_wp2_with fail
      clear q2
      go_loopw [9, 79] (fun v i wr => ∃ k : Nat, i = .int .i64 k ∧ k ≤ l.length ∧ Hid (Own w wr v (R ++ D.take k) ∧ Below w.heap.size w wr)) (fun _ i _ => l.length - (intOf i).toNat)
      case atStart => exact ⟨0, rfl, by omega, Lib.hid ⟨H6.out.1.cast (by rw [HR.out.1, List.take_zero, List.append_nil]), H6.out.2.1⟩⟩
      case round =>
        obtain ⟨k, rfl, hk, HA⟩ := hrel
        by_cases hkn : k < l.length
        · have dkn : decide (k < l.length) = true := decide_eq_true hkn
          have dkn' : decide ((k : Int) < l.length) = true := decide_eq_true (by omega)
          have ikn : (k : Int) < l.length := by omega
          have wk : IntKind.i64.wrap ((k : Int) + 1) = k + 1 := wrap_id (by omega) (by have := HN.out; omega)
          obtain ⟨ad, hA, hcl⟩ := Rd.cells (Kd.C_below HI.out.1 HA.out.2) (by omega)
          subst hA
          have hx := hcl k hkn
          obtain ⟨x, hxe⟩ : ∃ x, x = rd l (k : Nat) := ⟨_, rfl⟩
          rw [← hxe] at hx
          clear hcl
          have HST := Lib.hid (show R ++ (D.take k ++ [x]) = R ++ D.take (k + 1) by rw [take_one D k (by rw [HD.out.2]; exact hkn), HD.out.1, hxe])
          clear hxe
          have hlim : (R ++ D.take k).length + 1 ≤ 140737488355328 := by have := HR.out.2; have := HN.out; rw [List.length_append, List.length_take, HD.out.2]; omega
          have HLIM := Lib.hid hlim
          clear hlim
          go_wp2_with (at_builtin; refine app_one HA.out.1 HA.out.2 HLIM.out rfl rfl rfl rfl ?_)
          intro v8 w8 ho8 hb8 _ _
          rw [HST.out] at ho8
          have HN8 := Lib.hid (And.intro ho8 hb8)
          clear ho8 hb8
          go_wp2
          go_roundw
          case rel => exact ⟨k + 1, by go_num, by omega, HN8⟩
          case measure => simp [intOf]; omega
        · obtain rfl : k = l.length := by omega
          have dkn : decide (l.length < l.length) = false := decide_eq_false (by omega)
          go_wp2
          go_ret2
          exact ⟨_, by rw [HM.out.2.1]; rfl, HA.out.1.cast (by rw [if_pos HM.out.2.1, List.take_of_length_le (by rw [HD.out.2]; exact Nat.le_refl _), HR.out.1, HD.out.1]; exact (by rw [List.eq_nil_of_length_eq_zero HM.out.1, List.append_nil]; exact wr_s0 (fin := false) (op := op) rfl HN.out.1 HSZ.out)), HA.out.2⟩
set_option maxRecDepth 20000 in
set_option maxHeartbeats 3200000 in
theorem WsWriteRef_0g {n : Nat} (fin : Bool) (op : Int) (A : Option Addr) (c : Nat) (l : List Int) (A1 : Option Addr) (c1 : Nat) (mk : List Int) (w : World) (hr : Rd w A n l) (hc : n ≤ c) (hb : Bytes l) (hs : n ≤ 140737488351232) (hrm : Rd w A1 0 mk) (hE : wrE ⟨fin, op, l⟩ 0 = 0) (hn : 125 < n) :
    Calls Tryd.prog 21 #[.agg #[.bool fin, .int .i64 op, .slice A n c], .slice A1 0 c1] w (WrPost ⟨fin, op, l⟩ mk w) := by
  have hml := Kd.C_len hrm
  obtain ⟨_, hk, h8, hbig⟩ := wrE_ok hE
  simp only at hk h8 hbig
  have hop := known_cases hk
  have hlen := Kd.C_len hr
  subst hlen
  obtain ⟨gb, hgb⟩ : ∃ g, g = w.heap.size := ⟨_, rfl⟩
  obtain ⟨W0, hW0⟩ : ∃ W0, W0 = w.alloc (.cells #[.bool fin, .int .i64 op, .slice A l.length c] 26) := ⟨_, rfl⟩
  have hb0 : Below w.heap.size w W0 := by rw [hW0]; exact below_alloc (Below.refl _ _) _
  have hk0 : Whole W0 gb 26 #[.bool fin, .int .i64 op, .slice A l.length c] := by rw [hW0, hgb]; exact Whole.new w _ _
  have HS := Lib.hid (show gb = w.heap.size ∧ W0 = w.alloc _ from ⟨hgb, hW0⟩)
  have HI := Lib.hid (show Rd w A l.length l ∧ Bytes l ∧ Below w.heap.size w W0 ∧ Whole W0 gb 26 #[.bool fin, .int .i64 op, .slice A l.length c] ∧ l.length ≤ 140737488351232 ∧ l.length ≤ c from ⟨hr, hb, hb0, hk0, hs, hc⟩)
  have q0 := hk0.cell 0 _ rfl
  have q1 := hk0.cell 1 _ rfl
  have q2 := hk0.cell 2 _ rfl
  clear hr hb hb0 hk0 hgb hW0 hs hc
  have HK := Lib.hid hk
  have HM := Lib.hid (show mk.length = 0 ∧ wrE ⟨fin, op, l⟩ mk.length = 0 ∧ Rd w A1 0 mk from ⟨hml, by rw [hml]; exact hE, hrm⟩)
  clear hml hE hrm hk
  have e16 : decide (16384 < (l.length : Int)) = false := decide_eq_false (by omega)
  have e16' : decide (16384 < l.length) = false := decide_eq_false (by omega)
  have e125 : decide (125 < (l.length : Int)) = true := decide_eq_true (by omega)
  have e125' : decide (125 < l.length) = true := decide_eq_true (by omega)
  have wop : IntKind.u8.wrap op = op := by rw [IntKind.wrap_u8]; omega
  have wop2 : IntKind.u8.wrap (op + 128) = op + 128 := by rw [IntKind.wrap_u8]; omega
  have wop3 : IntKind.i64.wrap (op + 128) = op + 128 := wrap_id (by omega) (by omega)
  have t1 : (l.length : Int).tdiv 256 = (l.length : Int) / 256 := tdiv_nn (by omega) 256
  have t2 : (l.length : Int).tmod 256 = (l.length : Int) % 256 := tmod_nn (by omega) 256
  have t3 : IntKind.i64.wrap ((l.length : Int) / 256) = (l.length : Int) / 256 := wrap_id (by omega) (by omega)
  have t4 : IntKind.i64.wrap ((l.length : Int) % 256) = (l.length : Int) % 256 := wrap_id (by omega) (by omega)
  have t5 : IntKind.u8.wrap ((l.length : Int) / 256) = (l.length : Int) / 256 := by rw [IntKind.wrap_u8]; omega
  have t6 : IntKind.u8.wrap ((l.length : Int) % 256) = (l.length : Int) % 256 := by rw [IntKind.wrap_u8]; omega
  have HSZ := Lib.hid (show (126 : Int) = sizeF 0 l.length by unfold sizeF; rw [if_neg (by omega)]; rfl)
  have HN := Lib.hid (show 125 < l.length ∧ l.length ≤ 16384 from ⟨by omega, hbig⟩)
  clear hop
  cases h8c : decide (8 ≤ op) with
  | true =>
    obtain ⟨hfin, hsm⟩ := h8 (of_decide_eq_true h8c)
    omega
  | false =>
    clear h8 hn hbig
    cases fin with
    | true =>
      go_enter Tryd.func21, Tryd.ntmps21
      go_upto_region 1 with (fail)
      rw [← HS.out.1, ← HS.out.2]
      go_wp2_with fail
      refine (knownRef_calls op _).mono ?_
      rintro e w' ⟨rfl, rfl⟩
      rw [HK.out]
      go_upto_region 16 with (fail)
      obtain ⟨W1, hW1⟩ : ∃ W1, W1 = w'.alloc (.cells #[.int .u8 (op + 128), .int .u8 (126)] 5) := ⟨_, rfl⟩
      obtain ⟨g, hg⟩ : ∃ g, g = w'.heap.size := ⟨_, rfl⟩
      have HAT := Lib.hid (show WrAt w W1 gb g true op A l.length c (op + 128) (126) from ⟨by rw [hW1, hg]; exact lit_two HI.out.2.2.1 _ _, HI.out.2.2.2.1.below (by rw [hW1]; exact below_alloc (Below.refl _ _) _) HI.out.2.2.2.1.lt, below_step HI.out.2.2.1 (by rw [hW1]; exact below_alloc (Below.refl _ _) _), by rw [hg]; exact HI.out.2.2.1.size, by have := HI.out.2.2.2.1.lt; omega⟩)
      rw [← hW1, ← hg]
      clear hW1 hg q0 q1 q2
      have HY := Lib.hid (show Own w W1 (.slice (some ⟨g, 0, none⟩) 2 2) [op + 128, 126] ∧ Below w.heap.size w W1 ∧ Whole W1 gb 26 #[.bool true, .int .i64 op, .slice A l.length c] ∧ some gb ≠ (Value.slice (some ⟨g, 0, none⟩) 2 2).ownBlock from ⟨HAT.out.1, HAT.out.2.2.1, HAT.out.2.1, fun e => HAT.out.2.2.2.2 (Option.some.inj e).symm⟩)
      clear HAT
      go_wp2_with (at_builtin; refine app_row (Kd.R_alloc HY.out.1 _) (C_const _ 5 [(l.length : Int) / 256, (l.length : Int) % 256] (0, 0) (by simp)) (below_alloc HY.out.2.1 _) (by simp) rfl rfl rfl rfl ?_)
      intro v5 w5 ho5 hb5 hg5 hat5
      have HZ := Lib.hid (show Own w w5 v5 ([op + 128, 126] ++ [(l.length : Int) / 256, (l.length : Int) % 256]) ∧ Below w.heap.size w w5 ∧ Whole w5 gb 26 #[.bool true, .int .i64 op, .slice A l.length c] ∧ some gb ≠ v5.ownBlock from ⟨ho5, hb5, (HY.out.2.2.1.below (below_alloc (Below.refl _ _) _) HY.out.2.2.1.lt).grown hg5 HY.out.2.2.2, ne_after hat5 HY.out.2.2.2 (by have := HY.out.2.2.1.lt; omega)⟩)
      clear ho5 hb5 hg5 hat5 HY
      go_wp2_with (at_builtin; refine app_row HZ.out.1 (Kd.C_below HM.out.2.2 HZ.out.2.1) HZ.out.2.1 (by simp) rfl rfl rfl rfl ?_)
      intro v6 w6 ho6 hb6 hg6 hat6
      have H6 := Lib.hid (show Own w w6 v6 (([op + 128, 126] ++ [(l.length : Int) / 256, (l.length : Int) % 256]) ++ mk) ∧ Below w.heap.size w w6 ∧ Whole w6 gb 26 #[.bool true, .int .i64 op, .slice A l.length c] from ⟨ho6, hb6, HZ.out.2.2.1.grown hg6 HZ.out.2.2.2⟩)
      clear ho6 hb6 hg6 hat6 HZ
      have q2 := H6.out.2.2.cell 2 _ rfl
      obtain ⟨R, hR⟩ : ∃ R, R = ([op + 128, 126] ++ [(l.length : Int) / 256, (l.length : Int) % 256]) ++ mk := ⟨_, rfl⟩
      have hRl : R.length ≤ 8 := by rw [hR]; simp only [List.length_append, List.length_cons, List.length_nil, HM.out.1]; omega
      have HR := Lib.hid (And.intro hR hRl)
      clear hR hRl
      obtain ⟨D, hD⟩ : ∃ D, D = l := ⟨_, rfl⟩
      have hDl : D.length = l.length := by rw [hD]
      have HD := Lib.hid (And.intro hD hDl)
      clear hD hDl
      go_wp2_with fail
      clear q2
      go_loopw [9, 79] (fun v i wr => ∃ k : Nat, i = .int .i64 k ∧ k ≤ l.length ∧ Hid (Own w wr v (R ++ D.take k) ∧ Below w.heap.size w wr)) (fun _ i _ => l.length - (intOf i).toNat)
      case atStart => exact ⟨0, rfl, by omega, Lib.hid ⟨H6.out.1.cast (by rw [HR.out.1, List.take_zero, List.append_nil]), H6.out.2.1⟩⟩
      case round =>
        obtain ⟨k, rfl, hk, HA⟩ := hrel
        by_cases hkn : k < l.length
        · have dkn : decide (k < l.length) = true := decide_eq_true hkn
          have dkn' : decide ((k : Int) < l.length) = true := decide_eq_true (by omega)
          have ikn : (k : Int) < l.length := by omega
          have wk : IntKind.i64.wrap ((k : Int) + 1) = k + 1 := wrap_id (by omega) (by have := HN.out; omega)
          obtain ⟨ad, hA, hcl⟩ := Rd.cells (Kd.C_below HI.out.1 HA.out.2) (by omega)
          subst hA
          have hx := hcl k hkn
          obtain ⟨x, hxe⟩ : ∃ x, x = rd l (k : Nat) := ⟨_, rfl⟩
          rw [← hxe] at hx
          clear hcl
          have HST := Lib.hid (show R ++ (D.take k ++ [x]) = R ++ D.take (k + 1) by rw [take_one D k (by rw [HD.out.2]; exact hkn), HD.out.1, hxe])
          clear hxe
          have hlim : (R ++ D.take k).length + 1 ≤ 140737488355328 := by have := HR.out.2; have := HN.out; rw [List.length_append, List.length_take, HD.out.2]; omega
          have HLIM := Lib.hid hlim
          clear hlim
          go_wp2_with (at_builtin; refine app_one HA.out.1 HA.out.2 HLIM.out rfl rfl rfl rfl ?_)
          intro v8 w8 ho8 hb8 _ _
          rw [HST.out] at ho8
          have HN8 := Lib.hid (And.intro ho8 hb8)
          clear ho8 hb8
          go_wp2
          go_roundw
          case rel => exact ⟨k + 1, by go_num, by omega, HN8⟩
          case measure => simp [intOf]; omega
        · obtain rfl : k = l.length := by omega
          have dkn : decide (l.length < l.length) = false := decide_eq_false (by omega)
          go_wp2
          go_ret2
          exact ⟨_, by rw [HM.out.2.1]; rfl, HA.out.1.cast (by rw [if_pos HM.out.2.1, List.take_of_length_le (by rw [HD.out.2]; exact Nat.le_refl _), HR.out.1, HD.out.1]; exact (by rw [List.eq_nil_of_length_eq_zero HM.out.1, List.append_nil]; exact wr_g0 (fin := true) (op := op) rfl HN.out.1 HSZ.out)), HA.out.2⟩
    | false =>
      go_enter Tryd.func21, Tryd.ntmps21
      go_upto_region 1 with (fail)
      rw [← HS.out.1, ← HS.out.2]
      go_wp2_with fail
      refine (knownRef_calls op _).mono ?_
      rintro e w' ⟨rfl, rfl⟩
      rw [HK.out]
      go_upto_region 16 with (fail)
      obtain ⟨W1, hW1⟩ : ∃ W1, W1 = w'.alloc (.cells #[.int .u8 (op), .int .u8 (126)] 5) := ⟨_, rfl⟩
      obtain ⟨g, hg⟩ : ∃ g, g = w'.heap.size := ⟨_, rfl⟩
      have HAT := Lib.hid (show WrAt w W1 gb g false op A l.length c (op) (126) from ⟨by rw [hW1, hg]; exact lit_two HI.out.2.2.1 _ _, HI.out.2.2.2.1.below (by rw [hW1]; exact below_alloc (Below.refl _ _) _) HI.out.2.2.2.1.lt, below_step HI.out.2.2.1 (by rw [hW1]; exact below_alloc (Below.refl _ _) _), by rw [hg]; exact HI.out.2.2.1.size, by have := HI.out.2.2.2.1.lt; omega⟩)
      rw [← hW1, ← hg]
      clear hW1 hg q0 q1 q2
      have HY := Lib.hid (show Own w W1 (.slice (some ⟨g, 0, none⟩) 2 2) [op, 126] ∧ Below w.heap.size w W1 ∧ Whole W1 gb 26 #[.bool false, .int .i64 op, .slice A l.length c] ∧ some gb ≠ (Value.slice (some ⟨g, 0, none⟩) 2 2).ownBlock from ⟨HAT.out.1, HAT.out.2.2.1, HAT.out.2.1, fun e => HAT.out.2.2.2.2 (Option.some.inj e).symm⟩)
      clear HAT
      go_wp2_with (at_builtin; refine app_row (Kd.R_alloc HY.out.1 _) (C_const _ 5 [(l.length : Int) / 256, (l.length : Int) % 256] (0, 0) (by simp)) (below_alloc HY.out.2.1 _) (by simp) rfl rfl rfl rfl ?_)
      intro v5 w5 ho5 hb5 hg5 hat5
      have HZ := Lib.hid (show Own w w5 v5 ([op, 126] ++ [(l.length : Int) / 256, (l.length : Int) % 256]) ∧ Below w.heap.size w w5 ∧ Whole w5 gb 26 #[.bool false, .int .i64 op, .slice A l.length c] ∧ some gb ≠ v5.ownBlock from ⟨ho5, hb5, (HY.out.2.2.1.below (below_alloc (Below.refl _ _) _) HY.out.2.2.1.lt).grown hg5 HY.out.2.2.2, ne_after hat5 HY.out.2.2.2 (by have := HY.out.2.2.1.lt; omega)⟩)
      clear ho5 hb5 hg5 hat5 HY
      go_wp2_with (at_builtin; refine app_row HZ.out.1 (Kd.C_below HM.out.2.2 HZ.out.2.1) HZ.out.2.1 (by simp) rfl rfl rfl rfl ?_)
      intro v6 w6 ho6 hb6 hg6 hat6
      have H6 := Lib.hid (show Own w w6 v6 (([op, 126] ++ [(l.length : Int) / 256, (l.length : Int) % 256]) ++ mk) ∧ Below w.heap.size w w6 ∧ Whole w6 gb 26 #[.bool false, .int .i64 op, .slice A l.length c] from ⟨ho6, hb6, HZ.out.2.2.1.grown hg6 HZ.out.2.2.2⟩)
      clear ho6 hb6 hg6 hat6 HZ
      have q2 := H6.out.2.2.cell 2 _ rfl
      obtain ⟨R, hR⟩ : ∃ R, R = ([op, 126] ++ [(l.length : Int) / 256, (l.length : Int) % 256]) ++ mk := ⟨_, rfl⟩
      have hRl : R.length ≤ 8 := by rw [hR]; simp only [List.length_append, List.length_cons, List.length_nil, HM.out.1]; omega
      have HR := Lib.hid (And.intro hR hRl)
      clear hR hRl
      obtain ⟨D, hD⟩ : ∃ D, D = l := ⟨_, rfl⟩
      have hDl : D.length = l.length := by rw [hD]
      have HD := Lib.hid (And.intro hD hDl)
      clear hD hDl
      go_wp2_with fail
      clear q2
      go_loopw [9, 79] (fun v i wr => ∃ k : Nat, i = .int .i64 k ∧ k ≤ l.length ∧ Hid (Own w wr v (R ++ D.take k) ∧ Below w.heap.size w wr)) (fun _ i _ => l.length - (intOf i).toNat)
      case atStart => exact ⟨0, rfl, by omega, Lib.hid ⟨H6.out.1.cast (by rw [HR.out.1, List.take_zero, List.append_nil]), H6.out.2.1⟩⟩
      case round =>
        obtain ⟨k, rfl, hk, HA⟩ := hrel
        by_cases hkn : k < l.length
        · have dkn : decide (k < l.length) = true := decide_eq_true hkn
          have dkn' : decide ((k : Int) < l.length) = true := decide_eq_true (by omega)
          have ikn : (k : Int) < l.length := by omega
          have wk : IntKind.i64.wrap ((k : Int) + 1) = k + 1 := wrap_id (by omega) (by have := HN.out; omega)
          obtain ⟨ad, hA, hcl⟩ := Rd.cells (Kd.C_below HI.out.1 HA.out.2) (by omega)
          subst hA
          have hx := hcl k hkn
          obtain ⟨x, hxe⟩ : ∃ x, x = rd l (k : Nat) := ⟨_, rfl⟩
          rw [← hxe] at hx
          clear hcl
          have HST := Lib.hid (show R ++ (D.take k ++ [x]) = R ++ D.take (k + 1) by rw [take_one D k (by rw [HD.out.2]; exact hkn), HD.out.1, hxe])
          clear hxe
          have hlim : (R ++ D.take k).length + 1 ≤ 140737488355328 := by have := HR.out.2; have := HN.out; rw [List.length_append, List.length_take, HD.out.2]; omega
          have HLIM := Lib.hid hlim
          clear hlim
          go_wp2_with (at_builtin; refine app_one HA.out.1 HA.out.2 HLIM.out rfl rfl rfl rfl ?_)
          intro v8 w8 ho8 hb8 _ _
          rw [HST.out] at ho8
          have HN8 := Lib.hid (And.intro ho8 hb8)
          clear ho8 hb8
          go_wp2
          go_roundw
          case rel => exact ⟨k + 1, by go_num, by omega, HN8⟩
          case measure => simp [intOf]; omega
        · obtain rfl : k = l.length := by omega
          have dkn : decide (l.length < l.length) = false := decide_eq_false (by omega)
          go_wp2
          go_ret2
          exact ⟨_, by rw [HM.out.2.1]; rfl, HA.out.1.cast (by rw [if_pos HM.out.2.1, List.take_of_length_le (by rw [HD.out.2]; exact Nat.le_refl _), HR.out.1, HD.out.1]; exact (by rw [List.eq_nil_of_length_eq_zero HM.out.1, List.append_nil]; exact wr_g0 (fin := false) (op := op) rfl HN.out.1 HSZ.out)), HA.out.2⟩
set_option maxRecDepth 20000 in
set_option maxHeartbeats 3200000 in
theorem WsWriteRef_4s {n : Nat} (fin : Bool) (op : Int) (A : Option Addr) (c : Nat) (l : List Int) (A1 : Option Addr) (c1 : Nat) (mk : List Int) (w : World) (hr : Rd w A n l) (hc : n ≤ c) (hb : Bytes l) (hs : n ≤ 140737488351232) (hrm : Rd w A1 4 mk) (hE : wrE ⟨fin, op, l⟩ 4 = 0) (hn : n ≤ 125) :
    Calls Tryd.prog 21 #[.agg #[.bool fin, .int .i64 op, .slice A n c], .slice A1 4 c1] w (WrPost ⟨fin, op, l⟩ mk w) := by
  have hml := Kd.C_len hrm
  obtain ⟨_, hk, h8, hbig⟩ := wrE_ok hE
  simp only at hk h8 hbig
  have hop := known_cases hk
  have hlen := Kd.C_len hr
  subst hlen
  obtain ⟨gb, hgb⟩ : ∃ g, g = w.heap.size := ⟨_, rfl⟩
  obtain ⟨W0, hW0⟩ : ∃ W0, W0 = w.alloc (.cells #[.bool fin, .int .i64 op, .slice A l.length c] 26) := ⟨_, rfl⟩
  have hb0 : Below w.heap.size w W0 := by rw [hW0]; exact below_alloc (Below.refl _ _) _
  have hk0 : Whole W0 gb 26 #[.bool fin, .int .i64 op, .slice A l.length c] := by rw [hW0, hgb]; exact Whole.new w _ _
  have HS := Lib.hid (show gb = w.heap.size ∧ W0 = w.alloc _ from ⟨hgb, hW0⟩)
  have HI := Lib.hid (show Rd w A l.length l ∧ Bytes l ∧ Below w.heap.size w W0 ∧ Whole W0 gb 26 #[.bool fin, .int .i64 op, .slice A l.length c] ∧ l.length ≤ 140737488351232 ∧ l.length ≤ c from ⟨hr, hb, hb0, hk0, hs, hc⟩)
  have q0 := hk0.cell 0 _ rfl
  have q1 := hk0.cell 1 _ rfl
  have q2 := hk0.cell 2 _ rfl
  clear hr hb hb0 hk0 hgb hW0 hs hc
  have HK := Lib.hid hk
  have HM := Lib.hid (show mk.length = 4 ∧ wrE ⟨fin, op, l⟩ mk.length = 0 ∧ Rd w A1 4 mk from ⟨hml, by rw [hml]; exact hE, hrm⟩)
  clear hml hE hrm hk
  have e16 : decide (16384 < (l.length : Int)) = false := decide_eq_false (by omega)
  have e16' : decide (16384 < l.length) = false := decide_eq_false (by omega)
  have e125 : decide (125 < (l.length : Int)) = false := decide_eq_false (by omega)
  have e125' : decide (125 < l.length) = false := decide_eq_false (by omega)
  have wop : IntKind.u8.wrap op = op := by rw [IntKind.wrap_u8]; omega
  have wop2 : IntKind.u8.wrap (op + 128) = op + 128 := by rw [IntKind.wrap_u8]; omega
  have wop3 : IntKind.i64.wrap (op + 128) = op + 128 := wrap_id (by omega) (by omega)
  have wn : IntKind.u8.wrap ((l.length : Int) + 128) = (l.length : Int) + 128 := by rw [IntKind.wrap_u8]; omega
  have wn2 : IntKind.i64.wrap ((l.length : Int) + 128) = (l.length : Int) + 128 := wrap_id (by omega) (by omega)
  have HSZ := Lib.hid (show ((l.length : Int) + 128 : Int) = sizeF 4 l.length by unfold sizeF; rw [if_pos (by omega)]; rfl)
  have HN := Lib.hid (show l.length ≤ 125 ∧ l.length ≤ 16384 from ⟨by omega, hbig⟩)
  clear hop
  cases h8c : decide (8 ≤ op) with
  | true =>
    obtain ⟨hfin, hsm⟩ := h8 (of_decide_eq_true h8c)
    subst hfin
    clear h8 hsm hn hbig
    go_enter Tryd.func21, Tryd.ntmps21
    go_upto_region 1 with (fail)
    rw [← HS.out.1, ← HS.out.2]
    go_wp2_with fail
    refine (knownRef_calls op _).mono ?_
    rintro e w' ⟨rfl, rfl⟩
    rw [HK.out]
    go_upto_region 16 with (fail)
    obtain ⟨W1, hW1⟩ : ∃ W1, W1 = w'.alloc (.cells #[.int .u8 (op + 128), .int .u8 ((l.length : Int) + 128)] 5) := ⟨_, rfl⟩
    obtain ⟨g, hg⟩ : ∃ g, g = w'.heap.size := ⟨_, rfl⟩
    have HAT := Lib.hid (show WrAt w W1 gb g true op A l.length c (op + 128) ((l.length : Int) + 128) from ⟨by rw [hW1, hg]; exact lit_two HI.out.2.2.1 _ _, HI.out.2.2.2.1.below (by rw [hW1]; exact below_alloc (Below.refl _ _) _) HI.out.2.2.2.1.lt, below_step HI.out.2.2.1 (by rw [hW1]; exact below_alloc (Below.refl _ _) _), by rw [hg]; exact HI.out.2.2.1.size, by have := HI.out.2.2.2.1.lt; omega⟩)
    rw [← hW1, ← hg]
    clear hW1 hg q0 q1 q2
    have HY := Lib.hid (show Own w W1 (.slice (some ⟨g, 0, none⟩) 2 2) [op + 128, (l.length : Int) + 128] ∧ Below w.heap.size w W1 ∧ Whole W1 gb 26 #[.bool true, .int .i64 op, .slice A l.length c] ∧ some gb ≠ (Value.slice (some ⟨g, 0, none⟩) 2 2).ownBlock from ⟨HAT.out.1, HAT.out.2.2.1, HAT.out.2.1, fun e => HAT.out.2.2.2.2 (Option.some.inj e).symm⟩)
    clear HAT
    go_wp2_with (at_builtin; refine app_row HY.out.1 (Kd.C_below HM.out.2.2 HY.out.2.1) HY.out.2.1 (by simp) rfl rfl rfl rfl ?_)
    intro v6 w6 ho6 hb6 hg6 hat6
    have H6 := Lib.hid (show Own w w6 v6 ([op + 128, (l.length : Int) + 128] ++ mk) ∧ Below w.heap.size w w6 ∧ Whole w6 gb 26 #[.bool true, .int .i64 op, .slice A l.length c] from ⟨ho6, hb6, HY.out.2.2.1.grown hg6 HY.out.2.2.2⟩)
    clear ho6 hb6 hg6 hat6 HY
    have q2 := H6.out.2.2.cell 2 _ rfl
    obtain ⟨R, hR⟩ : ∃ R, R = [op + 128, (l.length : Int) + 128] ++ mk := ⟨_, rfl⟩
    have hRl : R.length ≤ 8 := by rw [hR]; simp only [List.length_append, List.length_cons, List.length_nil, HM.out.1]; omega
    have HR := Lib.hid (And.intro hR hRl)
    clear hR hRl
    obtain ⟨D, hD⟩ : ∃ D, D = maskL mk l := ⟨_, rfl⟩
    have hDl : D.length = l.length := by rw [hD]; exact maskL_length _ _
    have HD := Lib.hid (And.intro hD hDl)
    clear hD hDl
    go_wp2_with fail
    clear q2
    go_loopw [9, 79] (fun v i wr => ∃ k : Nat, i = .int .i64 k ∧ k ≤ l.length ∧ Hid (Own w wr v (R ++ D.take k) ∧ Below w.heap.size w wr)) (fun _ i _ => l.length - (intOf i).toNat)
    case atStart => exact ⟨0, rfl, by omega, Lib.hid ⟨H6.out.1.cast (by rw [HR.out.1, List.take_zero, List.append_nil]), H6.out.2.1⟩⟩
    case round =>
      obtain ⟨k, rfl, hk, HA⟩ := hrel
      by_cases hkn : k < l.length
      · have dkn : decide (k < l.length) = true := decide_eq_true hkn
        have dkn' : decide ((k : Int) < l.length) = true := decide_eq_true (by omega)
        have ikn : (k : Int) < l.length := by omega
        have wk : IntKind.i64.wrap ((k : Int) + 1) = k + 1 := wrap_id (by omega) (by have := HN.out; omega)
        obtain ⟨ad, hA, hcl⟩ := Rd.cells (Kd.C_below HI.out.1 HA.out.2) (by omega)
        subst hA
        have hx := hcl k hkn
        obtain ⟨x, hxe⟩ : ∃ x, x = rd l (k : Nat) := ⟨_, rfl⟩
        rw [← hxe] at hx
        clear hcl
        obtain ⟨am, hA1, hmc⟩ := Rd.cells (Kd.C_below HM.out.2.2 HA.out.2) (by decide)
        subst hA1
        have hy := hmc (k % 4) (Nat.mod_lt _ (by decide))
        have t1 : (k : Int).tmod 4 = ((k % 4 : Nat) : Int) := Int.ofNat_tmod k 4
        obtain ⟨j, hj⟩ : ∃ j, j = k % 4 := ⟨_, rfl⟩
        rw [← hj] at hy t1
        have j4 : j < 4 := by omega
        have ji4 : (j : Int) < 4 := by omega
        have wj : IntKind.i64.wrap (j : Int) = j := wrap_id (by omega) (by omega)
        obtain ⟨y, hye⟩ : ∃ y, y = rd mk (j : Nat) := ⟨_, rfl⟩
        rw [← hye] at hy
        have HST := Lib.hid (show R ++ (D.take k ++ [bits .xor .u8 x y]) = R ++ D.take (k + 1) by rw [take_one D k (by rw [HD.out.2]; exact hkn), HD.out.1, maskL_at mk l k hkn, hxe, hye, hj])
        clear hmc hj hye hxe
        have hlim : (R ++ D.take k).length + 1 ≤ 140737488355328 := by have := HR.out.2; have := HN.out; rw [List.length_append, List.length_take, HD.out.2]; omega
        have HLIM := Lib.hid hlim
        clear hlim
        go_wp2_with (at_builtin; refine app_one HA.out.1 HA.out.2 HLIM.out rfl rfl rfl rfl ?_)
        intro v8 w8 ho8 hb8 _ _
        rw [HST.out] at ho8
        have HN8 := Lib.hid (And.intro ho8 hb8)
        clear ho8 hb8
        go_wp2
        go_roundw
        case rel => exact ⟨k + 1, by go_num, by omega, HN8⟩
        case measure => simp [intOf]; omega
      · obtain rfl : k = l.length := by omega
        have dkn : decide (l.length < l.length) = false := decide_eq_false (by omega)
        go_wp2
        go_ret2
        exact ⟨_, by rw [HM.out.2.1]; rfl, HA.out.1.cast (by rw [if_pos HM.out.2.1, List.take_of_length_le (by rw [HD.out.2]; exact Nat.le_refl _), HR.out.1, HD.out.1]; exact wr_s4 (fin := true) (op := op) HM.out.1 HN.out.1 HSZ.out), HA.out.2⟩
  | false =>
    clear h8 hn hbig
    cases fin with
    | true =>
      go_enter Tryd.func21, Tryd.ntmps21
      go_upto_region 1 with (fail)
      rw [← HS.out.1, ← HS.out.2]
      go_wp2_with fail
      refine (knownRef_calls op _).mono ?_
      rintro e w' ⟨rfl, rfl⟩
      rw [HK.out]
      go_upto_region 16 with (fail)
      obtain ⟨W1, hW1⟩ : ∃ W1, W1 = w'.alloc (.cells #[.int .u8 (op + 128), .int .u8 ((l.length : Int) + 128)] 5) := ⟨_, rfl⟩
      obtain ⟨g, hg⟩ : ∃ g, g = w'.heap.size := ⟨_, rfl⟩
      have HAT := Lib.hid (show WrAt w W1 gb g true op A l.length c (op + 128) ((l.length : Int) + 128) from ⟨by rw [hW1, hg]; exact lit_two HI.out.2.2.1 _ _, HI.out.2.2.2.1.below (by rw [hW1]; exact below_alloc (Below.refl _ _) _) HI.out.2.2.2.1.lt, below_step HI.out.2.2.1 (by rw [hW1]; exact below_alloc (Below.refl _ _) _), by rw [hg]; exact HI.out.2.2.1.size, by have := HI.out.2.2.2.1.lt; omega⟩)
      rw [← hW1, ← hg]
      clear hW1 hg q0 q1 q2
      have HY := Lib.hid (show Own w W1 (.slice (some ⟨g, 0, none⟩) 2 2) [op + 128, (l.length : Int) + 128] ∧ Below w.heap.size w W1 ∧ Whole W1 gb 26 #[.bool true, .int .i64 op, .slice A l.length c] ∧ some gb ≠ (Value.slice (some ⟨g, 0, none⟩) 2 2).ownBlock from ⟨HAT.out.1, HAT.out.2.2.1, HAT.out.2.1, fun e => HAT.out.2.2.2.2 (Option.some.inj e).symm⟩)
      clear HAT
      go_wp2_with (at_builtin; refine app_row HY.out.1 (Kd.C_below HM.out.2.2 HY.out.2.1) HY.out.2.1 (by simp) rfl rfl rfl rfl ?_)
      intro v6 w6 ho6 hb6 hg6 hat6
      have H6 := Lib.hid (show Own w w6 v6 ([op + 128, (l.length : Int) + 128] ++ mk) ∧ Below w.heap.size w w6 ∧ Whole w6 gb 26 #[.bool true, .int .i64 op, .slice A l.length c] from ⟨ho6, hb6, HY.out.2.2.1.grown hg6 HY.out.2.2.2⟩)
      clear ho6 hb6 hg6 hat6 HY
      have q2 := H6.out.2.2.cell 2 _ rfl
      obtain ⟨R, hR⟩ : ∃ R, R = [op + 128, (l.length : Int) + 128] ++ mk := ⟨_, rfl⟩
      have hRl : R.length ≤ 8 := by rw [hR]; simp only [List.length_append, List.length_cons, List.length_nil, HM.out.1]; omega
      have HR := Lib.hid (And.intro hR hRl)
      clear hR hRl
      obtain ⟨D, hD⟩ : ∃ D, D = maskL mk l := ⟨_, rfl⟩
      have hDl : D.length = l.length := by rw [hD]; exact maskL_length _ _
      have HD := Lib.hid (And.intro hD hDl)
      clear hD hDl
      go_wp2_with fail
      clear q2
      go_loopw [9, 79] (fun v i wr => ∃ k : Nat, i = .int .i64 k ∧ k ≤ l.length ∧ Hid (Own w wr v (R ++ D.take k) ∧ Below w.heap.size w wr)) (fun _ i _ => l.length - (intOf i).toNat)
      case atStart => exact ⟨0, rfl, by omega, Lib.hid ⟨H6.out.1.cast (by rw [HR.out.1, List.take_zero, List.append_nil]), H6.out.2.1⟩⟩
      case round =>
        obtain ⟨k, rfl, hk, HA⟩ := hrel
        by_cases hkn : k < l.length
        · have dkn : decide (k < l.length) = true := decide_eq_true hkn
          have dkn' : decide ((k : Int) < l.length) = true := decide_eq_true (by omega)
          have ikn : (k : Int) < l.length := by omega
          have wk : IntKind.i64.wrap ((k : Int) + 1) = k + 1 := wrap_id (by omega) (by have := HN.out; omega)
          obtain ⟨ad, hA, hcl⟩ := Rd.cells (Kd.C_below HI.out.1 HA.out.2) (by omega)
          subst hA
          have hx := hcl k hkn
          obtain ⟨x, hxe⟩ : ∃ x, x = rd l (k : Nat) := ⟨_, rfl⟩
          rw [← hxe] at hx
          clear hcl
          obtain ⟨am, hA1, hmc⟩ := Rd.cells (Kd.C_below HM.out.2.2 HA.out.2) (by decide)
          subst hA1
          have hy := hmc (k % 4) (Nat.mod_lt _ (by decide))
          have t1 : (k : Int).tmod 4 = ((k % 4 : Nat) : Int) := Int.ofNat_tmod k 4
          obtain ⟨j, hj⟩ : ∃ j, j = k % 4 := ⟨_, rfl⟩
          rw [← hj] at hy t1
          have j4 : j < 4 := by omega
          have ji4 : (j : Int) < 4 := by omega
          have wj : IntKind.i64.wrap (j : Int) = j := wrap_id (by omega) (by omega)
          obtain ⟨y, hye⟩ : ∃ y, y = rd mk (j : Nat) := ⟨_, rfl⟩
          rw [← hye] at hy
          have HST := Lib.hid (show R ++ (D.take k ++ [bits .xor .u8 x y]) = R ++ D.take (k + 1) by rw [take_one D k (by rw [HD.out.2]; exact hkn), HD.out.1, maskL_at mk l k hkn, hxe, hye, hj])
          clear hmc hj hye hxe
          have hlim : (R ++ D.take k).length + 1 ≤ 140737488355328 := by have := HR.out.2; have := HN.out; rw [List.length_append, List.length_take, HD.out.2]; omega
          have HLIM := Lib.hid hlim
          clear hlim
          go_wp2_with (at_builtin; refine app_one HA.out.1 HA.out.2 HLIM.out rfl rfl rfl rfl ?_)
          intro v8 w8 ho8 hb8 _ _
          rw [HST.out] at ho8
          have HN8 := Lib.hid (And.intro ho8 hb8)
          clear ho8 hb8
          go_wp2
          go_roundw
          case rel => exact ⟨k + 1, by go_num, by omega, HN8⟩
          case measure => simp [intOf]; omega
        · obtain rfl : k = l.length := by omega
          have dkn : decide (l.length < l.length) = false := decide_eq_false (by omega)
          go_wp2
          go_ret2
          exact ⟨_, by rw [HM.out.2.1]; rfl, HA.out.1.cast (by rw [if_pos HM.out.2.1, List.take_of_length_le (by rw [HD.out.2]; exact Nat.le_refl _), HR.out.1, HD.out.1]; exact wr_s4 (fin := true) (op := op) HM.out.1 HN.out.1 HSZ.out), HA.out.2⟩
    | false =>
      go_enter Tryd.func21, Tryd.ntmps21
      go_upto_region 1 with (fail)
      rw [← HS.out.1, ← HS.out.2]
      go_wp2_with fail
      refine (knownRef_calls op _).mono ?_
      rintro e w' ⟨rfl, rfl⟩
      rw [HK.out]
      go_upto_region 16 with (fail)
      obtain ⟨W1, hW1⟩ : ∃ W1, W1 = w'.alloc (.cells #[.int .u8 (op), .int .u8 ((l.length : Int) + 128)] 5) := ⟨_, rfl⟩
      obtain ⟨g, hg⟩ : ∃ g, g = w'.heap.size := ⟨_, rfl⟩
      have HAT := Lib.hid (show WrAt w W1 gb g false op A l.length c (op) ((l.length : Int) + 128) from ⟨by rw [hW1, hg]; exact lit_two HI.out.2.2.1 _ _, HI.out.2.2.2.1.below (by rw [hW1]; exact below_alloc (Below.refl _ _) _) HI.out.2.2.2.1.lt, below_step HI.out.2.2.1 (by rw [hW1]; exact below_alloc (Below.refl _ _) _), by rw [hg]; exact HI.out.2.2.1.size, by have := HI.out.2.2.2.1.lt; omega⟩)
      rw [← hW1, ← hg]
      clear hW1 hg q0 q1 q2
      have HY := Lib.hid (show Own w W1 (.slice (some ⟨g, 0, none⟩) 2 2) [op, (l.length : Int) + 128] ∧ Below w.heap.size w W1 ∧ Whole W1 gb 26 #[.bool false, .int .i64 op, .slice A l.length c] ∧ some gb ≠ (Value.slice (some ⟨g, 0, none⟩) 2 2).ownBlock from ⟨HAT.out.1, HAT.out.2.2.1, HAT.out.2.1, fun e => HAT.out.2.2.2.2 (Option.some.inj e).symm⟩)
      clear HAT
      go_wp2_with (at_builtin; refine app_row HY.out.1 (Kd.C_below HM.out.2.2 HY.out.2.1) HY.out.2.1 (by simp) rfl rfl rfl rfl ?_)
      intro v6 w6 ho6 hb6 hg6 hat6
      have H6 := Lib.hid (show Own w w6 v6 ([op, (l.length : Int) + 128] ++ mk) ∧ Below w.heap.size w w6 ∧ Whole w6 gb 26 #[.bool false, .int .i64 op, .slice A l.length c] from ⟨ho6, hb6, HY.out.2.2.1.grown hg6 HY.out.2.2.2⟩)
      clear ho6 hb6 hg6 hat6 HY
      have q2 := H6.out.2.2.cell 2 _ rfl
      obtain ⟨R, hR⟩ : ∃ R, R = [op, (l.length : Int) + 128] ++ mk := ⟨_, rfl⟩
      have hRl : R.length ≤ 8 := by rw [hR]; simp only [List.length_append, List.length_cons, List.length_nil, HM.out.1]; omega
      have HR := Lib.hid (And.intro hR hRl)
      clear hR hRl
      obtain ⟨D, hD⟩ : ∃ D, D = maskL mk l := ⟨_, rfl⟩
      have hDl : D.length = l.length := by rw [hD]; exact maskL_length _ _
      have HD := Lib.hid (And.intro hD hDl)
      clear hD hDl
      go_wp2_with fail
      clear q2
      go_loopw [9, 79] (fun v i wr => ∃ k : Nat, i = .int .i64 k ∧ k ≤ l.length ∧ Hid (Own w wr v (R ++ D.take k) ∧ Below w.heap.size w wr)) (fun _ i _ => l.length - (intOf i).toNat)
      case atStart => exact ⟨0, rfl, by omega, Lib.hid ⟨H6.out.1.cast (by rw [HR.out.1, List.take_zero, List.append_nil]), H6.out.2.1⟩⟩
      case round =>
        obtain ⟨k, rfl, hk, HA⟩ := hrel
        by_cases hkn : k < l.length
        · have dkn : decide (k < l.length) = true := decide_eq_true hkn
          have dkn' : decide ((k : Int) < l.length) = true := decide_eq_true (by omega)
          have ikn : (k : Int) < l.length := by omega
          have wk : IntKind.i64.wrap ((k : Int) + 1) = k + 1 := wrap_id (by omega) (by have := HN.out; omega)
          obtain ⟨ad, hA, hcl⟩ := Rd.cells (Kd.C_below HI.out.1 HA.out.2) (by omega)
          subst hA
          have hx := hcl k hkn
          obtain ⟨x, hxe⟩ : ∃ x, x = rd l (k : Nat) := ⟨_, rfl⟩
          rw [← hxe] at hx
          clear hcl
          obtain ⟨am, hA1, hmc⟩ := Rd.cells (Kd.C_below HM.out.2.2 HA.out.2) (by decide)
          subst hA1
          have hy := hmc (k % 4) (Nat.mod_lt _ (by decide))
          have t1 : (k : Int).tmod 4 = ((k % 4 : Nat) : Int) := Int.ofNat_tmod k 4
          obtain ⟨j, hj⟩ : ∃ j, j = k % 4 := ⟨_, rfl⟩
          rw [← hj] at hy t1
          have j4 : j < 4 := by omega
          have ji4 : (j : Int) < 4 := by omega
          have wj : IntKind.i64.wrap (j : Int) = j := wrap_id (by omega) (by omega)
          obtain ⟨y, hye⟩ : ∃ y, y = rd mk (j : Nat) := ⟨_, rfl⟩
          rw [← hye] at hy
          have HST := Lib.hid (show R ++ (D.take k ++ [bits .xor .u8 x y]) = R ++ D.take (k + 1) by rw [take_one D k (by rw [HD.out.2]; exact hkn), HD.out.1, maskL_at mk l k hkn, hxe, hye, hj])
          clear hmc hj hye hxe
          have hlim : (R ++ D.take k).length + 1 ≤ 140737488355328 := by have := HR.out.2; have := HN.out; rw [List.length_append, List.length_take, HD.out.2]; omega
          have HLIM := Lib.hid hlim
          clear hlim
          go_wp2_with (at_builtin; refine app_one HA.out.1 HA.out.2 HLIM.out rfl rfl rfl rfl ?_)
          intro v8 w8 ho8 hb8 _ _
          rw [HST.out] at ho8
          have HN8 := Lib.hid (And.intro ho8 hb8)
          clear ho8 hb8
          go_wp2
          go_roundw
          case rel => exact ⟨k + 1, by go_num, by omega, HN8⟩
          case measure => simp [intOf]; omega
        · obtain rfl : k = l.length := by omega
          have dkn : decide (l.length < l.length) = false := decide_eq_false (by omega)
          go_wp2
          go_ret2
          exact ⟨_, by rw [HM.out.2.1]; rfl, HA.out.1.cast (by rw [if_pos HM.out.2.1, List.take_of_length_le (by rw [HD.out.2]; exact Nat.le_refl _), HR.out.1, HD.out.1]; exact wr_s4 (fin := false) (op := op) HM.out.1 HN.out.1 HSZ.out), HA.out.2⟩
set_option maxRecDepth 20000 in
set_option maxHeartbeats 3200000 in
theorem WsWriteRef_4g {n : Nat} (fin : Bool) (op : Int) (A : Option Addr) (c : Nat) (l : List Int) (A1 : Option Addr) (c1 : Nat) (mk : List Int) (w : World) (hr : Rd w A n l) (hc : n ≤ c) (hb : Bytes l) (hs : n ≤ 140737488351232) (hrm : Rd w A1 4 mk) (hE : wrE ⟨fin, op, l⟩ 4 = 0) (hn : 125 < n) :
    Calls Tryd.prog 21 #[.agg #[.bool fin, .int .i64 op, .slice A n c], .slice A1 4 c1] w (WrPost ⟨fin, op, l⟩ mk w) := by
  have hml := Kd.C_len hrm
  obtain ⟨_, hk, h8, hbig⟩ := wrE_ok hE
  simp only at hk h8 hbig
  have hop := known_cases hk
  have hlen := Kd.C_len hr
  subst hlen
  obtain ⟨gb, hgb⟩ : ∃ g, g = w.heap.size := ⟨_, rfl⟩
  obtain ⟨W0, hW0⟩ : ∃ W0, W0 = w.alloc (.cells #[.bool fin, .int .i64 op, .slice A l.length c] 26) := ⟨_, rfl⟩
  have hb0 : Below w.heap.size w W0 := by rw [hW0]; exact below_alloc (Below.refl _ _) _
  have hk0 : Whole W0 gb 26 #[.bool fin, .int .i64 op, .slice A l.length c] := by rw [hW0, hgb]; exact Whole.new w _ _
  have HS := Lib.hid (show gb = w.heap.size ∧ W0 = w.alloc _ from ⟨hgb, hW0⟩)
  have HI := Lib.hid (show Rd w A l.length l ∧ Bytes l ∧ Below w.heap.size w W0 ∧ Whole W0 gb 26 #[.bool fin, .int .i64 op, .slice A l.length c] ∧ l.length ≤ 140737488351232 ∧ l.length ≤ c from ⟨hr, hb, hb0, hk0, hs, hc⟩)
  have q0 := hk0.cell 0 _ rfl
  have q1 := hk0.cell 1 _ rfl
  have q2 := hk0.cell 2 _ rfl
  clear hr hb hb0 hk0 hgb hW0 hs hc
  have HK := Lib.hid hk
  have HM := Lib.hid (show mk.length = 4 ∧ wrE ⟨fin, op, l⟩ mk.length = 0 ∧ Rd w A1 4 mk from ⟨hml, by rw [hml]; exact hE, hrm⟩)
  clear hml hE hrm hk
  have e16 : decide (16384 < (l.length : Int)) = false := decide_eq_false (by omega)
  have e16' : decide (16384 < l.length) = false := decide_eq_false (by omega)
  have e125 : decide (125 < (l.length : Int)) = true := decide_eq_true (by omega)
  have e125' : decide (125 < l.length) = true := decide_eq_true (by omega)
  have wop : IntKind.u8.wrap op = op := by rw [IntKind.wrap_u8]; omega
  have wop2 : IntKind.u8.wrap (op + 128) = op + 128 := by rw [IntKind.wrap_u8]; omega
  have wop3 : IntKind.i64.wrap (op + 128) = op + 128 := wrap_id (by omega) (by omega)
  have t1 : (l.length : Int).tdiv 256 = (l.length : Int) / 256 := tdiv_nn (by omega) 256
  have t2 : (l.length : Int).tmod 256 = (l.length : Int) % 256 := tmod_nn (by omega) 256
  have t3 : IntKind.i64.wrap ((l.length : Int) / 256) = (l.length : Int) / 256 := wrap_id (by omega) (by omega)
  have t4 : IntKind.i64.wrap ((l.length : Int) % 256) = (l.length : Int) % 256 := wrap_id (by omega) (by omega)
  have t5 : IntKind.u8.wrap ((l.length : Int) / 256) = (l.length : Int) / 256 := by rw [IntKind.wrap_u8]; omega
  have t6 : IntKind.u8.wrap ((l.length : Int) % 256) = (l.length : Int) % 256 := by rw [IntKind.wrap_u8]; omega
  have HSZ := Lib.hid (show (254 : Int) = sizeF 4 l.length by unfold sizeF; rw [if_neg (by omega)]; rfl)
  have HN := Lib.hid (show 125 < l.length ∧ l.length ≤ 16384 from ⟨by omega, hbig⟩)
  clear hop
  cases h8c : decide (8 ≤ op) with
  | true =>
    obtain ⟨hfin, hsm⟩ := h8 (of_decide_eq_true h8c)
    omega
  | false =>
    clear h8 hn hbig
    cases fin with
    | true =>
      go_enter Tryd.func21, Tryd.ntmps21
      go_upto_region 1 with (fail)
      rw [← HS.out.1, ← HS.out.2]
      go_wp2_with fail
      refine (knownRef_calls op _).mono ?_
      rintro e w' ⟨rfl, rfl⟩
      rw [HK.out]
      go_upto_region 16 with (fail)
      obtain ⟨W1, hW1⟩ : ∃ W1, W1 = w'.alloc (.cells #[.int .u8 (op + 128), .int .u8 (254)] 5) := ⟨_, rfl⟩
      obtain ⟨g, hg⟩ : ∃ g, g = w'.heap.size := ⟨_, rfl⟩
      have HAT := Lib.hid (show WrAt w W1 gb g true op A l.length c (op + 128) (254) from ⟨by rw [hW1, hg]; exact lit_two HI.out.2.2.1 _ _, HI.out.2.2.2.1.below (by rw [hW1]; exact below_alloc (Below.refl _ _) _) HI.out.2.2.2.1.lt, below_step HI.out.2.2.1 (by rw [hW1]; exact below_alloc (Below.refl _ _) _), by rw [hg]; exact HI.out.2.2.1.size, by have := HI.out.2.2.2.1.lt; omega⟩)
      rw [← hW1, ← hg]
      clear hW1 hg q0 q1 q2
      have HY := Lib.hid (show Own w W1 (.slice (some ⟨g, 0, none⟩) 2 2) [op + 128, 254] ∧ Below w.heap.size w W1 ∧ Whole W1 gb 26 #[.bool true, .int .i64 op, .slice A l.length c] ∧ some gb ≠ (Value.slice (some ⟨g, 0, none⟩) 2 2).ownBlock from ⟨HAT.out.1, HAT.out.2.2.1, HAT.out.2.1, fun e => HAT.out.2.2.2.2 (Option.some.inj e).symm⟩)
      clear HAT
      go_wp2_with (at_builtin; refine app_row (Kd.R_alloc HY.out.1 _) (C_const _ 5 [(l.length : Int) / 256, (l.length : Int) % 256] (0, 0) (by simp)) (below_alloc HY.out.2.1 _) (by simp) rfl rfl rfl rfl ?_)
      intro v5 w5 ho5 hb5 hg5 hat5
      have HZ := Lib.hid (show Own w w5 v5 ([op + 128, 254] ++ [(l.length : Int) / 256, (l.length : Int) % 256]) ∧ Below w.heap.size w w5 ∧ Whole w5 gb 26 #[.bool true, .int .i64 op, .slice A l.length c] ∧ some gb ≠ v5.ownBlock from ⟨ho5, hb5, (HY.out.2.2.1.below (below_alloc (Below.refl _ _) _) HY.out.2.2.1.lt).grown hg5 HY.out.2.2.2, ne_after hat5 HY.out.2.2.2 (by have := HY.out.2.2.1.lt; omega)⟩)
      clear ho5 hb5 hg5 hat5 HY
      go_wp2_with (at_builtin; refine app_row HZ.out.1 (Kd.C_below HM.out.2.2 HZ.out.2.1) HZ.out.2.1 (by simp) rfl rfl rfl rfl ?_)
      intro v6 w6 ho6 hb6 hg6 hat6
      have H6 := Lib.hid (show Own w w6 v6 (([op + 128, 254] ++ [(l.length : Int) / 256, (l.length : Int) % 256]) ++ mk) ∧ Below w.heap.size w w6 ∧ Whole w6 gb 26 #[.bool true, .int .i64 op, .slice A l.length c] from ⟨ho6, hb6, HZ.out.2.2.1.grown hg6 HZ.out.2.2.2⟩)
      clear ho6 hb6 hg6 hat6 HZ
      have q2 := H6.out.2.2.cell 2 _ rfl
      obtain ⟨R, hR⟩ : ∃ R, R = ([op + 128, 254] ++ [(l.length : Int) / 256, (l.length : Int) % 256]) ++ mk := ⟨_, rfl⟩
      have hRl : R.length ≤ 8 := by rw [hR]; simp only [List.length_append, List.length_cons, List.length_nil, HM.out.1]; omega
      have HR := Lib.hid (And.intro hR hRl)
      clear hR hRl
      obtain ⟨D, hD⟩ : ∃ D, D = maskL mk l := ⟨_, rfl⟩
      have hDl : D.length = l.length := by rw [hD]; exact maskL_length _ _
      have HD := Lib.hid (And.intro hD hDl)
      clear hD hDl
      go_wp2_with fail
      clear q2
      go_loopw [9, 79] (fun v i wr => ∃ k : Nat, i = .int .i64 k ∧ k ≤ l.length ∧ Hid (Own w wr v (R ++ D.take k) ∧ Below w.heap.size w wr)) (fun _ i _ => l.length - (intOf i).toNat)
      case atStart => exact ⟨0, rfl, by omega, Lib.hid ⟨H6.out.1.cast (by rw [HR.out.1, List.take_zero, List.append_nil]), H6.out.2.1⟩⟩
      case round =>
        obtain ⟨k, rfl, hk, HA⟩ := hrel
        by_cases hkn : k < l.length
        · have dkn : decide (k < l.length) = true := decide_eq_true hkn
          have dkn' : decide ((k : Int) < l.length) = true := decide_eq_true (by omega)
          have ikn : (k : Int) < l.length := by omega
          have wk : IntKind.i64.wrap ((k : Int) + 1) = k + 1 := wrap_id (by omega) (by have := HN.out; omega)
          obtain ⟨ad, hA, hcl⟩ := Rd.cells (Kd.C_below HI.out.1 HA.out.2) (by omega)
          subst hA
          have hx := hcl k hkn
          obtain ⟨x, hxe⟩ : ∃ x, x = rd l (k : Nat) := ⟨_, rfl⟩
          rw [← hxe] at hx
          clear hcl
          obtain ⟨am, hA1, hmc⟩ := Rd.cells (Kd.C_below HM.out.2.2 HA.out.2) (by decide)
          subst hA1
          have hy := hmc (k % 4) (Nat.mod_lt _ (by decide))
          have t1 : (k : Int).tmod 4 = ((k % 4 : Nat) : Int) := Int.ofNat_tmod k 4
          obtain ⟨j, hj⟩ : ∃ j, j = k % 4 := ⟨_, rfl⟩
          rw [← hj] at hy t1
          have j4 : j < 4 := by omega
          have ji4 : (j : Int) < 4 := by omega
          have wj : IntKind.i64.wrap (j : Int) = j := wrap_id (by omega) (by omega)
          obtain ⟨y, hye⟩ : ∃ y, y = rd mk (j : Nat) := ⟨_, rfl⟩
          rw [← hye] at hy
          have HST := Lib.hid (show R ++ (D.take k ++ [bits .xor .u8 x y]) = R ++ D.take (k + 1) by rw [take_one D k (by rw [HD.out.2]; exact hkn), HD.out.1, maskL_at mk l k hkn, hxe, hye, hj])
          clear hmc hj hye hxe
          have hlim : (R ++ D.take k).length + 1 ≤ 140737488355328 := by have := HR.out.2; have := HN.out; rw [List.length_append, List.length_take, HD.out.2]; omega
          have HLIM := Lib.hid hlim
          clear hlim
          go_wp2_with (at_builtin; refine app_one HA.out.1 HA.out.2 HLIM.out rfl rfl rfl rfl ?_)
          intro v8 w8 ho8 hb8 _ _
          rw [HST.out] at ho8
          have HN8 := Lib.hid (And.intro ho8 hb8)
          clear ho8 hb8
          go_wp2
          go_roundw
          case rel => exact ⟨k + 1, by go_num, by omega, HN8⟩
          case measure => simp [intOf]; omega
        · obtain rfl : k = l.length := by omega
          have dkn : decide (l.length < l.length) = false := decide_eq_false (by omega)
          go_wp2
          go_ret2
          exact ⟨_, by rw [HM.out.2.1]; rfl, HA.out.1.cast (by rw [if_pos HM.out.2.1, List.take_of_length_le (by rw [HD.out.2]; exact Nat.le_refl _), HR.out.1, HD.out.1]; exact wr_g4 (fin := true) (op := op) HM.out.1 HN.out.1 HSZ.out), HA.out.2⟩
    | false =>
      go_enter Tryd.func21, Tryd.ntmps21
      go_upto_region 1 with (fail)
      rw [← HS.out.1, ← HS.out.2]
      go_wp2_with fail
      refine (knownRef_calls op _).mono ?_
      rintro e w' ⟨rfl, rfl⟩
      rw [HK.out]
      go_upto_region 16 with (fail)
      obtain ⟨W1, hW1⟩ : ∃ W1, W1 = w'.alloc (.cells #[.int .u8 (op), .int .u8 (254)] 5) := ⟨_, rfl⟩
      obtain ⟨g, hg⟩ : ∃ g, g = w'.heap.size := ⟨_, rfl⟩
      have HAT := Lib.hid (show WrAt w W1 gb g false op A l.length c (op) (254) from ⟨by rw [hW1, hg]; exact lit_two HI.out.2.2.1 _ _, HI.out.2.2.2.1.below (by rw [hW1]; exact below_alloc (Below.refl _ _) _) HI.out.2.2.2.1.lt, below_step HI.out.2.2.1 (by rw [hW1]; exact below_alloc (Below.refl _ _) _), by rw [hg]; exact HI.out.2.2.1.size, by have := HI.out.2.2.2.1.lt; omega⟩)
      rw [← hW1, ← hg]
      clear hW1 hg q0 q1 q2
      have HY := Lib.hid (show Own w W1 (.slice (some ⟨g, 0, none⟩) 2 2) [op, 254] ∧ Below w.heap.size w W1 ∧ Whole W1 gb 26 #[.bool false, .int .i64 op, .slice A l.length c] ∧ some gb ≠ (Value.slice (some ⟨g, 0, none⟩) 2 2).ownBlock from ⟨HAT.out.1, HAT.out.2.2.1, HAT.out.2.1, fun e => HAT.out.2.2.2.2 (Option.some.inj e).symm⟩)
      clear HAT
      go_wp2_with (at_builtin; refine app_row (Kd.R_alloc HY.out.1 _) (C_const _ 5 [(l.length : Int) / 256, (l.length : Int) % 256] (0, 0) (by simp)) (below_alloc HY.out.2.1 _) (by simp) rfl rfl rfl rfl ?_)
      intro v5 w5 ho5 hb5 hg5 hat5
      have HZ := Lib.hid (show Own w w5 v5 ([op, 254] ++ [(l.length : Int) / 256, (l.length : Int) % 256]) ∧ Below w.heap.size w w5 ∧ Whole w5 gb 26 #[.bool false, .int .i64 op, .slice A l.length c] ∧ some gb ≠ v5.ownBlock from ⟨ho5, hb5, (HY.out.2.2.1.below (below_alloc (Below.refl _ _) _) HY.out.2.2.1.lt).grown hg5 HY.out.2.2.2, ne_after hat5 HY.out.2.2.2 (by have := HY.out.2.2.1.lt; omega)⟩)
      clear ho5 hb5 hg5 hat5 HY
      go_wp2_with (at_builtin; refine app_row HZ.out.1 (Kd.C_below HM.out.2.2 HZ.out.2.1) HZ.out.2.1 (by simp) rfl rfl rfl rfl ?_)
      intro v6 w6 ho6 hb6 hg6 hat6
      have H6 := Lib.hid (show Own w w6 v6 (([op, 254] ++ [(l.length : Int) / 256, (l.length : Int) % 256]) ++ mk) ∧ Below w.heap.size w w6 ∧ Whole w6 gb 26 #[.bool false, .int .i64 op, .slice A l.length c] from ⟨ho6, hb6, HZ.out.2.2.1.grown hg6 HZ.out.2.2.2⟩)
      clear ho6 hb6 hg6 hat6 HZ
      have q2 := H6.out.2.2.cell 2 _ rfl
      obtain ⟨R, hR⟩ : ∃ R, R = ([op, 254] ++ [(l.length : Int) / 256, (l.length : Int) % 256]) ++ mk := ⟨_, rfl⟩
      have hRl : R.length ≤ 8 := by rw [hR]; simp only [List.length_append, List.length_cons, List.length_nil, HM.out.1]; omega
      have HR := Lib.hid (And.intro hR hRl)
      clear hR hRl
      obtain ⟨D, hD⟩ : ∃ D, D = maskL mk l := ⟨_, rfl⟩
      have hDl : D.length = l.length := by rw [hD]; exact maskL_length _ _
      have HD := Lib.hid (And.intro hD hDl)
      clear hD hDl
      go_wp2_with fail
      clear q2
      go_loopw [9, 79] (fun v i wr => ∃ k : Nat, i = .int .i64 k ∧ k ≤ l.length ∧ Hid (Own w wr v (R ++ D.take k) ∧ Below w.heap.size w wr)) (fun _ i _ => l.length - (intOf i).toNat)
      case atStart => exact ⟨0, rfl, by omega, Lib.hid ⟨H6.out.1.cast (by rw [HR.out.1, List.take_zero, List.append_nil]), H6.out.2.1⟩⟩
      case round =>
        obtain ⟨k, rfl, hk, HA⟩ := hrel
        by_cases hkn : k < l.length
        · have dkn : decide (k < l.length) = true := decide_eq_true hkn
          have dkn' : decide ((k : Int) < l.length) = true := decide_eq_true (by omega)
          have ikn : (k : Int) < l.length := by omega
          have wk : IntKind.i64.wrap ((k : Int) + 1) = k + 1 := wrap_id (by omega) (by have := HN.out; omega)
          obtain ⟨ad, hA, hcl⟩ := Rd.cells (Kd.C_below HI.out.1 HA.out.2) (by omega)
          subst hA
          have hx := hcl k hkn
          obtain ⟨x, hxe⟩ : ∃ x, x = rd l (k : Nat) := ⟨_, rfl⟩
          rw [← hxe] at hx
          clear hcl
          obtain ⟨am, hA1, hmc⟩ := Rd.cells (Kd.C_below HM.out.2.2 HA.out.2) (by decide)
          subst hA1
          have hy := hmc (k % 4) (Nat.mod_lt _ (by decide))
          have t1 : (k : Int).tmod 4 = ((k % 4 : Nat) : Int) := Int.ofNat_tmod k 4
          obtain ⟨j, hj⟩ : ∃ j, j = k % 4 := ⟨_, rfl⟩
          rw [← hj] at hy t1
          have j4 : j < 4 := by omega
          have ji4 : (j : Int) < 4 := by omega
          have wj : IntKind.i64.wrap (j : Int) = j := wrap_id (by omega) (by omega)
          obtain ⟨y, hye⟩ : ∃ y, y = rd mk (j : Nat) := ⟨_, rfl⟩
          rw [← hye] at hy
          have HST := Lib.hid (show R ++ (D.take k ++ [bits .xor .u8 x y]) = R ++ D.take (k + 1) by rw [take_one D k (by rw [HD.out.2]; exact hkn), HD.out.1, maskL_at mk l k hkn, hxe, hye, hj])
          clear hmc hj hye hxe
          have hlim : (R ++ D.take k).length + 1 ≤ 140737488355328 := by have := HR.out.2; have := HN.out; rw [List.length_append, List.length_take, HD.out.2]; omega
          have HLIM := Lib.hid hlim
          clear hlim
          go_wp2_with (at_builtin; refine app_one HA.out.1 HA.out.2 HLIM.out rfl rfl rfl rfl ?_)
          intro v8 w8 ho8 hb8 _ _
          rw [HST.out] at ho8
          have HN8 := Lib.hid (And.intro ho8 hb8)
          clear ho8 hb8
          go_wp2
          go_roundw
          case rel => exact ⟨k + 1, by go_num, by omega, HN8⟩
          case measure => simp [intOf]; omega
        · obtain rfl : k = l.length := by omega
          have dkn : decide (l.length < l.length) = false := decide_eq_false (by omega)
          go_wp2
          go_ret2
          exact ⟨_, by rw [HM.out.2.1]; rfl, HA.out.1.cast (by rw [if_pos HM.out.2.1, List.take_of_length_le (by rw [HD.out.2]; exact Nat.le_refl _), HR.out.1, HD.out.1]; exact wr_g4 (fin := false) (op := op) HM.out.1 HN.out.1 HSZ.out), HA.out.2⟩
/-- blotterref09.Write, of any frame and any mask. -/
theorem WsWriteRef_calls {n m : Nat} (fin : Bool) (op : Int) (A : Option Addr) (c : Nat) (l : List Int) (A1 : Option Addr) (c1 : Nat) (mk : List Int) (w : World) (hr : Rd w A n l) (hc : n ≤ c) (hb : Bytes l) (hs : n ≤ 140737488351232) (hrm : Rd w A1 m mk) (_hcm : m ≤ c1) :
    Calls Tryd.prog 21 #[.agg #[.bool fin, .int .i64 op, .slice A n c], .slice A1 m c1] w (WrPost ⟨fin, op, l⟩ mk w) := by
  have hml := Kd.C_len hrm
  by_cases hE : wrE ⟨fin, op, l⟩ m = 0
  · rcases (wrE_ok hE).1 with rfl | rfl
    · by_cases hn : n ≤ 125
      · exact WsWriteRef_0s fin op A c l A1 c1 mk w hr hc hb hs hrm hE hn
      · exact WsWriteRef_0g fin op A c l A1 c1 mk w hr hc hb hs hrm hE (by omega)
    · by_cases hn : n ≤ 125
      · exact WsWriteRef_4s fin op A c l A1 c1 mk w hr hc hb hs hrm hE hn
      · exact WsWriteRef_4g fin op A c l A1 c1 mk w hr hc hb hs hrm hE (by omega)
  · exact WsWriteRef_no fin op A c l A1 c1 mk w hr hc hb hs hml hE
end Go.Proofs.YtcfbfmgckaehdaaDoor
