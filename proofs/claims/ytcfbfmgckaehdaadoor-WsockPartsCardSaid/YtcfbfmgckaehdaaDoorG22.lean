/- The texts WsPartsBad in one. -/
import Derived.Test.YtcfbfmgckaehdaaDoorG19
namespace Go.Proofs.YtcfbfmgckaehdaaDoor
open Go.RowKit Go.Proofs.YtcfbfmgckaehdaaDoorW.PrintWords
set_option maxRecDepth 20000 in
set_option maxHeartbeats 12800000 in
theorem WsParts_bad {nl m np : Nat} (A : Option Addr) (c : Nat) (l : List Int) (C : Option Addr) (d : Nat) (cuts : List Int) (A3 : Option Addr) (c3 : Nat) (ping : List Int) (w : World) (hr : Rd w A nl l) (hc : nl ≤ c) (hb : Bytes l) (hcu : Kd.C (Kd.int .i64) w C m cuts) (hr3 : Rd w A3 np ping) (hc3 : np ≤ c3) (hb3 : Bytes ping) (hn : nl = l.length) (hnp : np = ping.length) (hl : nl ≤ 16384) (hl2 : np ≤ 125) (hneg : ¬ charsOf l < 0) :
    Calls Tryd.prog 7 #[.slice A nl c, .bool true, .slice C m d, .slice A3 np c3] w fun e w' => e = .returned (.bool true) ∧ Below w.heap.size w w' := by
  have HI := Lib.hid (show Rd w A nl l ∧ nl ≤ c ∧ Bytes l ∧ Kd.C (Kd.int .i64) w C m cuts ∧ Rd w A3 np ping ∧ np ≤ c3 ∧ Bytes ping ∧ l.length = nl ∧ ping.length = np from ⟨hr, hc, hb, hcu, hr3, hc3, hb3, hn.symm, hnp.symm⟩)
  clear hr hc hb hcu hr3 hc3 hb3 hn hnp
  have d1 : decide (16384 < (nl : Int)) = false := decide_eq_false (by omega)
  have d1' : decide (16384 < nl) = false := decide_eq_false (by omega)
  have d2 : decide (125 < (np : Int)) = false := decide_eq_false (by omega)
  have d2' : decide (125 < np) = false := decide_eq_false (by omega)
  have HL := Lib.hid (show nl ≤ 16384 ∧ np ≤ 125 from ⟨hl, hl2⟩)
  clear hl hl2
  obtain ⟨ch, hch⟩ : ∃ x, x = charsOf l := ⟨_, rfl⟩
  have HCL := Lib.hid hch
  rw [← hch] at hneg
  have dc : decide (ch < 0) = false := decide_eq_false hneg
  have HCH := Lib.hid (show (2 : Int) = 1 → ¬ 0 ≤ charsOf l from fun h => by cases h)
  clear hneg hch
  go_enter Tryd.func7, Tryd.ntmps7
  go_wp2_with fail
  refine (Chars_calls A c l _ HI.out.1 HI.out.2.2.1).mono ?_
  rintro e w1 ⟨rfl, hd1⟩
  have HB1 := Lib.hid hd1.below
  rw [← HCL.out]
  clear hd1
  go_wp2_with fail
  refine (pieces_calls A c l C d cuts _ (Kd.C_below HI.out.1 HB1.out) HI.out.2.1 HI.out.2.2.1 (by have := HL.out; omega) (Kd.C_below HI.out.2.2.2.1 HB1.out)).mono ?_
  rintro e w3 ⟨B3, n3, d3, P, rfl, hr3, hf3, hby3, hcd3, h13, h101, hb3⟩
  have hP := Kd.C_len hr3
  obtain ⟨N, rfl⟩ : ∃ N, n3 = N + 1 := ⟨n3 - 1, by omega⟩
  have H3 := Lib.hid (show RdL w3 B3 (N + 1) P ∧ P.flatten = l ∧ (∀ x ∈ P, Bytes x) ∧ N ≤ 100 ∧ P.length = N + 1 ∧ Below w.heap.size w w3 from ⟨hr3, hf3, hby3, by omega, hP, below_step HB1.out hb3⟩)
  have HI3 := Lib.hid (show Rd w3 A3 np ping ∧ Rd w3 A nl l from ⟨Kd.C_below HI.out.2.2.2.2.1 H3.out.2.2.2.2.2, Kd.C_below HI.out.1 H3.out.2.2.2.2.2⟩)
  have hN : N ≤ 100 := by omega
  have wn : IntKind.i64.wrap ((N : Int) + 1 - 1) = N := by rw [IntKind.wrap_i64]; omega
  have wn2 : IntKind.i64.wrap ((N : Int)) = N := by rw [IntKind.wrap_i64]; omega
  clear hr3 hf3 hby3 hcd3 h13 h101 hb3 hP
  go_wp2
  go_loopw [10, 43] (fun av iv wr => ∃ (k : Nat) (al : List Int) (v : Value), v = av ∧ iv = .int .i64 k ∧ k ≤ N + 1 ∧ Hid (PrtAt w3 wr v al 2 ping P k)) (fun _ i _ => N + 1 - (intOf i).toNat)
  case atStart => exact ⟨0, [], _, rfl, rfl, by omega, Lib.hid ⟨Own.nil _ _, Below.refl _ _, rfl⟩⟩
  case round =>
    obtain ⟨k, al, v, rfl, rfl, hk, HR⟩ := hrel
    have HAL := Lib.hid (show al.length ≤ 40000 from HR.out.len (by have := HL.out; have := HI.out; omega) (by have := H3.out; omega) (by rw [H3.out.2.1]; have := HL.out; have := HI.out; omega))
    by_cases hkn : k < N + 1
    · have dkn : decide ((k : Int) < (N : Int) + 1) = true := decide_eq_true (by omega)
      have dkn' : decide (k < N + 1) = true := decide_eq_true hkn
      have wk : IntKind.i64.wrap ((k : Int) + 1) = k + 1 := wrap_id (by omega) (by omega)
      have ikn : (k : Int) < (N : Int) + 1 := by omega
      have i0 : (0 : Int) ≤ k := by omega
      have HK := Lib.hid hkn
      obtain ⟨ad, Ai, ci, rfl, x0, hci, hrd⟩ := RdL.at (Kd.C_below H3.out.1 HR.out.2.1) k hkn
      have hkl : k < P.length := by rw [H3.out.2.2.2.2.1]; exact hkn
      have hpk0 : P.drop k = P.getD k [] :: P.drop (k + 1) := by rw [List.drop_eq_getElem_cons hkl, List.getD_eq_getElem?_getD, List.getElem?_eq_getElem hkl]; rfl
      have hmem : P.getD k [] ∈ P := by rw [List.getD_eq_getElem?_getD, List.getElem?_eq_getElem hkl]; exact List.getElem_mem hkl
      have hpb := H3.out.2.2.1 _ hmem
      have hpl := flat_mem hmem
      obtain ⟨p, hp⟩ : ∃ p, p = P.getD k [] := ⟨_, rfl⟩
      rw [← hp] at x0 hci hrd hpk0 hpb hpl
      obtain ⟨mi, hmi⟩ : ∃ m, m = p.length := ⟨_, rfl⟩
      rw [← hmi] at x0 hci hrd
      have hplen : P.length = N + 1 := H3.out.2.2.2.2.1
      obtain ⟨adP, hadP⟩ : ∃ x, x = ad := ⟨_, rfl⟩
      have HP := Lib.hid (show Rd w3 Ai mi p ∧ mi ≤ ci ∧ Bytes p ∧ p.length = mi ∧ mi ≤ 16384 from ⟨by
        obtain ⟨ad2, Ai2, ci2, ead, z0, _, hz⟩ := RdL.at H3.out.1 k hkn
        have h2 := pw_cell_below HR.out.2.1 z0
        rw [← hp, ← hmi] at h2 hz
        have e1 : ad2 = ad := (Option.some.inj ead).symm
        rw [e1, x0] at h2
        injection Option.some.inj h2 with h3 _ _
        rw [h3]
        exact hz, hci, hpb, hmi.symm, by rw [H3.out.2.1] at hpl; have := HL.out; have := HI.out; omega⟩)
      have hpk : P.drop k = p :: P.drop (k + 1) := hpk0
      clear hci hrd hkl hmem hpb hpl hp hmi hpk0 hadP hk
      by_cases hk0 : k = 0
      · have hk0' : decide (k = 0) = true := decide_eq_true hk0
        by_cases hkN : k = N
        · have ek : ((k : Int) == (N : Int)) = true := by rw [beq_iff_eq]; omega
          have gk : decide (0 < (k : Int)) = false := decide_eq_false (by omega)
          have gk' : decide (0 < k) = false := decide_eq_false (by omega)
          have lk : decide ((k : Int) < (N : Int)) = false := decide_eq_false (by omega)
          have lk' : decide (k < N) = false := decide_eq_false (by omega)
          have HPS := Lib.hid (show partsB 2 ping true P = (al ++ wrL ⟨true, 2, p⟩ []) ++ partsB 2 ping (decide (k + 1 = 0)) (P.drop (k + 1)) from by rw [HR.out.2.2, hk0', hpk]; have h1 := parts_last (op := 2) (ping := ping) (al := al) (p := p) (first := true) (b := decide (k + 1 = 0)) (R := p :: P.drop (k + 1)) (by rw [List.drop_of_length_le (by omega)]); rw [h1, List.drop_of_length_le (by omega : P.length ≤ k + 1)]; rfl)
          clear hkn hk0 hkN
          obtain ⟨gf, hgf⟩ : ∃ x, x = wr.heap.size := ⟨_, rfl⟩
          obtain ⟨WF, hWF⟩ : ∃ W, W = wr.alloc (.cells #[.bool true, .int .i64 2, .slice Ai mi ci] 26) := ⟨_, rfl⟩
          have hbF : Below wr.heap.size wr WF := by rw [hWF]; exact below_alloc (Below.refl _ _) _
          have hkF : Whole WF gf 26 #[.bool true, .int .i64 2, .slice Ai mi ci] := by rw [hWF, hgf]; exact Whole.new wr _ _
          have HSF := Lib.hid (show gf = wr.heap.size ∧ WF = wr.alloc (.cells #[.bool true, .int .i64 2, .slice Ai mi ci] 26) from ⟨hgf, hWF⟩)
          have HF := Lib.hid (show Whole WF gf 26 #[.bool true, .int .i64 2, .slice Ai mi ci] ∧ Own w3 WF v al ∧ Below w3.heap.size w3 WF from ⟨hkF, HR.out.1.below hbF, below_step HR.out.2.1 hbF⟩)
          clear hgf hWF hbF hkF
          go_upto_region 12 with (fail)
          rw [← HSF.out.1, ← HSF.out.2]
          go_upto_region 14 with (fail)
          clear x0
          have y0 := HF.out.1.cell 0 _ rfl
          have y1 := HF.out.1.cell 1 _ rfl
          have y2 := HF.out.1.cell 2 _ rfl
          go_wp2_with fail
          refine (WsWrite_calls true 2 Ai ci p none 0 [] _ (Kd.C_below HP.out.1 HF.out.2.2) HP.out.2.1 HP.out.2.2.1 (by have := HP.out; omega) (Rd.empty _ _) (by decide)).mono ?_
          rintro e w5 ⟨v5, rfl, ho5, hb5⟩
          have hE5 : wrE ⟨true, 2, p⟩ ([] : List Int).length = 0 := part_wrE (fin := true) (first := true) (op := 2) (p := p) (.inr rfl) (by have := HP.out; omega)
          rw [hE5]
          rw [if_pos hE5] at ho5
          obtain ⟨A5, k5, rfl, _, hr5⟩ := ho5.reads
          obtain ⟨L5, hL5⟩ : ∃ n, n = (wrL ⟨true, 2, p⟩ []).length := ⟨_, rfl⟩
          have hL5s : L5 ≤ 20000 := by rw [hL5]; exact Nat.le_trans (wrL_len0 _) (by show 4 + p.length ≤ 20000; have := HP.out; omega)
          rw [← hL5] at hr5 ⊢
          have H5 := Lib.hid (show Own w3 w5 v al ∧ Below w3.heap.size w3 w5 ∧ Rd w5 A5 L5 (wrL ⟨true, 2, p⟩ []) ∧ L5 ≤ 20000 from ⟨HF.out.2.1.below hb5, below_step HF.out.2.2 hb5, hr5, hL5s⟩)
          clear hE5 ho5 hb5 hr5 hL5 hL5s y0 y1 y2
          go_wp2_with fail
          refine (WsWrite_calls true 9 A3 c3 ping none 0 [] _ (Kd.C_below HI3.out.1 H5.out.2.1) HI.out.2.2.2.2.2.1 HI.out.2.2.2.2.2.2.1 (by have := HL.out; omega) (Rd.empty _ _) (by decide)).mono ?_
          rintro e w6 ⟨v6, rfl, ho6, hb6⟩
          have hE6 : wrE ⟨true, 9, ping⟩ ([] : List Int).length = 0 := ping_wrE (by have := HL.out; have := HI.out; omega)
          rw [hE6]
          rw [if_pos hE6] at ho6
          obtain ⟨A6, k6, rfl, _, hr6⟩ := ho6.reads
          obtain ⟨L6, hL6⟩ : ∃ n, n = (wrL ⟨true, 9, ping⟩ []).length := ⟨_, rfl⟩
          have hL6s : L6 ≤ 200 := by rw [hL6]; exact Nat.le_trans (wrL_len0 _) (by show 4 + ping.length ≤ 200; have := HL.out; have := HI.out; omega)
          rw [← hL6] at hr6 ho6 ⊢
          have hlt6 : ∀ k, (Value.slice A6 L6 k6).ownBlock = some k → w5.heap.size ≤ k := fun k hk => ho6.ge k hk
          have H6 := Lib.hid (show Own w3 w6 v al ∧ Below w3.heap.size w3 w6 ∧ Rd w6 A5 L5 (wrL ⟨true, 2, p⟩ []) ∧ Rd w6 A6 L6 (wrL ⟨true, 9, ping⟩ []) ∧ L6 ≤ 200 ∧ Own w5 w6 (.slice A6 L6 k6) (wrL ⟨true, 9, ping⟩ []) from ⟨H5.out.1.below hb6, below_step H5.out.2.1 hb6, Kd.C_below H5.out.2.2.1 hb6, hr6, hL6s, ho6⟩)
          have hvlt := H5.out.1.lt
          have HAP := Lib.hid (show v.ownBlock ≠ (Value.slice A6 L6 k6).ownBlock ∨ v.ownBlock = none from by
            cases hv : v.ownBlock with
            | none => exact .inr rfl
            | some z => exact .inl (fun e => by have h1 := hlt6 z e.symm; have h2 := hvlt z hv; omega))
          clear hE6 ho6 hb6 hr6 hL6 hL6s hlt6 hvlt
          go_wp2_with (at_builtin; refine app_row H6.out.1 H6.out.2.2.1 H6.out.2.1 (by have := H5.out; have := HAL.out; omega) rfl rfl rfl rfl ?_)
          intro v7 w7 ho7 hb7 hg7 hat7
          have H7 := Lib.hid (show PrtAt w3 w7 v7 (al ++ wrL ⟨true, 2, p⟩ []) 2 ping P (k + 1) from ⟨ho7, hb7, HPS.out⟩)
          clear ho7 hb7 hg7 hat7
          go_wp2
          go_roundw
          case rel => exact ⟨k + 1, _, v7, rfl, by go_num, by have := HK.out; omega, H7⟩
          case measure => have := HK.out; simp [intOf]; omega
        · have ek : ((k : Int) == (N : Int)) = false := by rw [beq_eq_false_iff_ne]; omega
          have gk : decide (0 < (k : Int)) = false := decide_eq_false (by omega)
          have gk' : decide (0 < k) = false := decide_eq_false (by omega)
          have lk : decide ((k : Int) < (N : Int)) = true := decide_eq_true (by omega)
          have lk' : decide (k < N) = true := decide_eq_true (by omega)
          have HPS := Lib.hid (show partsB 2 ping true P = ((al ++ wrL ⟨false, 2, p⟩ []) ++ wrL ⟨true, 9, ping⟩ []) ++ partsB 2 ping (decide (k + 1 = 0)) (P.drop (k + 1)) from by rw [HR.out.2.2, hk0', hpk]; have h1 := parts_goes (op := 2) (ping := ping) (al := al) (p := p) (first := true) (R := p :: P.drop (k + 1)) (r := P.drop (k + 1)) rfl (by intro e; have h2 := congrArg List.length e; rw [List.length_drop] at h2; simp at h2; omega); rw [h1, show decide (k + 1 = 0) = false from decide_eq_false (by omega)]; rfl)
          clear hkn hk0 hkN
          obtain ⟨gf, hgf⟩ : ∃ x, x = wr.heap.size := ⟨_, rfl⟩
          obtain ⟨WF, hWF⟩ : ∃ W, W = wr.alloc (.cells #[.bool false, .int .i64 2, .slice Ai mi ci] 26) := ⟨_, rfl⟩
          have hbF : Below wr.heap.size wr WF := by rw [hWF]; exact below_alloc (Below.refl _ _) _
          have hkF : Whole WF gf 26 #[.bool false, .int .i64 2, .slice Ai mi ci] := by rw [hWF, hgf]; exact Whole.new wr _ _
          have HSF := Lib.hid (show gf = wr.heap.size ∧ WF = wr.alloc (.cells #[.bool false, .int .i64 2, .slice Ai mi ci] 26) from ⟨hgf, hWF⟩)
          have HF := Lib.hid (show Whole WF gf 26 #[.bool false, .int .i64 2, .slice Ai mi ci] ∧ Own w3 WF v al ∧ Below w3.heap.size w3 WF from ⟨hkF, HR.out.1.below hbF, below_step HR.out.2.1 hbF⟩)
          clear hgf hWF hbF hkF
          go_upto_region 12 with (fail)
          rw [← HSF.out.1, ← HSF.out.2]
          go_upto_region 14 with (fail)
          clear x0
          have y0 := HF.out.1.cell 0 _ rfl
          have y1 := HF.out.1.cell 1 _ rfl
          have y2 := HF.out.1.cell 2 _ rfl
          go_wp2_with fail
          refine (WsWrite_calls false 2 Ai ci p none 0 [] _ (Kd.C_below HP.out.1 HF.out.2.2) HP.out.2.1 HP.out.2.2.1 (by have := HP.out; omega) (Rd.empty _ _) (by decide)).mono ?_
          rintro e w5 ⟨v5, rfl, ho5, hb5⟩
          have hE5 : wrE ⟨false, 2, p⟩ ([] : List Int).length = 0 := part_wrE (fin := false) (first := true) (op := 2) (p := p) (.inr rfl) (by have := HP.out; omega)
          rw [hE5]
          rw [if_pos hE5] at ho5
          obtain ⟨A5, k5, rfl, _, hr5⟩ := ho5.reads
          obtain ⟨L5, hL5⟩ : ∃ n, n = (wrL ⟨false, 2, p⟩ []).length := ⟨_, rfl⟩
          have hL5s : L5 ≤ 20000 := by rw [hL5]; exact Nat.le_trans (wrL_len0 _) (by show 4 + p.length ≤ 20000; have := HP.out; omega)
          rw [← hL5] at hr5 ⊢
          have H5 := Lib.hid (show Own w3 w5 v al ∧ Below w3.heap.size w3 w5 ∧ Rd w5 A5 L5 (wrL ⟨false, 2, p⟩ []) ∧ L5 ≤ 20000 from ⟨HF.out.2.1.below hb5, below_step HF.out.2.2 hb5, hr5, hL5s⟩)
          clear hE5 ho5 hb5 hr5 hL5 hL5s y0 y1 y2
          go_wp2_with fail
          refine (WsWrite_calls true 9 A3 c3 ping none 0 [] _ (Kd.C_below HI3.out.1 H5.out.2.1) HI.out.2.2.2.2.2.1 HI.out.2.2.2.2.2.2.1 (by have := HL.out; omega) (Rd.empty _ _) (by decide)).mono ?_
          rintro e w6 ⟨v6, rfl, ho6, hb6⟩
          have hE6 : wrE ⟨true, 9, ping⟩ ([] : List Int).length = 0 := ping_wrE (by have := HL.out; have := HI.out; omega)
          rw [hE6]
          rw [if_pos hE6] at ho6
          obtain ⟨A6, k6, rfl, _, hr6⟩ := ho6.reads
          obtain ⟨L6, hL6⟩ : ∃ n, n = (wrL ⟨true, 9, ping⟩ []).length := ⟨_, rfl⟩
          have hL6s : L6 ≤ 200 := by rw [hL6]; exact Nat.le_trans (wrL_len0 _) (by show 4 + ping.length ≤ 200; have := HL.out; have := HI.out; omega)
          rw [← hL6] at hr6 ho6 ⊢
          have hlt6 : ∀ k, (Value.slice A6 L6 k6).ownBlock = some k → w5.heap.size ≤ k := fun k hk => ho6.ge k hk
          have H6 := Lib.hid (show Own w3 w6 v al ∧ Below w3.heap.size w3 w6 ∧ Rd w6 A5 L5 (wrL ⟨false, 2, p⟩ []) ∧ Rd w6 A6 L6 (wrL ⟨true, 9, ping⟩ []) ∧ L6 ≤ 200 ∧ Own w5 w6 (.slice A6 L6 k6) (wrL ⟨true, 9, ping⟩ []) from ⟨H5.out.1.below hb6, below_step H5.out.2.1 hb6, Kd.C_below H5.out.2.2.1 hb6, hr6, hL6s, ho6⟩)
          have hvlt := H5.out.1.lt
          have HAP := Lib.hid (show v.ownBlock ≠ (Value.slice A6 L6 k6).ownBlock ∨ v.ownBlock = none from by
            cases hv : v.ownBlock with
            | none => exact .inr rfl
            | some z => exact .inl (fun e => by have h1 := hlt6 z e.symm; have h2 := hvlt z hv; omega))
          clear hE6 ho6 hb6 hr6 hL6 hL6s hlt6 hvlt
          go_wp2_with (at_builtin; refine app_row H6.out.1 H6.out.2.2.1 H6.out.2.1 (by have := H5.out; have := HAL.out; omega) rfl rfl rfl rfl ?_)
          intro v7 w7 ho7 hb7 hg7 hat7
          have hr7 : Rd w7 A6 L6 (wrL ⟨true, 9, ping⟩ []) := by
            rcases HAP.out with h1 | h1
            · exact (Own.row (H6.out.2.2.2.2.2.stay hg7 h1))
            · rw [h1] at hg7
              exact Own.row (Kd.R_grown H6.out.2.2.2.2.2 hg7 (fun k _ => by simp))
          have H7 := Lib.hid (show Own w3 w7 v7 (al ++ wrL ⟨false, 2, p⟩ []) ∧ Below w3.heap.size w3 w7 ∧ Rd w7 A6 L6 (wrL ⟨true, 9, ping⟩ []) from ⟨ho7, hb7, hr7⟩)
          have hl7 : (al ++ wrL ⟨false, 2, p⟩ []).length ≤ 100000 := by rw [List.length_append]; have h1 := wrL_len0 ⟨false, 2, p⟩; have h2 : (⟨false, 2, p⟩ : Frm).load.length = p.length := rfl; have := HAL.out; have := HP.out; omega
          have HL7 := Lib.hid hl7
          clear ho7 hb7 hg7 hat7 hr7 hl7
          go_wp2_with (at_builtin; refine app_row H7.out.1 H7.out.2.2 H7.out.2.1 (by have := H6.out; have := HL7.out; omega) rfl rfl rfl rfl ?_)
          intro v8 w8 ho8 hb8 hg8 hat8
          have H8 := Lib.hid (show PrtAt w3 w8 v8 ((al ++ wrL ⟨false, 2, p⟩ []) ++ wrL ⟨true, 9, ping⟩ []) 2 ping P (k + 1) from ⟨by first | exact ho8 | (rw [List.append_assoc]; exact ho8), hb8, HPS.out⟩)
          clear ho8 hb8 hg8 hat8
          go_wp2
          go_roundw
          case rel => exact ⟨k + 1, _, v8, rfl, by go_num, by have := HK.out; omega, H8⟩
          case measure => have := HK.out; simp [intOf]; omega
      · have hk0' : decide (k = 0) = false := decide_eq_false hk0
        by_cases hkN : k = N
        · have ek : ((k : Int) == (N : Int)) = true := by rw [beq_iff_eq]; omega
          have gk : decide (0 < (k : Int)) = true := decide_eq_true (by omega)
          have gk' : decide (0 < k) = true := decide_eq_true (by omega)
          have lk : decide ((k : Int) < (N : Int)) = false := decide_eq_false (by omega)
          have lk' : decide (k < N) = false := decide_eq_false (by omega)
          have HPS := Lib.hid (show partsB 2 ping true P = (al ++ wrL ⟨true, 0, p⟩ []) ++ partsB 2 ping (decide (k + 1 = 0)) (P.drop (k + 1)) from by rw [HR.out.2.2, hk0', hpk]; have h1 := parts_last (op := 2) (ping := ping) (al := al) (p := p) (first := false) (b := decide (k + 1 = 0)) (R := p :: P.drop (k + 1)) (by rw [List.drop_of_length_le (by omega)]); rw [h1, List.drop_of_length_le (by omega : P.length ≤ k + 1)]; rfl)
          clear hkn hk0 hkN
          obtain ⟨gf, hgf⟩ : ∃ x, x = wr.heap.size := ⟨_, rfl⟩
          obtain ⟨WG, hWG⟩ : ∃ W, W = wr.alloc (.cells #[.bool true, .int .i64 2, .slice Ai mi ci] 26) := ⟨_, rfl⟩
          have hbG : Below wr.heap.size wr WG := by rw [hWG]; exact below_alloc (Below.refl _ _) _
          have hkG : Whole WG gf 26 #[.bool true, .int .i64 2, .slice Ai mi ci] := by rw [hWG, hgf]; exact Whole.new wr _ _
          have HSG := Lib.hid hWG
          have HG := Lib.hid (And.intro hkG hbG)
          obtain ⟨WF, hWF⟩ : ∃ W, W = WG.setCell ⟨gf, 1, none⟩ (.int .i64 0) := ⟨_, rfl⟩
          have hbF : Below wr.heap.size wr WF := by rw [hWF]; exact hbG.setCell (p := ⟨gf, 1, none⟩) (by rw [hgf]; exact Nat.le_refl _) _
          have hkF : Whole WF gf 26 #[.bool true, .int .i64 0, .slice Ai mi ci] := by rw [hWF]; exact hkG.set 1 _
          have HSF := Lib.hid (show gf = wr.heap.size ∧ WF = WG.setCell ⟨gf, 1, none⟩ (.int .i64 0) from ⟨hgf, hWF⟩)
          have HF := Lib.hid (show Whole WF gf 26 #[.bool true, .int .i64 0, .slice Ai mi ci] ∧ Own w3 WF v al ∧ Below w3.heap.size w3 WF from ⟨hkF, HR.out.1.below hbF, below_step HR.out.2.1 hbF⟩)
          clear hgf hWF hbF hkF hWG hbG hkG
          go_upto_region 12 with (fail)
          rw [← HSF.out.1, ← HSG.out]
          have f1 := HG.out.1.free 1
          have z1 := HG.out.1.cell 1 _ rfl
          go_upto_region 14 with (fail)
          rw [← HSF.out.2]
          clear f1 z1
          clear x0
          have y0 := HF.out.1.cell 0 _ rfl
          have y1 := HF.out.1.cell 1 _ rfl
          have y2 := HF.out.1.cell 2 _ rfl
          go_wp2_with fail
          refine (WsWrite_calls true 0 Ai ci p none 0 [] _ (Kd.C_below HP.out.1 HF.out.2.2) HP.out.2.1 HP.out.2.2.1 (by have := HP.out; omega) (Rd.empty _ _) (by decide)).mono ?_
          rintro e w5 ⟨v5, rfl, ho5, hb5⟩
          have hE5 : wrE ⟨true, 0, p⟩ ([] : List Int).length = 0 := part_wrE (fin := true) (first := false) (op := 2) (p := p) (.inr rfl) (by have := HP.out; omega)
          rw [hE5]
          rw [if_pos hE5] at ho5
          obtain ⟨A5, k5, rfl, _, hr5⟩ := ho5.reads
          obtain ⟨L5, hL5⟩ : ∃ n, n = (wrL ⟨true, 0, p⟩ []).length := ⟨_, rfl⟩
          have hL5s : L5 ≤ 20000 := by rw [hL5]; exact Nat.le_trans (wrL_len0 _) (by show 4 + p.length ≤ 20000; have := HP.out; omega)
          rw [← hL5] at hr5 ⊢
          have H5 := Lib.hid (show Own w3 w5 v al ∧ Below w3.heap.size w3 w5 ∧ Rd w5 A5 L5 (wrL ⟨true, 0, p⟩ []) ∧ L5 ≤ 20000 from ⟨HF.out.2.1.below hb5, below_step HF.out.2.2 hb5, hr5, hL5s⟩)
          clear hE5 ho5 hb5 hr5 hL5 hL5s y0 y1 y2
          go_wp2_with fail
          refine (WsWrite_calls true 9 A3 c3 ping none 0 [] _ (Kd.C_below HI3.out.1 H5.out.2.1) HI.out.2.2.2.2.2.1 HI.out.2.2.2.2.2.2.1 (by have := HL.out; omega) (Rd.empty _ _) (by decide)).mono ?_
          rintro e w6 ⟨v6, rfl, ho6, hb6⟩
          have hE6 : wrE ⟨true, 9, ping⟩ ([] : List Int).length = 0 := ping_wrE (by have := HL.out; have := HI.out; omega)
          rw [hE6]
          rw [if_pos hE6] at ho6
          obtain ⟨A6, k6, rfl, _, hr6⟩ := ho6.reads
          obtain ⟨L6, hL6⟩ : ∃ n, n = (wrL ⟨true, 9, ping⟩ []).length := ⟨_, rfl⟩
          have hL6s : L6 ≤ 200 := by rw [hL6]; exact Nat.le_trans (wrL_len0 _) (by show 4 + ping.length ≤ 200; have := HL.out; have := HI.out; omega)
          rw [← hL6] at hr6 ho6 ⊢
          have hlt6 : ∀ k, (Value.slice A6 L6 k6).ownBlock = some k → w5.heap.size ≤ k := fun k hk => ho6.ge k hk
          have H6 := Lib.hid (show Own w3 w6 v al ∧ Below w3.heap.size w3 w6 ∧ Rd w6 A5 L5 (wrL ⟨true, 0, p⟩ []) ∧ Rd w6 A6 L6 (wrL ⟨true, 9, ping⟩ []) ∧ L6 ≤ 200 ∧ Own w5 w6 (.slice A6 L6 k6) (wrL ⟨true, 9, ping⟩ []) from ⟨H5.out.1.below hb6, below_step H5.out.2.1 hb6, Kd.C_below H5.out.2.2.1 hb6, hr6, hL6s, ho6⟩)
          have hvlt := H5.out.1.lt
          have HAP := Lib.hid (show v.ownBlock ≠ (Value.slice A6 L6 k6).ownBlock ∨ v.ownBlock = none from by
            cases hv : v.ownBlock with
            | none => exact .inr rfl
            | some z => exact .inl (fun e => by have h1 := hlt6 z e.symm; have h2 := hvlt z hv; omega))
          clear hE6 ho6 hb6 hr6 hL6 hL6s hlt6 hvlt
          go_wp2_with (at_builtin; refine app_row H6.out.1 H6.out.2.2.1 H6.out.2.1 (by have := H5.out; have := HAL.out; omega) rfl rfl rfl rfl ?_)
          intro v7 w7 ho7 hb7 hg7 hat7
          have H7 := Lib.hid (show PrtAt w3 w7 v7 (al ++ wrL ⟨true, 0, p⟩ []) 2 ping P (k + 1) from ⟨ho7, hb7, HPS.out⟩)
          clear ho7 hb7 hg7 hat7
          go_wp2
          go_roundw
          case rel => exact ⟨k + 1, _, v7, rfl, by go_num, by have := HK.out; omega, H7⟩
          case measure => have := HK.out; simp [intOf]; omega
        · have ek : ((k : Int) == (N : Int)) = false := by rw [beq_eq_false_iff_ne]; omega
          have gk : decide (0 < (k : Int)) = true := decide_eq_true (by omega)
          have gk' : decide (0 < k) = true := decide_eq_true (by omega)
          have lk : decide ((k : Int) < (N : Int)) = true := decide_eq_true (by omega)
          have lk' : decide (k < N) = true := decide_eq_true (by omega)
          have HPS := Lib.hid (show partsB 2 ping true P = ((al ++ wrL ⟨false, 0, p⟩ []) ++ wrL ⟨true, 9, ping⟩ []) ++ partsB 2 ping (decide (k + 1 = 0)) (P.drop (k + 1)) from by rw [HR.out.2.2, hk0', hpk]; have h1 := parts_goes (op := 2) (ping := ping) (al := al) (p := p) (first := false) (R := p :: P.drop (k + 1)) (r := P.drop (k + 1)) rfl (by intro e; have h2 := congrArg List.length e; rw [List.length_drop] at h2; simp at h2; omega); rw [h1, show decide (k + 1 = 0) = false from decide_eq_false (by omega)]; rfl)
          clear hkn hk0 hkN
          obtain ⟨gf, hgf⟩ : ∃ x, x = wr.heap.size := ⟨_, rfl⟩
          obtain ⟨WG, hWG⟩ : ∃ W, W = wr.alloc (.cells #[.bool false, .int .i64 2, .slice Ai mi ci] 26) := ⟨_, rfl⟩
          have hbG : Below wr.heap.size wr WG := by rw [hWG]; exact below_alloc (Below.refl _ _) _
          have hkG : Whole WG gf 26 #[.bool false, .int .i64 2, .slice Ai mi ci] := by rw [hWG, hgf]; exact Whole.new wr _ _
          have HSG := Lib.hid hWG
          have HG := Lib.hid (And.intro hkG hbG)
          obtain ⟨WF, hWF⟩ : ∃ W, W = WG.setCell ⟨gf, 1, none⟩ (.int .i64 0) := ⟨_, rfl⟩
          have hbF : Below wr.heap.size wr WF := by rw [hWF]; exact hbG.setCell (p := ⟨gf, 1, none⟩) (by rw [hgf]; exact Nat.le_refl _) _
          have hkF : Whole WF gf 26 #[.bool false, .int .i64 0, .slice Ai mi ci] := by rw [hWF]; exact hkG.set 1 _
          have HSF := Lib.hid (show gf = wr.heap.size ∧ WF = WG.setCell ⟨gf, 1, none⟩ (.int .i64 0) from ⟨hgf, hWF⟩)
          have HF := Lib.hid (show Whole WF gf 26 #[.bool false, .int .i64 0, .slice Ai mi ci] ∧ Own w3 WF v al ∧ Below w3.heap.size w3 WF from ⟨hkF, HR.out.1.below hbF, below_step HR.out.2.1 hbF⟩)
          clear hgf hWF hbF hkF hWG hbG hkG
          go_upto_region 12 with (fail)
          rw [← HSF.out.1, ← HSG.out]
          have f1 := HG.out.1.free 1
          have z1 := HG.out.1.cell 1 _ rfl
          go_upto_region 14 with (fail)
          rw [← HSF.out.2]
          clear f1 z1
          clear x0
          have y0 := HF.out.1.cell 0 _ rfl
          have y1 := HF.out.1.cell 1 _ rfl
          have y2 := HF.out.1.cell 2 _ rfl
          go_wp2_with fail
          refine (WsWrite_calls false 0 Ai ci p none 0 [] _ (Kd.C_below HP.out.1 HF.out.2.2) HP.out.2.1 HP.out.2.2.1 (by have := HP.out; omega) (Rd.empty _ _) (by decide)).mono ?_
          rintro e w5 ⟨v5, rfl, ho5, hb5⟩
          have hE5 : wrE ⟨false, 0, p⟩ ([] : List Int).length = 0 := part_wrE (fin := false) (first := false) (op := 2) (p := p) (.inr rfl) (by have := HP.out; omega)
          rw [hE5]
          rw [if_pos hE5] at ho5
          obtain ⟨A5, k5, rfl, _, hr5⟩ := ho5.reads
          obtain ⟨L5, hL5⟩ : ∃ n, n = (wrL ⟨false, 0, p⟩ []).length := ⟨_, rfl⟩
          have hL5s : L5 ≤ 20000 := by rw [hL5]; exact Nat.le_trans (wrL_len0 _) (by show 4 + p.length ≤ 20000; have := HP.out; omega)
          rw [← hL5] at hr5 ⊢
          have H5 := Lib.hid (show Own w3 w5 v al ∧ Below w3.heap.size w3 w5 ∧ Rd w5 A5 L5 (wrL ⟨false, 0, p⟩ []) ∧ L5 ≤ 20000 from ⟨HF.out.2.1.below hb5, below_step HF.out.2.2 hb5, hr5, hL5s⟩)
          clear hE5 ho5 hb5 hr5 hL5 hL5s y0 y1 y2
          go_wp2_with fail
          refine (WsWrite_calls true 9 A3 c3 ping none 0 [] _ (Kd.C_below HI3.out.1 H5.out.2.1) HI.out.2.2.2.2.2.1 HI.out.2.2.2.2.2.2.1 (by have := HL.out; omega) (Rd.empty _ _) (by decide)).mono ?_
          rintro e w6 ⟨v6, rfl, ho6, hb6⟩
          have hE6 : wrE ⟨true, 9, ping⟩ ([] : List Int).length = 0 := ping_wrE (by have := HL.out; have := HI.out; omega)
          rw [hE6]
          rw [if_pos hE6] at ho6
          obtain ⟨A6, k6, rfl, _, hr6⟩ := ho6.reads
          obtain ⟨L6, hL6⟩ : ∃ n, n = (wrL ⟨true, 9, ping⟩ []).length := ⟨_, rfl⟩
          have hL6s : L6 ≤ 200 := by rw [hL6]; exact Nat.le_trans (wrL_len0 _) (by show 4 + ping.length ≤ 200; have := HL.out; have := HI.out; omega)
          rw [← hL6] at hr6 ho6 ⊢
          have hlt6 : ∀ k, (Value.slice A6 L6 k6).ownBlock = some k → w5.heap.size ≤ k := fun k hk => ho6.ge k hk
          have H6 := Lib.hid (show Own w3 w6 v al ∧ Below w3.heap.size w3 w6 ∧ Rd w6 A5 L5 (wrL ⟨false, 0, p⟩ []) ∧ Rd w6 A6 L6 (wrL ⟨true, 9, ping⟩ []) ∧ L6 ≤ 200 ∧ Own w5 w6 (.slice A6 L6 k6) (wrL ⟨true, 9, ping⟩ []) from ⟨H5.out.1.below hb6, below_step H5.out.2.1 hb6, Kd.C_below H5.out.2.2.1 hb6, hr6, hL6s, ho6⟩)
          have hvlt := H5.out.1.lt
          have HAP := Lib.hid (show v.ownBlock ≠ (Value.slice A6 L6 k6).ownBlock ∨ v.ownBlock = none from by
            cases hv : v.ownBlock with
            | none => exact .inr rfl
            | some z => exact .inl (fun e => by have h1 := hlt6 z e.symm; have h2 := hvlt z hv; omega))
          clear hE6 ho6 hb6 hr6 hL6 hL6s hlt6 hvlt
          go_wp2_with (at_builtin; refine app_row H6.out.1 H6.out.2.2.1 H6.out.2.1 (by have := H5.out; have := HAL.out; omega) rfl rfl rfl rfl ?_)
          intro v7 w7 ho7 hb7 hg7 hat7
          have hr7 : Rd w7 A6 L6 (wrL ⟨true, 9, ping⟩ []) := by
            rcases HAP.out with h1 | h1
            · exact (Own.row (H6.out.2.2.2.2.2.stay hg7 h1))
            · rw [h1] at hg7
              exact Own.row (Kd.R_grown H6.out.2.2.2.2.2 hg7 (fun k _ => by simp))
          have H7 := Lib.hid (show Own w3 w7 v7 (al ++ wrL ⟨false, 0, p⟩ []) ∧ Below w3.heap.size w3 w7 ∧ Rd w7 A6 L6 (wrL ⟨true, 9, ping⟩ []) from ⟨ho7, hb7, hr7⟩)
          have hl7 : (al ++ wrL ⟨false, 0, p⟩ []).length ≤ 100000 := by rw [List.length_append]; have h1 := wrL_len0 ⟨false, 0, p⟩; have h2 : (⟨false, 0, p⟩ : Frm).load.length = p.length := rfl; have := HAL.out; have := HP.out; omega
          have HL7 := Lib.hid hl7
          clear ho7 hb7 hg7 hat7 hr7 hl7
          go_wp2_with (at_builtin; refine app_row H7.out.1 H7.out.2.2 H7.out.2.1 (by have := H6.out; have := HL7.out; omega) rfl rfl rfl rfl ?_)
          intro v8 w8 ho8 hb8 hg8 hat8
          have H8 := Lib.hid (show PrtAt w3 w8 v8 ((al ++ wrL ⟨false, 0, p⟩ []) ++ wrL ⟨true, 9, ping⟩ []) 2 ping P (k + 1) from ⟨by first | exact ho8 | (rw [List.append_assoc]; exact ho8), hb8, HPS.out⟩)
          clear ho8 hb8 hg8 hat8
          go_wp2
          go_roundw
          case rel => exact ⟨k + 1, _, v8, rfl, by go_num, by have := HK.out; omega, H8⟩
          case measure => have := HK.out; simp [intOf]; omega
    · obtain rfl : k = N + 1 := by omega
      have dkn : decide ((N : Int) + 1 < (N : Int) + 1) = false := decide_eq_false (by omega)
      have dkn' : decide (N + 1 < N + 1) = false := decide_eq_false (by omega)
      have HT := Lib.hid (show partsB 2 ping true P = al from by
        have h := HR.out.2.2
        rw [List.drop_of_length_le (by have := H3.out; omega)] at h
        exact h.trans (List.append_nil al))
      obtain ⟨Aa, ca, rfl, hca, hra⟩ := HR.out.1.reads
      obtain ⟨La, hLa⟩ : ∃ n, n = al.length := ⟨_, rfl⟩
      rw [← hLa] at hca hra ⊢
      obtain ⟨g5, hg5⟩ : ∃ g, g = wr.heap.size := ⟨_, rfl⟩
      obtain ⟨W5, hW5⟩ : ∃ W, W = wr.alloc (.cells #[.slice Aa La ca] 22) := ⟨_, rfl⟩
      have hb5 : Below wr.heap.size wr W5 := by rw [hW5]; exact below_alloc (Below.refl _ _) _
      have hk5 : Whole W5 g5 22 #[.slice Aa La ca] := by rw [hW5, hg5]; exact Whole.new wr _ _
      have HS5 := Lib.hid (show g5 = wr.heap.size ∧ W5 = wr.alloc (.cells #[.slice Aa La ca] 22) from ⟨hg5, hW5⟩)
      have H5 := Lib.hid (show Below w3.heap.size w3 W5 ∧ RdL W5 (some ⟨g5, 0, none⟩) 1 [al] ∧ La = al.length from ⟨below_step HR.out.2.1 hb5, RdL.one (hk5.cell 0 _ rfl) (Kd.C_below hra hb5) hca, hLa⟩)
      have hEV := told_all (op := 2) (ping := ping) (l := l) (P := P) (N := N) (.inr rfl) HI.out.2.2.2.2.2.2.1 (by have := HL.out; have := HI.out; omega) H3.out.2.2.2.2.1 H3.out.2.1 H3.out.2.2.1 (by have := HL.out; have := HI.out; omega) (fun h => by first | (have := HCH.out h; omega) | (have := HCH.out trivial; omega))
      rw [HT.out] at hEV
      have HEV := Lib.hid hEV
      have hby := partsB_Bytes (op := 2) (ping := ping) (.inr rfl) HI.out.2.2.2.2.2.2.1 (by have := HL.out; have := HI.out; omega) true P H3.out.2.2.1 (fun x hx => by have := flat_mem hx; rw [H3.out.2.1] at this; have := HL.out; have := HI.out; omega)
      rw [HT.out] at hby
      have HBY := Lib.hid hby
      clear hg5 hW5 hb5 hk5 hEV hby hca hra hLa hk
      go_upto_region 22 with (fail)
      go_wp2_with fail
      rw [← HS5.out.1, ← HS5.out.2]
      refine (events_calls false _ _ [al] _ H5.out.2.1 (fun x hx => by rw [List.mem_singleton.1 hx]; exact HBY.out) (by rw [List.flatten_singleton]; have := HAL.out; omega)).mono ?_
      rintro e w6 ⟨A6, n6, c6, rfl, hr6, hc6, hb6⟩
      rw [HEV.out] at hr6
      have hn6 : n6 = N + 1 := (Kd.C_len hr6).symm.trans (toldL_len _ _ _ _)
      subst hn6
      have H6 := Lib.hid (show RdE w6 A6 (N + 1) (toldL 2 ping l N) ∧ Below w3.heap.size w3 w6 ∧ N + 1 ≤ c6 from ⟨hr6, below_step H5.out.1 hb6, hc6⟩)
      clear hr6 hb6 hc6
      obtain ⟨ad, Ai, ci, rfl, x0, x1, x2, x3, hci, hrd⟩ := RdE.at H6.out.1 N (by omega)
      rw [toldL_end] at x0 x1 x2 x3 hci hrd
      dsimp only at x0 x1 x2 x3 hci hrd
      rw [HI.out.2.2.2.2.2.2.2.1] at x2 hci hrd
      have i0 : (0 : Int) ≤ (N : Int) := by omega
      have i1 : (N : Int) < (N : Int) + 1 := by omega
      have i2 : N < N + 1 := by omega
      have ne1 : (((N : Int) + 1) != ((N : Int) + 1)) = false := by simp
      have H7 := Lib.hid hrd
      clear hrd hci
      go_wp2_with fail
      refine (SameEvent_true 2 0 Ai ci l A c false _ H7.out (Kd.C_below HI3.out.2 H6.out.2.1)).mono ?_
      rintro e w7 ⟨rfl, hb7⟩
      have H8 := Lib.hid (show RdE w7 (some ad) (N + 1) (toldL 2 ping l N) ∧ Below w3.heap.size w3 w7 ∧ N + 1 ≤ c6 from ⟨Kd.C_below H6.out.1 hb7, below_step H6.out.2.1 hb7, H6.out.2.2⟩)
      clear hb7 x0 x1 x2 x3
      have c6a : (N : Int) ≤ c6 := by have := H8.out; omega
      have c6b : N ≤ c6 := by have := H8.out; omega
      go_wp2
      go_loopw [122] (fun i wq => ∃ k : Nat, i = .int .i64 k ∧ k ≤ N ∧ Hid (Below w7.heap.size w7 wq)) (fun i _ => N - (intOf i).toNat)
      case atStart => exact ⟨0, rfl, by omega, Lib.hid (Below.refl _ _)⟩
      case round =>
        obtain ⟨k, rfl, hk, HD⟩ := hrel
        by_cases hkn : k < N
        · have dkn : decide ((k : Int) < (N : Int)) = true := decide_eq_true (by omega)
          have dkn' : decide (k < N) = true := decide_eq_true hkn
          have wk : IntKind.i64.wrap ((k : Int) + 1) = k + 1 := wrap_id (by omega) (by omega)
          have ikn : (k : Int) < (N : Int) := by omega
          have k0 : (0 : Int) ≤ k := by omega
          obtain ⟨ad2, Bi, di, ead, y0, y1, y2, y3, hdi, hsd⟩ := RdE.at (Kd.C_below H8.out.1 HD.out) k (by omega)
          obtain rfl := Option.some.inj ead
          rw [toldL_at _ _ _ _ _ hkn] at y0 y1 y2 y3 hdi hsd
          dsimp only [pingE] at y0 y1 y2 y3 hdi hsd
          rw [HI.out.2.2.2.2.2.2.2.2] at y2 hdi hsd
          obtain ⟨g8, hg8⟩ : ∃ g, g = wr.heap.size := ⟨_, rfl⟩
          obtain ⟨W8, hW8⟩ : ∃ W, W = wr.alloc (.cells #[.int .i64 9, .int .i64 0, .slice Bi np di, .bool false] 51) := ⟨_, rfl⟩
          have hb8 : Below wr.heap.size wr W8 := by rw [hW8]; exact below_alloc (Below.refl _ _) _
          have hw8 : Whole W8 g8 51 #[.int .i64 9, .int .i64 0, .slice Bi np di, .bool false] := by rw [hW8, hg8]; exact Whole.new wr _ _
          have HS8 := Lib.hid (show g8 = wr.heap.size ∧ W8 = wr.alloc _ from ⟨hg8, hW8⟩)
          have HK := Lib.hid (show Whole W8 g8 51 #[.int .i64 9, .int .i64 0, .slice Bi np di, .bool false] ∧ Rd W8 Bi np ping ∧ Below w7.heap.size w7 W8 ∧ k < N from ⟨hw8, Kd.C_below hsd hb8, below_step HD.out hb8, hkn⟩)
          clear hg8 hW8 hb8 hw8 hsd hdi hkn hk
          go_upto_region 28 with (fail)
          rw [← HS8.out.1, ← HS8.out.2]
          clear y0 y1 y2 y3
          have u0 := HK.out.1.cell 0 _ rfl
          have u1 := HK.out.1.cell 1 _ rfl
          have u2 := HK.out.1.cell 2 _ rfl
          have u3 := HK.out.1.cell 3 _ rfl
          go_wp2_with fail
          refine (SameEvent_true 9 0 Bi di ping A3 c3 false _ HK.out.2.1 (Kd.C_below HI3.out.1 (below_step H8.out.2.1 HK.out.2.2.1))).mono ?_
          rintro e w9 ⟨rfl, hb9⟩
          have HB9 := Lib.hid (below_step HK.out.2.2.1 hb9)
          clear hb9 u0 u1 u2 u3
          go_wp2
          go_roundw
          case rel => exact ⟨k + 1, by go_num, by have := HK.out; omega, HB9⟩
          case measure => have := HK.out; simp [intOf]; omega
        · obtain rfl : k = N := by omega
          have dkn : decide ((k : Int) < (k : Int)) = false := decide_eq_false (by omega)
          have dkn' : decide (k < k) = false := decide_eq_false (by omega)
          have HBX := Lib.hid (below_step H3.out.2.2.2.2.2 (below_step H8.out.2.1 HD.out))
          go_wp2_with fail
          refine (wsAwake_calls _).mono ?_
          rintro e wz ⟨rfl, hbz⟩
          have HBZ := Lib.hid (below_step HBX.out hbz)
          clear hbz
          go_wp2
          go_ret
          exact ⟨rfl, HBZ.out⟩
end Go.Proofs.YtcfbfmgckaehdaaDoor
