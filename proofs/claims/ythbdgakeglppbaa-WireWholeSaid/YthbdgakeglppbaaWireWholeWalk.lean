/- WireWhole: the walk of the law. -/
import Derived.Test.YthbdgakeglppbaaFramesAll
import Derived.Test.YthbdgakeglppbaaRowsOpen
import Derived.Test.YthbdgakeglppbaaWholeLaw
import Derived.Test.YthbdgakeglppbaaIntRow
import Derived.Test.YthbdgakeglppbaaInts
import Derived.Test.YthbdgakeglppbaaSumRef
namespace Go.Proofs.Ythbdgakeglppbaa
open Go.RowKit Go.Proofs.YthbdgakeglppbaaW.PrintWords
theorem Frame_big {n : Nat} (A0 : Option Addr) (c0 : Nat) (w : World) (hbig : 65536 < n) :
    Calls Try.prog 28 #[.slice A0 n c0] w fun e w' => e = .returned (.tuple #[.slice none 0 0, .int .i64 4]) ∧ Below w.heap.size w w' := by
  have hd : decide (65536 < n) = true := decide_eq_true (by omega)
  go_enter Try.func28, Try.ntmps28
  go_wp2
  go_ret2
  exact ⟨rfl, Below.refl _ _⟩
theorem ne_ui : ∀ q, q ∈ 5 :: (Kd.int .u8).E → q ≠ 3 := by intro q hq; simp [Kd.int, Kd.scalar] at hq; subst hq; decide
theorem ne_iu : ∀ q, q ∈ 3 :: (Kd.int .i64).E → q ≠ 5 := by intro q hq; simp [Kd.int, Kd.scalar] at hq; subst hq; decide
set_option maxRecDepth 20000 in
set_option maxHeartbeats 4000000 in
theorem WireWhole_main (A0 : Option Addr) (n c0 : Nat) (ls : List (List Int)) (x : Int) (w : World) (hr0 : RdL w A0 n ls) (hc0 : n ≤ c0) (hb0 : ∀ p ∈ ls, Bytes p) (hl0 : n ≤ 50) :
    Calls Try.prog 10 #[.slice A0 n c0, .int .i64 x] w fun e w' => e = .returned (.bool true) ∧ Below w.heap.size w w' := by
  have hd : decide (50 < n) = false := decide_eq_false (by omega)
  have HR := Lib.hid hr0
  have HY := Lib.hid hb0
  have HL := Lib.hid (Kd.C_len hr0)
  clear hr0 hb0
  go_enter Try.func10, Try.ntmps10
  go_wp2
  go_loopw [5, 6, 21] (fun vb ve i wr => ∃ (q : Nat) (B E : List Int), q ≤ n ∧ i = .int .i64 q ∧ Hid (Own w wr vb B) ∧ Hid (OwnI w wr ve E) ∧ Hid (Below w.heap.size w wr) ∧ Hid (B = flat (ls.take q)) ∧ Hid (E = endsOf ls q) ∧ Hid (∀ p ∈ ls.take q, Bytes p ∧ p.length ≤ 65536) ∧ B.length ≤ 131080) (fun _ _ i _ => n - (intOf i).toNat)
  case atStart => exact ⟨0, [], [], by omega, rfl, Lib.hid (Own.nil w w), Lib.hid (OwnI.nil w w), Lib.hid (Below.refl _ _), Lib.hid rfl, Lib.hid rfl, Lib.hid (by simp), by simp⟩
  case round =>
    obtain ⟨q, B, E, hq, rfl, HOB, HOE, HB, HBE, HEE, HSM, hBl⟩ := hrel
    obtain ⟨Ab, cb, rfl, hcb, hrdb⟩ := HOB.out.reads
    have HRB := Lib.hid hrdb
    obtain ⟨bl, hbl⟩ : ∃ bl, bl = B.length := ⟨_, rfl⟩
    rw [← hbl] at hcb hBl HRB HOB ⊢
    have HBL := Lib.hid hbl.symm
    clear hrdb hbl
    by_cases hqn : q < n
    · have dqn : decide ((q : Int) < n) = true := decide_eq_true (by omega)
      obtain ⟨ad0, Ai, ci, rfl, h0, hle0, hrd0⟩ := RdL.at HR.out q hqn
      have h0' := pw_cell_below HB.out h0
      obtain ⟨p, hp⟩ : ∃ p, p = ls.getD q [] := ⟨_, rfl⟩
      rw [← hp] at h0' hle0 hrd0
      have HYP := Lib.hid (show Bytes p by
        rw [hp, List.getD_eq_getElem?_getD, List.getElem?_eq_getElem (by rw [HL.out]; exact hqn)]
        exact HY.out _ (List.getElem_mem _))
      have HP0 := Lib.hid (Kd.C_below hrd0 HB.out)
      have HPE := Lib.hid hp
      obtain ⟨pl, hpl⟩ : ∃ pl, pl = p.length := ⟨_, rfl⟩
      rw [← hpl] at h0' hle0 HP0
      have HPL := Lib.hid hpl.symm
      clear hrd0 h0 hp hpl
      by_cases hbig : 65536 < pl
      · have d1 : decide (65536 < pl) = true := decide_eq_true hbig
        go_wp2_with fail
        refine (Frame_big Ai ci _ hbig).mono ?_
        rintro e w1 ⟨rfl, hb1⟩
        have HB1 := Lib.hid (below_step HB.out hb1)
        clear hb1
        go_wp2
        go_ret
        exact ⟨rfl, HB1.out⟩
      · have d1 : decide (65536 < pl) = false := decide_eq_false hbig
        have HFL := Lib.hid (show (frameOf p).length = pl + 7 by rw [frame_length, HPL.out])
        obtain ⟨f, hf⟩ : ∃ f, f = frameOf p := ⟨_, rfl⟩
        rw [← hf] at HFL
        have HF := Lib.hid hf
        clear hf
        go_wp2_with fail
        refine (Frame_ok Ai ci p _ HP0.out (by omega)).mono ?_
        rw [← HF.out]
        rintro e w1 ⟨v1, rfl, ho1, hb1⟩
        obtain ⟨A1, c1, rfl, hc1, hrd1⟩ := ho1.reads
        rw [HFL.out] at hc1 hrd1 ⊢
        have HB1 := Lib.hid (below_step HB.out hb1)
        have HR1 := Lib.hid hrd1
        have HOB1 := Lib.hid (HOB.out.below hb1)
        have HOE1 := Lib.hid (HOE.out.below hb1)
        clear ho1 hb1 hrd1 HOB HOE HRB h0'
        by_cases hbb : 65536 < bl
        · have d2 : decide (65536 < bl) = true := decide_eq_true hbb
          go_wp2
          go_ret
          exact ⟨rfl, HB1.out⟩
        · have d2 : decide (65536 < bl) = false := decide_eq_false hbb
          have hapl : B.length + (pl + 7) ≤ 140737488355328 := by rw [HBL.out]; omega
          have hEl : E.length + 1 ≤ 17592186044416 := by rw [HEE.out, endsOf_length]; omega
          have HB2e := Lib.hid (show B ++ f = flat (ls.take (q + 1)) by rw [flat_take ls q (by rw [HL.out]; exact hqn), HBE.out, HF.out, HPE.out])
          have HB2l := Lib.hid (show (B ++ f).length = bl + pl + 7 by rw [List.length_append, HBL.out, HFL.out]; omega)
          have HSM2 := Lib.hid (show ∀ y ∈ ls.take (q + 1), Bytes y ∧ y.length ≤ 65536 by
            intro y hy
            rw [List.take_succ_eq_append_getElem (by rw [HL.out]; exact hqn)] at hy
            rcases List.mem_append.1 hy with hy | hy
            · exact HSM.out y hy
            · have e : y = p := by rw [HPE.out, List.getD_eq_getElem?_getD, List.getElem?_eq_getElem (by rw [HL.out]; exact hqn)]; simpa using hy
              rw [e]
              exact ⟨HYP.out, by rw [HPL.out]; omega⟩)
          obtain ⟨B2, hB2⟩ : ∃ B2, B2 = B ++ f := ⟨_, rfl⟩
          rw [← hB2] at HB2e HB2l
          have HBB := Lib.hid hB2
          clear hB2
          go_wp2_with (at_builtin; refine app_row HOB1.out HR1.out HB1.out hapl rfl rfl rfl rfl ?_)
          intro v3 w3 ho3 hb3 hg3 _
          have HOE3 := Lib.hid (show OwnI w w3 _ E from Kd.R_over HOE1.out HOB1.out ne_iu hg3)
          have HO3 := Lib.hid (ho3.cast (show _ = B2 from HBB.out.symm))
          have HB3 := Lib.hid hb3
          clear ho3 hb3 hg3 HOE1 HOB1 HB1 HR1
          obtain ⟨A3, c3, rfl, _, _⟩ := HO3.out.reads
          rw [HB2l.out] at HO3 ⊢
          go_wp2_with (at_builtin; refine appi_one HOE3.out HB3.out hEl rfl rfl rfl rfl ?_)
          intro v4 w4 ho4 hb4 hg4 _
          have HO4 := Lib.hid (show Own w w4 (.slice A3 (bl + pl + 7) c3) B2 from Kd.R_over HO3.out HOE3.out ne_ui hg4)
          have HE4 := Lib.hid ho4
          have HB4 := Lib.hid hb4
          have HEE4 := Lib.hid (show E ++ [((bl + pl + 7 : Nat) : Int)] = endsOf ls (q + 1) by rw [endsOf_succ, HEE.out, ← HB2e.out, HB2l.out])
          clear ho4 hb4 hg4 HOE3 HO3 HB3
          go_wp2
          go_roundw
          case rel => exact ⟨q + 1, B2, _, by omega, by go_num, HO4, HE4, HB4, HB2e, Lib.hid (by first | exact HEE4.out | (rw [← HEE4.out]; simp)), HSM2, by rw [HB2l.out]; omega⟩
          case measure => simp [intOf]; omega
    · obtain rfl : q = n := by omega
      have dqn : decide ((q : Int) < q) = false := decide_eq_false (by omega)
      have hKr := u64_wrap_range x
      obtain ⟨K, hK⟩ : ∃ K : Nat, (IntKind.u64.wrap x).tmod ((bl : Int) + 1) = K := by
        have h1 := Int.emod_nonneg (IntKind.u64.wrap x) (show (bl : Int) + 1 ≠ 0 by omega)
        exact ⟨((IntKind.u64.wrap x) % ((bl : Int) + 1)).toNat, by rw [Int.tmod_eq_emod_of_nonneg hKr.1]; omega⟩
      have hKb : K ≤ bl := by
        rw [Int.tmod_eq_emod_of_nonneg hKr.1] at hK
        have h1 := Int.emod_lt_of_pos (IntKind.u64.wrap x) (show (0 : Int) < (bl : Int) + 1 by omega)
        omega
      have hu1 : IntKind.u64.wrap ((bl : Int) + 1) = (bl : Int) + 1 := u64_id (by omega) (by omega)
      have hw1 : IntKind.i64.wrap ((bl : Int) + 1) = (bl : Int) + 1 := wrap_id (by omega) (by omega)
      have hw2 : IntKind.i64.wrap (K : Int) = K := wrap_id (by omega) (by omega)
      have hu2 : ((bl : Int) + 1 == 0) = false := beq_eq_false_iff_ne.2 (by omega)
      have HTK := Lib.hid (show ls.take q = ls from List.take_of_length_le (by rw [HL.out]; exact Nat.le_refl _))
      rw [HTK.out] at HBE HSM
      obtain ⟨Ae, ce, rfl, hce, hrde⟩ := HOE.out.reads
      have hEl : E.length = q := by rw [HEE.out, endsOf_length]
      rw [hEl] at hce hrde ⊢
      have HRE := Lib.hid hrde
      clear hKr hEl hrde HOB HOE
      go_wp2
      go_loopw [11] (fun v wr' => wr = wr' ∧ ∃ j : Nat, j ≤ q ∧ v = .int .i64 j ∧ Hid (∀ i, i < j → (flat (ls.take (i + 1))).length ≤ K)) (fun v _ => q - (intOf v).toNat)
      case atStart => exact ⟨by first | rfl | trivial, 0, by omega, rfl, Lib.hid (fun i hi => absurd hi (by omega))⟩
      case round =>
        obtain ⟨rfl, j, hj, rfl, HLT⟩ := hrel
        by_cases hjq : j < q
        · have dj : decide ((j : Int) < q) = true := decide_eq_true (by omega)
          have dj' : decide (j < q) = true := decide_eq_true hjq
          obtain ⟨ade, rfl, hce'⟩ := RdI.cells HRE.out (by omega)
          have hx := hce' j hjq
          obtain ⟨m, hm⟩ : ∃ m, m = (flat (ls.take (j + 1))).length := ⟨_, rfl⟩
          rw [HEE.out, endsOf_rd ls q j hjq, ← hm] at hx
          by_cases hmk : m ≤ K
          · have dm : decide ((m : Int) ≤ K) = true := decide_eq_true (by omega)
            have dm' : decide (m ≤ K) = true := decide_eq_true hmk
            have HLT2 := Lib.hid (show ∀ i, i < j + 1 → (flat (ls.take (i + 1))).length ≤ K by
              intro i hi
              rcases Nat.lt_or_ge i j with h | h
              · exact HLT.out i h
              · rw [show i = j by omega, ← hm]
                exact hmk)
            clear hm hce'
            go_wp2
            go_roundw
            case rel => exact ⟨by first | rfl | trivial, j + 1, by omega, by go_num, HLT2⟩
            case measure => simp [intOf]; omega
          · have dm : decide ((m : Int) ≤ K) = false := decide_eq_false (by omega)
            have dm' : decide (m ≤ K) = false := decide_eq_false hmk
            have HGT := Lib.hid (show j < q → K < (flat (ls.take (j + 1))).length from fun _ => by rw [← hm]; omega)
            clear hm hce'
            have HFR := Lib.hid (show frames (B.take K) = (ls.take j, (flat (ls.take j)).length) by
              rw [HBE.out]
              exact frames_count_is ls K j HSM.out (by rw [← HBE.out, HBL.out]; exact hKb) (by rw [HL.out]; exact hj) HLT.out (by rw [HL.out]; exact HGT.out))
            have HTR := Lib.hid (Rd.take HRB.out K hKb)
            have HYB := Lib.hid (show Bytes (B.take K) by rw [HBE.out]; exact (flat_Bytes ls HY.out).tk K)
            obtain ⟨T, hT⟩ : ∃ T, T = (flat (ls.take j)).length := ⟨_, rfl⟩
            rw [← hT] at HFR
            have HT := Lib.hid hT
            have f1 : (K : Int) ≤ cb := by omega
            have f2 : K ≤ cb := by omega
            have f3 : K ≤ 1099511627776 := by omega
            clear hT
            go_wp2_with fail
            refine (Frames_calls Ab cb (B.take K) _ HTR.out f2 HYB.out f3).mono ?_
            rw [HFR.out]
            rintro e w5 ⟨v5, rfl, ho5, hb5⟩
            obtain ⟨A5, c5, rfl, hc5, hrd5⟩ := ho5.reads
            have hlj : (ls.take j).length = j := by rw [List.length_take, HL.out]; omega
            rw [hlj] at hc5 hrd5 ⊢
            have HR5 := Lib.hid hrd5
            have HB5 := Lib.hid (below_step HB.out hb5)
            have HRE5 := Lib.hid (show RdI w5 _ q E from Kd.C_below HRE.out hb5)
            have HRL := Lib.hid (show RdL w5 A0 j (ls.take j) by
              have h1 := HR.out
              rw [← HL.out] at h1
              have h2 := Kd.C_take h1 (show j ≤ ls.length by rw [HL.out]; exact hj)
              rw [hlj] at h2
              exact Kd.C_below h2 HB5.out)
            have HYL := Lib.hid (show ∀ p ∈ ls.take j, Bytes p from fun p hp => HY.out p (List.mem_of_mem_take hp))
            have f4 : (j : Int) ≤ c0 := by omega
            clear ho5 hb5 hrd5 hlj HTR HYB
            go_wp2_with fail
            refine (EqualFunc_true A5 c5 A0 c0 (ls.take j) _ HR5.out HRL.out HYL.out (by omega)).mono ?_
            rintro e w6 ⟨rfl, hd6⟩
            have HB6 := Lib.hid (below_step HB5.out hd6.below)
            have HRE6 := Lib.hid (Kd.C_below HRE5.out hd6.below)
            clear hd6 HR5 HRL HYL HRE5 HB5
            rcases Nat.eq_zero_or_pos j with hj0 | hj0
            · subst hj0
              obtain rfl : T = 0 := by rw [HT.out]; rfl
              go_wp2
              go_ret
              exact ⟨rfl, HB6.out⟩
            · obtain ⟨ade2, e2, hce2⟩ := RdI.cells HRE6.out (by omega)
              cases e2
              have hxt := hce2 (j - 1) (by omega)
              rw [HEE.out, endsOf_rd ls q (j - 1) (by omega), show j - 1 + 1 = j by omega, ← HT.out] at hxt
              have g1 : IntKind.i64.wrap ((j : Int) - 1) = j - 1 := by rw [IntKind.wrap_i64]; omega
              have g2 : (0 : Int) ≤ (j : Int) - 1 := by omega
              have g3 : (j : Int) - 1 < q := by omega
              have g4 : ((j : Int) - 1).toNat = j - 1 := by omega
              have g5 : ((j : Int) == 0) = false := beq_eq_false_iff_ne.2 (by omega)
              have g6 : decide (0 < j) = true := decide_eq_true hj0
              have g7 : (j == 0) = false := beq_eq_false_iff_ne.2 (by omega)
              clear hce2
              go_wp2
              go_ret
              exact ⟨rfl, HB6.out⟩
        · obtain rfl : j = q := by omega
          have dj : decide ((j : Int) < j) = false := decide_eq_false (by omega)
          have HGT := Lib.hid (show j < j → K < (flat (ls.take (j + 1))).length from fun h => absurd h (by omega))
          have HFR := Lib.hid (show frames (B.take K) = (ls.take j, (flat (ls.take j)).length) by
            rw [HBE.out]
            exact frames_count_is ls K j HSM.out (by rw [← HBE.out, HBL.out]; exact hKb) (by rw [HL.out]; exact hj) HLT.out (by rw [HL.out]; exact HGT.out))
          have HTR := Lib.hid (Rd.take HRB.out K hKb)
          have HYB := Lib.hid (show Bytes (B.take K) by rw [HBE.out]; exact (flat_Bytes ls HY.out).tk K)
          obtain ⟨T, hT⟩ : ∃ T, T = (flat (ls.take j)).length := ⟨_, rfl⟩
          rw [← hT] at HFR
          have HT := Lib.hid hT
          have f1 : (K : Int) ≤ cb := by omega
          have f2 : K ≤ cb := by omega
          have f3 : K ≤ 1099511627776 := by omega
          clear hT
          go_wp2_with fail
          refine (Frames_calls Ab cb (B.take K) _ HTR.out f2 HYB.out f3).mono ?_
          rw [HFR.out]
          rintro e w5 ⟨v5, rfl, ho5, hb5⟩
          obtain ⟨A5, c5, rfl, hc5, hrd5⟩ := ho5.reads
          have hlj : (ls.take j).length = j := by rw [List.length_take, HL.out]; omega
          rw [hlj] at hc5 hrd5 ⊢
          have HR5 := Lib.hid hrd5
          have HB5 := Lib.hid (below_step HB.out hb5)
          have HRE5 := Lib.hid (show RdI w5 _ j E from Kd.C_below HRE.out hb5)
          have HRL := Lib.hid (show RdL w5 A0 j (ls.take j) by
            have h1 := HR.out
            rw [← HL.out] at h1
            have h2 := Kd.C_take h1 (show j ≤ ls.length by rw [HL.out]; exact hj)
            rw [hlj] at h2
            exact Kd.C_below h2 HB5.out)
          have HYL := Lib.hid (show ∀ p ∈ ls.take j, Bytes p from fun p hp => HY.out p (List.mem_of_mem_take hp))
          have f4 : (j : Int) ≤ c0 := by omega
          clear ho5 hb5 hrd5 hlj HTR HYB
          go_wp2_with fail
          refine (EqualFunc_true A5 c5 A0 c0 (ls.take j) _ HR5.out HRL.out HYL.out (by omega)).mono ?_
          rintro e w6 ⟨rfl, hd6⟩
          have HB6 := Lib.hid (below_step HB5.out hd6.below)
          have HRE6 := Lib.hid (Kd.C_below HRE5.out hd6.below)
          clear hd6 HR5 HRL HYL HRE5 HB5
          rcases Nat.eq_zero_or_pos j with hj0 | hj0
          · subst hj0
            obtain rfl : T = 0 := by rw [HT.out]; rfl
            go_wp2
            go_ret
            exact ⟨rfl, HB6.out⟩
          · obtain ⟨ade2, e2, hce2⟩ := RdI.cells HRE6.out (by omega)
            cases e2
            have hxt := hce2 (j - 1) (by omega)
            rw [HEE.out, endsOf_rd ls j (j - 1) (by omega), show j - 1 + 1 = j by omega, ← HT.out] at hxt
            have g1 : IntKind.i64.wrap ((j : Int) - 1) = j - 1 := by rw [IntKind.wrap_i64]; omega
            have g2 : (0 : Int) ≤ (j : Int) - 1 := by omega
            have g3 : (j : Int) - 1 < j := by omega
            have g4 : ((j : Int) - 1).toNat = j - 1 := by omega
            have g5 : ((j : Int) == 0) = false := beq_eq_false_iff_ne.2 (by omega)
            have g6 : decide (0 < j) = true := decide_eq_true hj0
            have g7 : (j == 0) = false := beq_eq_false_iff_ne.2 (by omega)
            clear hce2
            go_wp2
            go_ret
            exact ⟨rfl, HB6.out⟩
theorem WireWhole_early (A0 : Option Addr) (n c0 : Nat) (x : Int) (w : World) (hbig : 50 < n) :
    Calls Try.prog 10 #[.slice A0 n c0, .int .i64 x] w fun e w' => e = .returned (.bool true) ∧ Below w.heap.size w w' := by
  have hd : decide (50 < n) = true := decide_eq_true hbig
  go_enter Try.func10, Try.ntmps10
  go_wp2_with fail
  refine (Sum_nil _).mono ?_
  rintro e w1 ⟨rfl, hd1⟩
  have HB1 := Lib.hid hd1.below
  clear hd1
  go_wp2
  go_ret
  exact ⟨rfl, HB1.out⟩
theorem WireWhole_walk (A0 : Option Addr) (n c0 : Nat) (ls : List (List Int)) (x : Int) (w : World) (hr0 : RdL w A0 n ls) (hc0 : n ≤ c0) (hb0 : ∀ p ∈ ls, Bytes p) (_hx : (Lit.int .i64 x).wf = true) :
    Calls Try.prog 10 #[.slice A0 n c0, .int .i64 x] w fun e w' => e = .returned (.bool true) ∧ Below w.heap.size w w' := by
  by_cases hbig : 50 < n
  · exact WireWhole_early A0 n c0 x w hbig
  · exact WireWhole_main A0 n c0 ls x w hr0 hc0 hb0 (by omega)
end Go.Proofs.Ythbdgakeglppbaa
