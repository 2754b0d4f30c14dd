/- The texts WsReadRef in one. -/
import Derived.Test.YtcfbfmgckaehdaaDoorG09
namespace Go.Proofs.YtcfbfmgckaehdaaDoor
open Go.RowKit Go.Proofs.YtcfbfmgckaehdaaDoorW.PrintWords
theorem tmod_nn {x : Int} (h : 0 ≤ x) (k : Int) : x.tmod k = x % k := Int.tmod_eq_emod_of_nonneg h
theorem tdiv_nn {x : Int} (h : 0 ≤ x) (k : Int) : x.tdiv k = x / k := Int.tdiv_eq_ediv_of_nonneg h
theorem lenR_s {l : List Int} (h : rd l 1 % 128 ≤ 125) : lenR l = (rd l 1 % 128, 2, 0) := by unfold lenR; rw [if_pos h]
theorem lenR_2 {l : List Int} (h : rd l 1 % 128 = 126) : lenR l = if l.length < 4 then (0, 0, 1) else if numL ((l.drop 2).take 2) ≤ 125 then (0, 0, 1002) else if 16384 < numL ((l.drop 2).take 2) then (0, 0, 1009) else (numL ((l.drop 2).take 2), 4, 0) := by unfold lenR; rw [h]; rfl
theorem lenR_8 {l : List Int} (h : rd l 1 % 128 = 127) : lenR l = if l.length < 10 then (0, 0, 1) else if 128 ≤ rd l 2 ∨ numL ((l.drop 2).take 8) ≤ 65535 then (0, 0, 1002) else (0, 0, 1009) := by unfold lenR; rw [h]; rfl
theorem Rd.lit2 {w : World} {ad : Addr} {n : Nat} {l : List Int} (h : Rd w (some ad) n l) (k : Nat) (hk : 0 < k) (hn : k < n) : w.cell? ⟨ad.block, ad.off + k, none⟩ = some (.int .u8 (rd l (k : Nat))) ∧ w.cell? (ad.add k) = some (.int .u8 (rd l (k : Nat))) := by
  obtain ⟨ad', e, hx⟩ := Rd.cells h (by omega)
  cases e
  have h1 := hx k hn
  refine ⟨?_, h1⟩
  unfold Addr.add at h1
  rwa [if_neg (by omega)] at h1
theorem rd_drop2 (l : List Int) (j : Nat) : rd (l.drop 2) (j : Nat) = rd l ((2 + j : Nat) : Int) := by
  unfold rd
  rw [Int.toNat_natCast, Int.toNat_natCast, List.getD_eq_getElem?_getD, List.getD_eq_getElem?_getD, List.getElem?_drop]
theorem badF_eq (c : Int) : badF c = (decide (c / 16 % 8 ≠ 0) || !knownB (c % 16) || (decide (8 ≤ c % 16) && !decide (128 ≤ c))) := by
  unfold badF
  rw [show decide (c < 128) = !decide (128 ≤ c) by rw [← decide_not, decide_eq_decide]; omega]
set_option maxRecDepth 20000 in
set_option maxHeartbeats 12800000 in
theorem WsReadRef_calls {n : Nat} (A0 : Option Addr) (c0 : Nat) (l : List Int) (mask : Bool) (w : World) (hr0 : Rd w A0 n l) (hc0 : n ≤ c0) (hb : Bytes l) (hn : n ≤ 35184372088832) :
    Calls Tryd.prog 16 #[.slice A0 n c0, .bool mask] w (RdPost l mask w) := by
  have hlen : l.length = n := Kd.C_len hr0
  obtain ⟨g0, hg0⟩ : ∃ g, g = w.heap.size := ⟨_, rfl⟩
  obtain ⟨g1, hg1⟩ : ∃ g, g = g0 + 1 := ⟨_, rfl⟩
  obtain ⟨W0, hW0⟩ : ∃ W0, W0 = w.alloc (.cells #[.bool false, .int .i64 0, .slice none 0 0] 26) := ⟨_, rfl⟩
  obtain ⟨W1, hW1⟩ : ∃ W1, W1 = W0.alloc (.cells #[.bool false, .int .i64 0, .slice none 0 0] 26) := ⟨_, rfl⟩
  have hz0 : W0.heap.size = g1 := by rw [hW0, size_alloc, hg1, hg0]
  have hb0 : Below w.heap.size w W0 := by rw [hW0]; exact below_alloc (Below.refl _ _) _
  have hb01 : Below W0.heap.size W0 W1 := by rw [hW1]; exact below_alloc (Below.refl _ _) _
  have hb1 := below_step hb0 hb01
  have hp0 : Whole W0 g0 26 fr0 := by rw [hW0, hg0]; exact Whole.new w _ _
  have hown : FrOwn W1 g0 g1 := ⟨hp0.below hb01 hp0.lt, by rw [hW1, ← hz0]; exact Whole.new W0 _ _⟩
  have HS := Lib.hid (show g0 = w.heap.size ∧ W0 = w.alloc _ ∧ W1 = W0.alloc _ ∧ w.heap.size ≤ g0 ∧ g1 = g0 + 1 from ⟨hg0, hW0, hW1, by rw [hg0]; exact Nat.le_refl _, hg1⟩)
  have HI := Lib.hid (show Bytes l ∧ l.length = n ∧ n ≤ 35184372088832 ∧ n ≤ c0 from ⟨hb, hlen, hn, hc0⟩)
  have HJ := Lib.hid (show Rd W1 A0 n l ∧ Below w.heap.size w W1 ∧ FrOwn W1 g0 g1 from ⟨Kd.C_below hr0 hb1, hb1, hown⟩)
  have HR0 := Lib.hid hr0
  clear hr0 hb hlen hg0 hg1 hz0 hb0 hb01 hb1 hp0 hown hW0 hW1
  by_cases h0 : n = 0
  · have d0 : ((n : Int) == 0) = true := by rw [beq_iff_eq]; omega
    have d0' : (n == 0) = true := by rw [beq_iff_eq]; exact h0
    have HF := Lib.hid (rdF_empty mask (show l.length = 0 by rw [HI.out.2.1]; exact h0))
    clear h0
    go_enter Tryd.func16, Tryd.ntmps16
    go_upto_region 2 with (fail)
    rw [← HS.out.1, ← HS.out.2.1, ← HS.out.2.2.2.2, ← HS.out.2.2.1]
    have z0 := HJ.out.2.2.2.cell 0 _ rfl
    have z1 := HJ.out.2.2.2.cell 1 _ rfl
    have z2 := HJ.out.2.2.2.cell 2 _ rfl
    go_wp2_with (refine gate_ (.store 26 (.tmp 4) (.tmp 22)) rfl ?_; refine store_whole rfl rfl rfl rfl rfl HJ.out.2.2.1 rfl (by simp [Value.oneCell']) rfl (by kernel_rfl) ?_; intro w9 hk9 hb9 hf9 hg9)
    refine bodyPost_ret (results_ctt rfl _ _ g0 _ _ _ _ rfl hk9 Tryd.underlying26 rfl (by kernel_rfl)) rfl ?_
    exact ⟨zeroF, 0, 1, .slice none 0 0, rfl, HF.out, Own.nil _ _, hb9 _ _ HJ.out.2.1 HS.out.2.2.2.1⟩
  · have d0 : ((n : Int) == 0) = false := by rw [beq_eq_false_iff_ne]; omega
    have d0' : (n == 0) = false := by rw [beq_eq_false_iff_ne]; exact h0
    have n0 : 0 < n := by omega
    have i0 : (0 : Int) < n := by omega
    obtain ⟨ad, hA, _⟩ := Rd.cells HJ.out.1 n0
    subst hA
    have x0 := Rd.at0 HJ.out.1 n0
    have r0 : 0 ≤ rd l 0 ∧ rd l 0 < 256 := bytes_rd HI.out.1 0 (by rw [HI.out.2.1]; exact n0)
    obtain ⟨c, hc⟩ : ∃ c, c = rd l 0 := ⟨_, rfl⟩
    rw [← hc] at x0 r0
    have HC := Lib.hid (And.intro hc r0)
    have t1 : c.tmod 16 = c % 16 := tmod_nn r0.1 16
    have t2 : c.tdiv 16 = c / 16 := tdiv_nn r0.1 16
    have t3 : (c / 16).tmod 8 = c / 16 % 8 := tmod_nn (by omega) 8
    have w1 : IntKind.u8.wrap (c % 16) = c % 16 := by rw [IntKind.wrap_u8]; omega
    have w2 : IntKind.i64.wrap (c % 16) = c % 16 := wrap_id (by omega) (by omega)
    have w3 : IntKind.u8.wrap (c / 16) = c / 16 := by rw [IntKind.wrap_u8]; omega
    have w4 : IntKind.u8.wrap (c / 16 % 8) = c / 16 % 8 := by rw [IntKind.wrap_u8]; omega
    obtain ⟨o, ho⟩ : ∃ o, o = c % 16 := ⟨_, rfl⟩
    obtain ⟨z, hz⟩ : ∃ z, z = c / 16 % 8 := ⟨_, rfl⟩
    rw [← ho] at t1 w1 w2
    rw [← hz] at t3 w4
    have hBF : badF (rd l 0) = ((z != 0) || !knownB o || (decide (8 ≤ o) && !decide (128 ≤ c))) := by rw [← hc, badF_eq, ← ho, ← hz]; congr 2; by_cases h : z = 0 <;> simp [h]
    have HBF := Lib.hid hBF
    have HOE := Lib.hid (show o = rd l 0 % 16 by rw [ho, hc])
    clear hc r0 ho hz hBF h0
    obtain ⟨fin, hfin⟩ : ∃ b, decide (128 ≤ c) = b := ⟨_, rfl⟩
    have HFI := Lib.hid hfin
    go_enter Tryd.func16, Tryd.ntmps16
    go_upto_region 2 with (fail)
    rw [← HS.out.1, ← HS.out.2.1, ← HS.out.2.2.2.2, ← HS.out.2.2.1]
    go_upto_region 4 with (fail)
    go_quiet (fail)
    have HJ3 := Lib.hid (show Rd (W1.drewN nq) (some ad) n l ∧ Below w.heap.size w (W1.drewN nq) ∧ FrOwn (W1.drewN nq) g0 g1 from ⟨Kd.C_drewN HJ.out.1 _, pw_below_drewN HJ.out.2.1 _, HJ.out.2.2.below (pw_below_drewN (Below.refl _ _) _)⟩)
    have x0 : (W1.drewN nq).cell? ad = some (.int .u8 c) := x0
    generalize W1.drewN nq = W3 at HJ3 x0 ⊢
    clear HJ
    have HJ := HJ3
    clear HJ3
    cases hzz : (z != 0) with
    | true =>
      have HF := Lib.hid (rdF_first (mask := mask) (show 0 < l.length by rw [HI.out.2.1]; exact n0) (by rw [HBF.out, hzz]; rfl))
      clear hfin
      have z0 := HJ.out.2.2.2.cell 0 _ rfl
      have z1 := HJ.out.2.2.2.cell 1 _ rfl
      have z2 := HJ.out.2.2.2.cell 2 _ rfl
      go_wp2_with (refine gate_ (.store 26 (.tmp 4) (.tmp 51)) rfl ?_; refine store_whole rfl rfl rfl rfl rfl HJ.out.2.2.1 rfl (by simp [Value.oneCell']) rfl (by kernel_rfl) ?_; intro w9 hk9 hb9 hf9 hg9)
      refine bodyPost_ret (results_ctt rfl _ _ g0 _ _ _ _ rfl hk9 Tryd.underlying26 rfl (by kernel_rfl)) rfl ?_
      exact ⟨zeroF, 0, 1002, .slice none 0 0, rfl, HF.out, Own.nil _ _, hb9 _ _ HJ.out.2.1 HS.out.2.2.2.1⟩
    | false =>
      have HZZ := Lib.hid hzz
      go_wp2_with fail
      refine (knownRef_calls o _).mono ?_
      rintro e w' ⟨rfl, rfl⟩
      cases hk : knownB o with
      | false =>
        have HF := Lib.hid (rdF_first (mask := mask) (show 0 < l.length by rw [HI.out.2.1]; exact n0) (by rw [HBF.out, hk]; simp))
        clear hfin hk
        have z0 := HJ.out.2.2.2.cell 0 _ rfl
        have z1 := HJ.out.2.2.2.cell 1 _ rfl
        have z2 := HJ.out.2.2.2.cell 2 _ rfl
        go_wp2_with (refine gate_ (.store 26 (.tmp 4) (.tmp 51)) rfl ?_; refine store_whole rfl rfl rfl rfl rfl HJ.out.2.2.1 rfl (by simp [Value.oneCell']) rfl (by kernel_rfl) ?_; intro w9 hk9 hb9 hf9 hg9)
        refine bodyPost_ret (results_ctt rfl _ _ g0 _ _ _ _ rfl hk9 Tryd.underlying26 rfl (by kernel_rfl)) rfl ?_
        exact ⟨zeroF, 0, 1002, .slice none 0 0, rfl, HF.out, Own.nil _ _, hb9 _ _ HJ.out.2.1 HS.out.2.2.2.1⟩
      | true =>
        have HK := Lib.hid hk
        clear hk hfin
        cases h8 : decide (8 ≤ o) with
        | true =>
          cases fin with
          | false =>
            have HF := Lib.hid (rdF_first (mask := mask) (show 0 < l.length by rw [HI.out.2.1]; exact n0) (by rw [HBF.out, h8, HFI.out]; simp))
            have z0 := HJ.out.2.2.2.cell 0 _ rfl
            have z1 := HJ.out.2.2.2.cell 1 _ rfl
            have z2 := HJ.out.2.2.2.cell 2 _ rfl
            go_wp2_with (refine gate_ (.store 26 (.tmp 4) (.tmp 51)) rfl ?_; refine store_whole rfl rfl rfl rfl rfl HJ.out.2.2.1 rfl (by simp [Value.oneCell']) rfl (by kernel_rfl) ?_; intro w9 hk9 hb9 hf9 hg9)
            refine bodyPost_ret (results_ctt rfl _ _ g0 _ _ _ _ rfl hk9 Tryd.underlying26 rfl (by kernel_rfl)) rfl ?_
            exact ⟨zeroF, 0, 1002, .slice none 0 0, rfl, HF.out, Own.nil _ _, hb9 _ _ HJ.out.2.1 HS.out.2.2.2.1⟩
          | true =>
            have HB1 := Lib.hid (show badF (rd l 0) = false by rw [HBF.out, HZZ.out, HK.out, h8, HFI.out]; rfl)
            clear HBF HZZ HK t1 t2 t3 w1 w2 w3 w4
            by_cases h1 : n = 1
            · have e1 : ((n : Int) == 1) = true := by rw [beq_iff_eq]; omega
              have e1' : (n == 1) = true := by rw [beq_iff_eq]; exact h1
              have HF := Lib.hid (rdF_one (mask := mask) (show l.length = 1 by rw [HI.out.2.1]; exact h1) HB1.out)
              clear h1
              have z0 := HJ.out.2.2.2.cell 0 _ rfl
              have z1 := HJ.out.2.2.2.cell 1 _ rfl
              have z2 := HJ.out.2.2.2.cell 2 _ rfl
              go_wp2_with (refine gate_ (.store 26 (.tmp 4) (.tmp 55)) rfl ?_; refine store_whole rfl rfl rfl rfl rfl HJ.out.2.2.1 rfl (by simp [Value.oneCell']) rfl (by kernel_rfl) ?_; intro w9 hk9 hb9 hf9 hg9)
              refine bodyPost_ret (results_ctt rfl _ _ g0 _ _ _ _ rfl hk9 Tryd.underlying26 rfl (by kernel_rfl)) rfl ?_
              exact ⟨zeroF, 0, 1, .slice none 0 0, rfl, HF.out, Own.nil _ _, hb9 _ _ HJ.out.2.1 HS.out.2.2.2.1⟩
            · have e1 : ((n : Int) == 1) = false := by rw [beq_eq_false_iff_ne]; omega
              have e1' : (n == 1) = false := by rw [beq_eq_false_iff_ne]; exact h1
              have hn2 : 2 ≤ n := by omega
              have HN2 := Lib.hid hn2
              have i1 : (1 : Int) < n := by omega
              have n1 : 1 < n := by omega
              clear h1
              have x1 : w'.cell? ⟨ad.block, ad.off + 1, none⟩ = some (.int .u8 (rd l 1)) := (Rd.lit2 HJ.out.1 1 (by decide) hn2).1
              have r1 : 0 ≤ rd l 1 ∧ rd l 1 < 256 := bytes_rd HI.out.1 1 (by rw [HI.out.2.1]; exact hn2)
              obtain ⟨d, hd⟩ : ∃ d, d = rd l 1 := ⟨_, rfl⟩
              rw [← hd] at x1 r1
              have u1 : d.tmod 128 = d % 128 := tmod_nn r1.1 128
              have u2 : IntKind.u8.wrap (d % 128) = d % 128 := by rw [IntKind.wrap_u8]; omega
              have u3 : IntKind.i64.wrap (d % 128) = d % 128 := wrap_id (by omega) (by omega)
              obtain ⟨r, hr⟩ : ∃ r, r = d % 128 := ⟨_, rfl⟩
              rw [← hr] at u1 u2 u3
              have hr128 : 0 ≤ r ∧ r < 128 := by omega
              obtain ⟨e, he⟩ : ∃ b, decide (128 ≤ d) = b := ⟨_, rfl⟩
              have HD := Lib.hid (show r = rd l 1 % 128 ∧ 0 ≤ r ∧ r < 128 ∧ (∀ m, badS (rd l 0) (rd l 1) m = ((e != m) || (decide (8 ≤ o) && decide (125 < r)))) from ⟨by rw [hr, hd], hr128.1, hr128.2, fun m => by unfold badS; rw [← HOE.out, ← hd, he, hr]⟩)
              have HEE := Lib.hid he
              clear hd hr r1 hr128 hn2
              cases mask with
              | false =>
                cases e with
                | false =>
                  cases h5 : decide (125 < r) with
                  | true =>
                    have HF := Lib.hid (rdF_second (mask := false) (show 2 ≤ l.length by rw [HI.out.2.1]; exact HN2.out) HB1.out (by rw [HD.out.2.2.2, h8, h5]; rfl))
                    have z0 := HJ.out.2.2.2.cell 0 _ rfl
                    have z1 := HJ.out.2.2.2.cell 1 _ rfl
                    have z2 := HJ.out.2.2.2.cell 2 _ rfl
                    go_wp2_with (refine gate_ (.store 26 (.tmp 4) (.tmp 75)) rfl ?_; refine store_whole rfl rfl rfl rfl rfl HJ.out.2.2.1 rfl (by simp [Value.oneCell']) rfl (by kernel_rfl) ?_; intro w9 hk9 hb9 hf9 hg9)
                    refine bodyPost_ret (results_ctt rfl _ _ g0 _ _ _ _ rfl hk9 Tryd.underlying26 rfl (by kernel_rfl)) rfl ?_
                    exact ⟨zeroF, 0, 1002, .slice none 0 0, rfl, HF.out, Own.nil _ _, hb9 _ _ HJ.out.2.1 HS.out.2.2.2.1⟩
                  | false =>
                    have hs : r ≤ 125 := by have := of_decide_eq_false h5; omega
                    have HB2 := Lib.hid (show badS (rd l 0) (rd l 1) false = false by rw [HD.out.2.2.2, h8, h5]; rfl)
                    obtain ⟨N, hN⟩ : ∃ N : Nat, r = N := ⟨r.toNat, by have := HD.out; omega⟩
                    have HF := Lib.hid (show rdF l false = bodyR l false N 2 from rdF_body (show 2 ≤ l.length by rw [HI.out.2.1]; exact HN2.out) HB1.out HB2.out (show Len3 l N 2 0 by unfold Len3; rw [← hN, HD.out.1]; exact lenR_s (by rw [← HD.out.1]; exact hs)))
                    have hN16 : N ≤ 16384 := by omega
                    have HN16 := Lib.hid hN16
                    subst hN
                    clear hs hN16
                    have d8w : IntKind.i64.wrap ((n : Int) - 2) = (n : Int) - 2 := wrap_id (by have := HN2.out; have := HI.out; omega) (by have := HI.out; omega)
                    by_cases h9 : n < 2 + N
                    · have d9 : decide ((n : Int) - 2 < N) = true := decide_eq_true (by omega)
                      have HV := Lib.hid (show rdF l false = (zeroF, 0, 1) by rw [HF.out]; unfold bodyR; rw [if_neg (by decide), HI.out.2.1, if_pos (by omega)])
                      clear h9
                      have z0 := HJ.out.2.2.2.cell 0 _ rfl
                      have z1 := HJ.out.2.2.2.cell 1 _ rfl
                      have z2 := HJ.out.2.2.2.cell 2 _ rfl
                      go_wp2_with (refine gate_ (.store 26 (.tmp 4) (.tmp 139)) rfl ?_; refine store_whole rfl rfl rfl rfl rfl HJ.out.2.2.1 rfl (by simp [Value.oneCell']) rfl (by kernel_rfl) ?_; intro w9 hk9 hb9 hf9 hg9)
                      refine bodyPost_ret (results_ctt rfl _ _ g0 _ _ _ _ rfl hk9 Tryd.underlying26 rfl (by kernel_rfl)) rfl ?_
                      exact ⟨zeroF, 0, 1, .slice none 0 0, rfl, HV.out, Own.nil _ _, hb9 _ _ HJ.out.2.1 HS.out.2.2.2.1⟩
                    have d9 : decide ((n : Int) - 2 < N) = false := decide_eq_false (by omega)
                    have HV := Lib.hid (show rdF l false = (⟨true, o, ((l.drop 2).take N)⟩, ((2 + N : Nat) : Int), 0) by rw [HF.out]; unfold bodyR; rw [if_neg (by decide), HI.out.2.1, if_neg (by omega), ← HOE.out, ← HC.out.1, HFI.out])
                    have hdl : (((l.drop 2).take N)).length = N := by rw [List.length_take, List.length_drop, HI.out.2.1]; omega
                    have HDL := Lib.hid hdl
                    clear hdl
                    have m1 : IntKind.i64.wrap (2 + (N : Int)) = 2 + N := wrap_id (by omega) (by have := HN16.out; omega)
                    have m2 : (0 : Int) ≤ 2 + (N : Int) := by omega
                    have m3 : (2 : Int) ≤ 2 + (N : Int) := by omega
                    have m4 : 2 + (N : Int) ≤ c0 := by omega
                    have m5 : (2 : Int) ≤ c0 := by omega
                    have m6 : (2 + (N : Int)).toNat = 2 + N := by omega
                    have m7 : 2 + N - 2 = N := by omega
                    have m8 : 2 ≤ c0 := by omega
                    have m9 : 2 ≤ 2 + N := by omega
                    have HHI := Lib.hid (show 2 + (N : Int) = ((2 + N : Nat) : Int) from by omega)
                    by_cases hcl : c0 = 2
                    · have hN0 : N = 0 := by omega
                      subst hN0
                      have HROW := Lib.hid (show ∀ W, Below w.heap.size w W → Rd W (some ad) 0 ((l.drop 2).take 0) from fun W _ => by rw [List.take_zero]; exact Rd.empty _ _)
                      subst hcl
                      clear h9 m1 m2 m3 m4 m5 m6 m7 m8 m9
                      go_upto_region 39 with (fail)
                      go_wp2_with (at_builtin; refine app_row (lit_nil HJ.out.2.1) (HROW.out _ (below_alloc HJ.out.2.1 _)) (below_alloc HJ.out.2.1 _) (by have := HN16.out; simp only [List.length_nil]; omega) rfl rfl rfl rfl ?_)
                      intro v5 w5 ho5 hb5 hg5 hat5
                      have hfr := HJ.out.2.2.below (below_alloc (Below.refl _ _) (.cells #[] 5))
                      have hne0 : some g0 ≠ (Value.slice (some ⟨w'.heap.size, 0, none⟩) 0 0).ownBlock := fun e => by have e : g0 = w'.heap.size := Option.some.inj e; have := HJ.out.2.2.1.lt; omega
                      have hne1 : some g1 ≠ (Value.slice (some ⟨w'.heap.size, 0, none⟩) 0 0).ownBlock := fun e => by have e : g1 = w'.heap.size := Option.some.inj e; have := HJ.out.2.2.2.lt; omega
                      have ho5 := ho5.cast (show _ = ((l.drop 2).take 0) by simp)
                      skip
                      have hov : some g0 ≠ v5.ownBlock ∧ some g1 ≠ v5.ownBlock := ⟨ne_after hat5 hne0 (by have := HJ.out.2.2.1.lt; omega), ne_after hat5 hne1 (by have := HJ.out.2.2.2.lt; omega)⟩
                      obtain ⟨A5, c5, rfl, _, _⟩ := ho5.reads
                      rw [HDL.out] at ho5 hov ⊢
                      have HVN := Lib.hid hov
                      clear hov hat5
                      have H5 := Lib.hid (show Own w w5 (.slice A5 0 c5) ((l.drop 2).take 0) ∧ Below w.heap.size w w5 ∧ FrOwn w5 g0 g1 from ⟨ho5, hb5, hfr.1.grown hg5 hne0, hfr.2.grown hg5 hne1⟩)
                      clear ho5 hb5 hg5 hfr hne0 hne1
                      skip
                      go_wp2_with fail
                      go_loopw [150] (fun i wr => ∃ k : Nat, i = .int .i64 k ∧ k ≤ 0 ∧ w5 = wr) (fun i _ => 0 - (intOf i).toNat)
                      case atStart => exact ⟨0, rfl, by omega, rfl⟩
                      case round =>
                        obtain ⟨k, rfl, hk, rfl⟩ := hrel
                        by_cases hkn : k < 0
                        · omega
                        · obtain rfl : k = 0 := by omega
                          have dk : decide ((0 : Nat) < 0) = false := decide_eq_false (by omega)
                          go_wp2_with (refine gate_ (.store 26 (.tmp 4) (.tmp 171)) rfl ?_; refine store_whole rfl rfl rfl rfl rfl H5.out.2.2.1 rfl (by simp [Value.oneCell']) rfl (by kernel_rfl) ?_; intro w9 hk9 hb9 hf9 hg9)
                          refine bodyPost_ret (results_ctt rfl _ _ g0 _ _ _ _ rfl hk9 Tryd.underlying26 rfl (by kernel_rfl)) rfl ?_
                          exact ⟨⟨_, _, _⟩, _, 0, _, by first | (rw [← HHI.out]; rfl) | rfl, HV.out, H5.out.1.stay hg9 HVN.out.1, hb9 _ _ H5.out.2.1 HS.out.2.2.2.1⟩
                    · have HROW := Lib.hid (show ∀ W, Below w.heap.size w W → Rd W (some ⟨ad.block, ad.off + 2, none⟩) N ((l.drop 2).take N) from fun W hW => by
                        have hq := Rd.mid (x := ⟨ad.block, ad.off + 2, none⟩) (Kd.C_below HR0.out hW) 2 (2 + N) (by omega) (by omega) (fun _ => by show _ = (if 2 = 0 then _ else _); rw [if_neg (by omega)])
                        rwa [List.drop_take, show 2 + N - 2 = N by omega] at hq)
                      clear h9
                      go_upto_region 39 with (fail)
                      go_wp2_with (at_builtin; refine app_row (lit_nil HJ.out.2.1) (HROW.out _ (below_alloc HJ.out.2.1 _)) (below_alloc HJ.out.2.1 _) (by have := HN16.out; simp only [List.length_nil]; omega) rfl rfl rfl rfl ?_)
                      intro v5 w5 ho5 hb5 hg5 hat5
                      have hfr := HJ.out.2.2.below (below_alloc (Below.refl _ _) (.cells #[] 5))
                      have hne0 : some g0 ≠ (Value.slice (some ⟨w'.heap.size, 0, none⟩) 0 0).ownBlock := fun e => by have e : g0 = w'.heap.size := Option.some.inj e; have := HJ.out.2.2.1.lt; omega
                      have hne1 : some g1 ≠ (Value.slice (some ⟨w'.heap.size, 0, none⟩) 0 0).ownBlock := fun e => by have e : g1 = w'.heap.size := Option.some.inj e; have := HJ.out.2.2.2.lt; omega
                      have ho5 := ho5.cast (show _ = ((l.drop 2).take N) by simp)
                      skip
                      have hov : some g0 ≠ v5.ownBlock ∧ some g1 ≠ v5.ownBlock := ⟨ne_after hat5 hne0 (by have := HJ.out.2.2.1.lt; omega), ne_after hat5 hne1 (by have := HJ.out.2.2.2.lt; omega)⟩
                      obtain ⟨A5, c5, rfl, _, _⟩ := ho5.reads
                      rw [HDL.out] at ho5 hov ⊢
                      have HVN := Lib.hid hov
                      clear hov hat5
                      have H5 := Lib.hid (show Own w w5 (.slice A5 N c5) ((l.drop 2).take N) ∧ Below w.heap.size w w5 ∧ FrOwn w5 g0 g1 from ⟨ho5, hb5, hfr.1.grown hg5 hne0, hfr.2.grown hg5 hne1⟩)
                      clear ho5 hb5 hg5 hfr hne0 hne1
                      skip
                      go_wp2_with fail
                      go_loopw [150] (fun i wr => ∃ k : Nat, i = .int .i64 k ∧ k ≤ N ∧ w5 = wr) (fun i _ => N - (intOf i).toNat)
                      case atStart => exact ⟨0, rfl, by omega, rfl⟩
                      case round =>
                        obtain ⟨k, rfl, hk, rfl⟩ := hrel
                        by_cases hkn : k < N
                        · have dk : decide (k < N) = true := decide_eq_true hkn
                          have dk' : decide ((k : Int) < N) = true := decide_eq_true (by omega)
                          have wk : IntKind.i64.wrap ((k : Int) + 1) = k + 1 := wrap_id (by omega) (by have := HN16.out; omega)
                          go_wp2
                          go_roundw
                          case rel => exact ⟨k + 1, by go_num, by omega, by first | rfl | trivial⟩
                          case measure => simp [intOf]; omega
                        · obtain rfl : k = N := by omega
                          have dk : decide ((k : Nat) < k) = false := decide_eq_false (by omega)
                          go_wp2_with (refine gate_ (.store 26 (.tmp 4) (.tmp 171)) rfl ?_; refine store_whole rfl rfl rfl rfl rfl H5.out.2.2.1 rfl (by simp [Value.oneCell']) rfl (by kernel_rfl) ?_; intro w9 hk9 hb9 hf9 hg9)
                          refine bodyPost_ret (results_ctt rfl _ _ g0 _ _ _ _ rfl hk9 Tryd.underlying26 rfl (by kernel_rfl)) rfl ?_
                          exact ⟨⟨_, _, _⟩, _, 0, _, by first | (rw [← HHI.out]; rfl) | rfl, HV.out, H5.out.1.stay hg9 HVN.out.1, hb9 _ _ H5.out.2.1 HS.out.2.2.2.1⟩
                | true =>
                  have HF := Lib.hid (rdF_second (mask := false) (show 2 ≤ l.length by rw [HI.out.2.1]; exact HN2.out) HB1.out (by rw [HD.out.2.2.2]; rfl))
                  have z0 := HJ.out.2.2.2.cell 0 _ rfl
                  have z1 := HJ.out.2.2.2.cell 1 _ rfl
                  have z2 := HJ.out.2.2.2.cell 2 _ rfl
                  go_wp2_with (refine gate_ (.store 26 (.tmp 4) (.tmp 75)) rfl ?_; refine store_whole rfl rfl rfl rfl rfl HJ.out.2.2.1 rfl (by simp [Value.oneCell']) rfl (by kernel_rfl) ?_; intro w9 hk9 hb9 hf9 hg9)
                  refine bodyPost_ret (results_ctt rfl _ _ g0 _ _ _ _ rfl hk9 Tryd.underlying26 rfl (by kernel_rfl)) rfl ?_
                  exact ⟨zeroF, 0, 1002, .slice none 0 0, rfl, HF.out, Own.nil _ _, hb9 _ _ HJ.out.2.1 HS.out.2.2.2.1⟩
              | true =>
                cases e with
                | false =>
                  have HF := Lib.hid (rdF_second (mask := true) (show 2 ≤ l.length by rw [HI.out.2.1]; exact HN2.out) HB1.out (by rw [HD.out.2.2.2]; rfl))
                  have z0 := HJ.out.2.2.2.cell 0 _ rfl
                  have z1 := HJ.out.2.2.2.cell 1 _ rfl
                  have z2 := HJ.out.2.2.2.cell 2 _ rfl
                  go_wp2_with (refine gate_ (.store 26 (.tmp 4) (.tmp 75)) rfl ?_; refine store_whole rfl rfl rfl rfl rfl HJ.out.2.2.1 rfl (by simp [Value.oneCell']) rfl (by kernel_rfl) ?_; intro w9 hk9 hb9 hf9 hg9)
                  refine bodyPost_ret (results_ctt rfl _ _ g0 _ _ _ _ rfl hk9 Tryd.underlying26 rfl (by kernel_rfl)) rfl ?_
                  exact ⟨zeroF, 0, 1002, .slice none 0 0, rfl, HF.out, Own.nil _ _, hb9 _ _ HJ.out.2.1 HS.out.2.2.2.1⟩
                | true =>
                  cases h5 : decide (125 < r) with
                  | true =>
                    have HF := Lib.hid (rdF_second (mask := true) (show 2 ≤ l.length by rw [HI.out.2.1]; exact HN2.out) HB1.out (by rw [HD.out.2.2.2, h8, h5]; rfl))
                    have z0 := HJ.out.2.2.2.cell 0 _ rfl
                    have z1 := HJ.out.2.2.2.cell 1 _ rfl
                    have z2 := HJ.out.2.2.2.cell 2 _ rfl
                    go_wp2_with (refine gate_ (.store 26 (.tmp 4) (.tmp 75)) rfl ?_; refine store_whole rfl rfl rfl rfl rfl HJ.out.2.2.1 rfl (by simp [Value.oneCell']) rfl (by kernel_rfl) ?_; intro w9 hk9 hb9 hf9 hg9)
                    refine bodyPost_ret (results_ctt rfl _ _ g0 _ _ _ _ rfl hk9 Tryd.underlying26 rfl (by kernel_rfl)) rfl ?_
                    exact ⟨zeroF, 0, 1002, .slice none 0 0, rfl, HF.out, Own.nil _ _, hb9 _ _ HJ.out.2.1 HS.out.2.2.2.1⟩
                  | false =>
                    have hs : r ≤ 125 := by have := of_decide_eq_false h5; omega
                    have HB2 := Lib.hid (show badS (rd l 0) (rd l 1) true = false by rw [HD.out.2.2.2, h8, h5]; rfl)
                    obtain ⟨N, hN⟩ : ∃ N : Nat, r = N := ⟨r.toNat, by have := HD.out; omega⟩
                    have HF := Lib.hid (show rdF l true = bodyR l true N 2 from rdF_body (show 2 ≤ l.length by rw [HI.out.2.1]; exact HN2.out) HB1.out HB2.out (show Len3 l N 2 0 by unfold Len3; rw [← hN, HD.out.1]; exact lenR_s (by rw [← HD.out.1]; exact hs)))
                    have hN16 : N ≤ 16384 := by omega
                    have HN16 := Lib.hid hN16
                    subst hN
                    clear hs hN16
                    by_cases h7 : n < 6
                    · have d7 : decide ((n : Int) < 6) = true := decide_eq_true (by omega)
                      have HV := Lib.hid (show rdF l true = (zeroF, 0, 1) by rw [HF.out]; unfold bodyR; rw [if_pos rfl, HI.out.2.1, if_pos (by omega)])
                      clear h7
                      have z0 := HJ.out.2.2.2.cell 0 _ rfl
                      have z1 := HJ.out.2.2.2.cell 1 _ rfl
                      have z2 := HJ.out.2.2.2.cell 2 _ rfl
                      go_wp2_with (refine gate_ (.store 26 (.tmp 4) (.tmp 125)) rfl ?_; refine store_whole rfl rfl rfl rfl rfl HJ.out.2.2.1 rfl (by simp [Value.oneCell']) rfl (by kernel_rfl) ?_; intro w9 hk9 hb9 hf9 hg9)
                      refine bodyPost_ret (results_ctt rfl _ _ g0 _ _ _ _ rfl hk9 Tryd.underlying26 rfl (by kernel_rfl)) rfl ?_
                      exact ⟨zeroF, 0, 1, .slice none 0 0, rfl, HV.out, Own.nil _ _, hb9 _ _ HJ.out.2.1 HS.out.2.2.2.1⟩
                    have d7 : decide ((n : Int) < 6) = false := decide_eq_false (by omega)
                    have k1 : (2 : Int) ≤ c0 := by omega
                    have k2 : (6 : Int) ≤ c0 := by omega
                    have k3 : ¬ c0 = 2 := by omega
                    have k4 : 2 ≤ c0 := by omega
                    have k5 : 6 ≤ c0 := by omega
                    have d8w : IntKind.i64.wrap ((n : Int) - 6) = (n : Int) - 6 := wrap_id (by omega) (by have := HI.out; omega)
                    by_cases h9 : n < 6 + N
                    · have d9 : decide ((n : Int) - 6 < N) = true := decide_eq_true (by omega)
                      have HV := Lib.hid (show rdF l true = (zeroF, 0, 1) by rw [HF.out]; unfold bodyR; rw [if_pos rfl, HI.out.2.1, if_pos (by omega)])
                      clear h9
                      have z0 := HJ.out.2.2.2.cell 0 _ rfl
                      have z1 := HJ.out.2.2.2.cell 1 _ rfl
                      have z2 := HJ.out.2.2.2.cell 2 _ rfl
                      go_wp2_with (refine gate_ (.store 26 (.tmp 4) (.tmp 139)) rfl ?_; refine store_whole rfl rfl rfl rfl rfl HJ.out.2.2.1 rfl (by simp [Value.oneCell']) rfl (by kernel_rfl) ?_; intro w9 hk9 hb9 hf9 hg9)
                      refine bodyPost_ret (results_ctt rfl _ _ g0 _ _ _ _ rfl hk9 Tryd.underlying26 rfl (by kernel_rfl)) rfl ?_
                      exact ⟨zeroF, 0, 1, .slice none 0 0, rfl, HV.out, Own.nil _ _, hb9 _ _ HJ.out.2.1 HS.out.2.2.2.1⟩
                    have d9 : decide ((n : Int) - 6 < N) = false := decide_eq_false (by omega)
                    have HV := Lib.hid (show rdF l true = (⟨true, o, maskL ((l.drop 2).take 4) ((l.drop 6).take N)⟩, ((6 + N : Nat) : Int), 0) by rw [HF.out]; unfold bodyR; rw [if_pos rfl, HI.out.2.1, if_neg (by omega), ← HOE.out, ← HC.out.1, HFI.out])
                    have hdl : (((l.drop 6).take N)).length = N := by rw [List.length_take, List.length_drop, HI.out.2.1]; omega
                    have HDL := Lib.hid hdl
                    clear hdl
                    have HKY := Lib.hid (show ∀ W, Below w.heap.size w W → Rd W (some ⟨ad.block, ad.off + 2, none⟩) 4 ((l.drop 2).take 4) from fun W hW => by
                      have hq := Rd.mid (x := ⟨ad.block, ad.off + 2, none⟩) (Kd.C_below HR0.out hW) 2 6 (by omega) (by omega) (fun _ => by show _ = (if 2 = 0 then _ else _); rw [if_neg (by omega)])
                      rwa [List.drop_take] at hq)
                    have m1 : IntKind.i64.wrap (6 + (N : Int)) = 6 + N := wrap_id (by omega) (by have := HN16.out; omega)
                    have m2 : (0 : Int) ≤ 6 + (N : Int) := by omega
                    have m3 : (6 : Int) ≤ 6 + (N : Int) := by omega
                    have m4 : 6 + (N : Int) ≤ c0 := by omega
                    have m5 : (6 : Int) ≤ c0 := by omega
                    have m6 : (6 + (N : Int)).toNat = 6 + N := by omega
                    have m7 : 6 + N - 6 = N := by omega
                    have m8 : 6 ≤ c0 := by omega
                    have m9 : 6 ≤ 6 + N := by omega
                    have HHI := Lib.hid (show 6 + (N : Int) = ((6 + N : Nat) : Int) from by omega)
                    by_cases hcl : c0 = 6
                    · have hN0 : N = 0 := by omega
                      subst hN0
                      have HROW := Lib.hid (show ∀ W, Below w.heap.size w W → Rd W (some ad) 0 ((l.drop 6).take 0) from fun W _ => by rw [List.take_zero]; exact Rd.empty _ _)
                      subst hcl
                      clear h9 m1 m2 m3 m4 m5 m6 m7 m8 m9
                      go_upto_region 39 with (fail)
                      go_wp2_with (at_builtin; refine app_row (lit_nil HJ.out.2.1) (HROW.out _ (below_alloc HJ.out.2.1 _)) (below_alloc HJ.out.2.1 _) (by have := HN16.out; simp only [List.length_nil]; omega) rfl rfl rfl rfl ?_)
                      intro v5 w5 ho5 hb5 hg5 hat5
                      have hfr := HJ.out.2.2.below (below_alloc (Below.refl _ _) (.cells #[] 5))
                      have hne0 : some g0 ≠ (Value.slice (some ⟨w'.heap.size, 0, none⟩) 0 0).ownBlock := fun e => by have e : g0 = w'.heap.size := Option.some.inj e; have := HJ.out.2.2.1.lt; omega
                      have hne1 : some g1 ≠ (Value.slice (some ⟨w'.heap.size, 0, none⟩) 0 0).ownBlock := fun e => by have e : g1 = w'.heap.size := Option.some.inj e; have := HJ.out.2.2.2.lt; omega
                      have ho5 := ho5.cast (show _ = ((l.drop 6).take 0) by simp)
                      skip
                      have hov : some g0 ≠ v5.ownBlock ∧ some g1 ≠ v5.ownBlock := ⟨ne_after hat5 hne0 (by have := HJ.out.2.2.1.lt; omega), ne_after hat5 hne1 (by have := HJ.out.2.2.2.lt; omega)⟩
                      obtain ⟨A5, c5, rfl, _, _⟩ := ho5.reads
                      rw [HDL.out] at ho5 hov ⊢
                      have HVN := Lib.hid hov
                      clear hov hat5
                      have H5 := Lib.hid (show Own w w5 (.slice A5 0 c5) ((l.drop 6).take 0) ∧ Below w.heap.size w w5 ∧ FrOwn w5 g0 g1 from ⟨ho5, hb5, hfr.1.grown hg5 hne0, hfr.2.grown hg5 hne1⟩)
                      clear ho5 hb5 hg5 hfr hne0 hne1
                      skip
                      have HA0 := Lib.hid (show Own w w5 (.slice A5 0 c5) (maskUp ((l.drop 2).take 4) ((l.drop 6).take 0) 0) ∧ Below w.heap.size w w5 ∧ FrOwn w5 g0 g1 from ⟨by rw [maskUp_zero]; exact H5.out.1, H5.out.2⟩)
                      go_wp2_with fail
                      go_loopw [150] (fun i wr => ∃ k : Nat, i = .int .i64 k ∧ k ≤ 0 ∧ Hid (Own w wr (.slice A5 0 c5) (maskUp ((l.drop 2).take 4) ((l.drop 6).take 0) k) ∧ Below w.heap.size w wr ∧ FrOwn wr g0 g1)) (fun i _ => 0 - (intOf i).toNat)
                      case atStart => exact ⟨0, rfl, by omega, HA0⟩
                      case round =>
                        obtain ⟨k, rfl, hk, HA⟩ := hrel
                        by_cases hkn : k < 0
                        · omega
                        · obtain rfl : k = 0 := by omega
                          have dk : decide ((0 : Nat) < 0) = false := decide_eq_false (by omega)
                          have hfin := HA.out.1
                          rw [show maskUp ((l.drop 2).take 4) ((l.drop 6).take 0) 0 = maskL ((l.drop 2).take 4) ((l.drop 6).take 0) by have h := maskUp_all ((l.drop 2).take 4) ((l.drop 6).take 0); rw [HDL.out] at h; exact h] at hfin
                          go_wp2_with (refine gate_ (.store 26 (.tmp 4) (.tmp 171)) rfl ?_; refine store_whole rfl rfl rfl rfl rfl HA.out.2.2.1 rfl (by simp [Value.oneCell']) rfl (by kernel_rfl) ?_; intro w9 hk9 hb9 hf9 hg9)
                          refine bodyPost_ret (results_ctt rfl _ _ g0 _ _ _ _ rfl hk9 Tryd.underlying26 rfl (by kernel_rfl)) rfl ?_
                          exact ⟨⟨_, _, _⟩, _, 0, _, by first | (rw [← HHI.out]; rfl) | rfl, HV.out, hfin.stay hg9 HVN.out.1, hb9 _ _ HA.out.2.1 HS.out.2.2.2.1⟩
                    · have HROW := Lib.hid (show ∀ W, Below w.heap.size w W → Rd W (some ⟨ad.block, ad.off + 6, none⟩) N ((l.drop 6).take N) from fun W hW => by
                        have hq := Rd.mid (x := ⟨ad.block, ad.off + 6, none⟩) (Kd.C_below HR0.out hW) 6 (6 + N) (by omega) (by omega) (fun _ => by show _ = (if 6 = 0 then _ else _); rw [if_neg (by omega)])
                        rwa [List.drop_take, show 6 + N - 6 = N by omega] at hq)
                      clear h9
                      go_upto_region 39 with (fail)
                      go_wp2_with (at_builtin; refine app_row (lit_nil HJ.out.2.1) (HROW.out _ (below_alloc HJ.out.2.1 _)) (below_alloc HJ.out.2.1 _) (by have := HN16.out; simp only [List.length_nil]; omega) rfl rfl rfl rfl ?_)
                      intro v5 w5 ho5 hb5 hg5 hat5
                      have hfr := HJ.out.2.2.below (below_alloc (Below.refl _ _) (.cells #[] 5))
                      have hne0 : some g0 ≠ (Value.slice (some ⟨w'.heap.size, 0, none⟩) 0 0).ownBlock := fun e => by have e : g0 = w'.heap.size := Option.some.inj e; have := HJ.out.2.2.1.lt; omega
                      have hne1 : some g1 ≠ (Value.slice (some ⟨w'.heap.size, 0, none⟩) 0 0).ownBlock := fun e => by have e : g1 = w'.heap.size := Option.some.inj e; have := HJ.out.2.2.2.lt; omega
                      have ho5 := ho5.cast (show _ = ((l.drop 6).take N) by simp)
                      skip
                      have hov : some g0 ≠ v5.ownBlock ∧ some g1 ≠ v5.ownBlock := ⟨ne_after hat5 hne0 (by have := HJ.out.2.2.1.lt; omega), ne_after hat5 hne1 (by have := HJ.out.2.2.2.lt; omega)⟩
                      obtain ⟨A5, c5, rfl, _, _⟩ := ho5.reads
                      rw [HDL.out] at ho5 hov ⊢
                      have HVN := Lib.hid hov
                      clear hov hat5
                      have H5 := Lib.hid (show Own w w5 (.slice A5 N c5) ((l.drop 6).take N) ∧ Below w.heap.size w w5 ∧ FrOwn w5 g0 g1 from ⟨ho5, hb5, hfr.1.grown hg5 hne0, hfr.2.grown hg5 hne1⟩)
                      clear ho5 hb5 hg5 hfr hne0 hne1
                      skip
                      have HA0 := Lib.hid (show Own w w5 (.slice A5 N c5) (maskUp ((l.drop 2).take 4) ((l.drop 6).take N) 0) ∧ Below w.heap.size w w5 ∧ FrOwn w5 g0 g1 from ⟨by rw [maskUp_zero]; exact H5.out.1, H5.out.2⟩)
                      go_wp2_with fail
                      go_loopw [150] (fun i wr => ∃ k : Nat, i = .int .i64 k ∧ k ≤ N ∧ Hid (Own w wr (.slice A5 N c5) (maskUp ((l.drop 2).take 4) ((l.drop 6).take N) k) ∧ Below w.heap.size w wr ∧ FrOwn wr g0 g1)) (fun i _ => N - (intOf i).toNat)
                      case atStart => exact ⟨0, rfl, by omega, HA0⟩
                      case round =>
                        obtain ⟨k, rfl, hk, HA⟩ := hrel
                        by_cases hkn : k < N
                        · have hkl : k < (((l.drop 6).take N)).length := by rw [HDL.out]; exact hkn
                          have hoo := HA.out.1
                          have hml : (maskUp ((l.drop 2).take 4) ((l.drop 6).take N) k).length = N := by rw [maskUp_length, HDL.out]
                          rw [← hml] at hoo
                          obtain ⟨g, cap, e, _, hg, _⟩ := Own.form hoo (by rw [hml]; omega)
                          rw [hml] at e
                          injection e with ea eb ec
                          subst ea
                          have HG := Lib.hid hg
                          clear hoo hml hg eb ec
                          have hcell := Own.cell HA.out.1 k hkn
                          rw [maskUp_at _ _ k hkl] at hcell
                          obtain ⟨hx, hf⟩ := hcell
                          obtain ⟨am', ea, hmc⟩ := Rd.cells (HKY.out _ HA.out.2.1) (by decide)
                          obtain ⟨am, ham⟩ : ∃ am : Addr, am = ⟨ad.block, ad.off + 2, none⟩ := ⟨_, rfl⟩
                          have ea2 : am' = am := by rw [ham]; exact (Option.some.inj ea).symm
                          rw [ea2] at hmc
                          rw [← ham]
                          have hy := hmc (k % 4) (Nat.mod_lt _ (by decide))
                          have t1 : (k : Int).tmod 4 = ((k % 4 : Nat) : Int) := Int.ofNat_tmod k 4
                          obtain ⟨j, hj⟩ : ∃ j, j = k % 4 := ⟨_, rfl⟩
                          rw [← hj] at hy t1
                          have j4 : j < 4 := by omega
                          have ji4 : (j : Int) < 4 := by omega
                          obtain ⟨x, hxe⟩ : ∃ x, x = rd ((l.drop 6).take N) (k : Nat) := ⟨_, rfl⟩
                          obtain ⟨y, hye⟩ : ∃ y, y = rd ((l.drop 2).take 4) (j : Nat) := ⟨_, rfl⟩
                          rw [← hxe] at hx
                          rw [← hye] at hy
                          have HSET := Lib.hid (show (maskUp ((l.drop 2).take 4) ((l.drop 6).take N) k).set k (bits .xor .u8 x y) = maskUp ((l.drop 2).take 4) ((l.drop 6).take N) (k + 1) by rw [hxe, hye, hj]; exact maskUp_set _ _ k hkl)
                          have dkn : decide (k < N) = true := decide_eq_true hkn
                          have dkn' : decide ((k : Int) < N) = true := decide_eq_true (by omega)
                          have ikn : (k : Int) < N := by omega
                          have wj : IntKind.i64.wrap (j : Int) = j := wrap_id (by omega) (by omega)
                          have wk : IntKind.i64.wrap ((k : Int) + 1) = k + 1 := wrap_id (by omega) (by have := HN16.out; omega)
                          clear hmc hj hxe hye ea ea2 hkl ham
                          go_upto_region 44 with (fail)
                          refine wp_region_quiet_tail_at 13 (by kernel_rfl) (by kernel_rfl) (by kernel_rfl) (by kernel_rfl) ?_
                          simp only [List.take_succ_cons, List.take_zero, List.drop_succ_cons, List.drop_zero]
                          repeat (quiet_step (fail))
                          refine wpQuiet_nil ?_
                          intro _ hw'
                          obtain ⟨nq, hw''⟩ := hw'
                          subst hw''
                          have hO := Own.below HA.out.1 (show Below wr.heap.size wr (wr.drewN nq) from pw_below_drewN (Below.refl _ _) nq)
                          have hB := pw_below_drewN HA.out.2.1 nq
                          have hF := HA.out.2.2.below (pw_below_drewN (Below.refl _ _) nq)
                          have hx' : (wr.drewN nq).cell? ⟨g, k, none⟩ = some (.int .u8 x) := hx
                          have hf' : (wr.drewN nq).frozen? ⟨g, k, none⟩ = false := hf
                          generalize wr.drewN nq = W6 at hO hB hF hx' hf' ⊢
                          have hO2 := Own.put hO k (bits .xor .u8 x y)
                          rw [HSET.out] at hO2
                          have HN := Lib.hid (show Own w (W6.setCell ⟨g, k, none⟩ (.int .u8 (bits .xor .u8 x y))) (.slice (some ⟨g, 0, none⟩) N c5) (maskUp ((l.drop 2).take 4) ((l.drop 6).take N) (k + 1)) ∧ Below w.heap.size w (W6.setCell ⟨g, k, none⟩ (.int .u8 (bits .xor .u8 x y))) ∧ FrOwn (W6.setCell ⟨g, k, none⟩ (.int .u8 (bits .xor .u8 x y))) g0 g1 from ⟨hO2, hB.setCell (p := ⟨g, k, none⟩) HG.out _, hF.1.other (fun e => HVN.out.1 (by rw [← e]; rfl)) _, hF.2.other (fun e => HVN.out.2 (by rw [← e]; rfl)) _⟩)
                          clear hO hB hF hO2 hx hf hy
                          go_wp2
                          go_roundw
                          case rel => exact ⟨k + 1, by go_num, by omega, HN⟩
                          case measure => simp [intOf]; omega
                        · obtain rfl : k = N := by omega
                          have dk : decide ((k : Nat) < k) = false := decide_eq_false (by omega)
                          have hfin := HA.out.1
                          rw [show maskUp ((l.drop 2).take 4) ((l.drop 6).take k) k = maskL ((l.drop 2).take 4) ((l.drop 6).take k) by have h := maskUp_all ((l.drop 2).take 4) ((l.drop 6).take k); rw [HDL.out] at h; exact h] at hfin
                          go_wp2_with (refine gate_ (.store 26 (.tmp 4) (.tmp 171)) rfl ?_; refine store_whole rfl rfl rfl rfl rfl HA.out.2.2.1 rfl (by simp [Value.oneCell']) rfl (by kernel_rfl) ?_; intro w9 hk9 hb9 hf9 hg9)
                          refine bodyPost_ret (results_ctt rfl _ _ g0 _ _ _ _ rfl hk9 Tryd.underlying26 rfl (by kernel_rfl)) rfl ?_
                          exact ⟨⟨_, _, _⟩, _, 0, _, by first | (rw [← HHI.out]; rfl) | rfl, HV.out, hfin.stay hg9 HVN.out.1, hb9 _ _ HA.out.2.1 HS.out.2.2.2.1⟩
        | false =>
          have HB1 := Lib.hid (show badF (rd l 0) = false by rw [HBF.out, HZZ.out, HK.out, h8]; rfl)
          clear HBF HZZ HK t1 t2 t3 w1 w2 w3 w4
          by_cases h1 : n = 1
          · have e1 : ((n : Int) == 1) = true := by rw [beq_iff_eq]; omega
            have e1' : (n == 1) = true := by rw [beq_iff_eq]; exact h1
            have HF := Lib.hid (rdF_one (mask := mask) (show l.length = 1 by rw [HI.out.2.1]; exact h1) HB1.out)
            clear h1
            have z0 := HJ.out.2.2.2.cell 0 _ rfl
            have z1 := HJ.out.2.2.2.cell 1 _ rfl
            have z2 := HJ.out.2.2.2.cell 2 _ rfl
            go_wp2_with (refine gate_ (.store 26 (.tmp 4) (.tmp 55)) rfl ?_; refine store_whole rfl rfl rfl rfl rfl HJ.out.2.2.1 rfl (by simp [Value.oneCell']) rfl (by kernel_rfl) ?_; intro w9 hk9 hb9 hf9 hg9)
            refine bodyPost_ret (results_ctt rfl _ _ g0 _ _ _ _ rfl hk9 Tryd.underlying26 rfl (by kernel_rfl)) rfl ?_
            exact ⟨zeroF, 0, 1, .slice none 0 0, rfl, HF.out, Own.nil _ _, hb9 _ _ HJ.out.2.1 HS.out.2.2.2.1⟩
          · have e1 : ((n : Int) == 1) = false := by rw [beq_eq_false_iff_ne]; omega
            have e1' : (n == 1) = false := by rw [beq_eq_false_iff_ne]; exact h1
            have hn2 : 2 ≤ n := by omega
            have HN2 := Lib.hid hn2
            have i1 : (1 : Int) < n := by omega
            have n1 : 1 < n := by omega
            clear h1
            have x1 : w'.cell? ⟨ad.block, ad.off + 1, none⟩ = some (.int .u8 (rd l 1)) := (Rd.lit2 HJ.out.1 1 (by decide) hn2).1
            have r1 : 0 ≤ rd l 1 ∧ rd l 1 < 256 := bytes_rd HI.out.1 1 (by rw [HI.out.2.1]; exact hn2)
            obtain ⟨d, hd⟩ : ∃ d, d = rd l 1 := ⟨_, rfl⟩
            rw [← hd] at x1 r1
            have u1 : d.tmod 128 = d % 128 := tmod_nn r1.1 128
            have u2 : IntKind.u8.wrap (d % 128) = d % 128 := by rw [IntKind.wrap_u8]; omega
            have u3 : IntKind.i64.wrap (d % 128) = d % 128 := wrap_id (by omega) (by omega)
            obtain ⟨r, hr⟩ : ∃ r, r = d % 128 := ⟨_, rfl⟩
            rw [← hr] at u1 u2 u3
            have hr128 : 0 ≤ r ∧ r < 128 := by omega
            obtain ⟨e, he⟩ : ∃ b, decide (128 ≤ d) = b := ⟨_, rfl⟩
            have HD := Lib.hid (show r = rd l 1 % 128 ∧ 0 ≤ r ∧ r < 128 ∧ (∀ m, badS (rd l 0) (rd l 1) m = ((e != m) || (decide (8 ≤ o) && decide (125 < r)))) from ⟨by rw [hr, hd], hr128.1, hr128.2, fun m => by unfold badS; rw [← HOE.out, ← hd, he, hr]⟩)
            have HEE := Lib.hid he
            clear hd hr r1 hr128 hn2
            cases mask with
            | false =>
              cases e with
              | false =>
                by_cases hs : r ≤ 125
                · have h5 : decide (125 < r) = false := decide_eq_false (by omega)
                  have HB2 := Lib.hid (show badS (rd l 0) (rd l 1) false = false by rw [HD.out.2.2.2, h8]; rfl)
                  obtain ⟨N, hN⟩ : ∃ N : Nat, r = N := ⟨r.toNat, by have := HD.out; omega⟩
                  have HF := Lib.hid (show rdF l false = bodyR l false N 2 from rdF_body (show 2 ≤ l.length by rw [HI.out.2.1]; exact HN2.out) HB1.out HB2.out (show Len3 l N 2 0 by unfold Len3; rw [← hN, HD.out.1]; exact lenR_s (by rw [← HD.out.1]; exact hs)))
                  have hN16 : N ≤ 16384 := by omega
                  have HN16 := Lib.hid hN16
                  subst hN
                  clear hs hN16
                  have d8w : IntKind.i64.wrap ((n : Int) - 2) = (n : Int) - 2 := wrap_id (by have := HN2.out; have := HI.out; omega) (by have := HI.out; omega)
                  by_cases h9 : n < 2 + N
                  · have d9 : decide ((n : Int) - 2 < N) = true := decide_eq_true (by omega)
                    have HV := Lib.hid (show rdF l false = (zeroF, 0, 1) by rw [HF.out]; unfold bodyR; rw [if_neg (by decide), HI.out.2.1, if_pos (by omega)])
                    clear h9
                    have z0 := HJ.out.2.2.2.cell 0 _ rfl
                    have z1 := HJ.out.2.2.2.cell 1 _ rfl
                    have z2 := HJ.out.2.2.2.cell 2 _ rfl
                    go_wp2_with (refine gate_ (.store 26 (.tmp 4) (.tmp 139)) rfl ?_; refine store_whole rfl rfl rfl rfl rfl HJ.out.2.2.1 rfl (by simp [Value.oneCell']) rfl (by kernel_rfl) ?_; intro w9 hk9 hb9 hf9 hg9)
                    refine bodyPost_ret (results_ctt rfl _ _ g0 _ _ _ _ rfl hk9 Tryd.underlying26 rfl (by kernel_rfl)) rfl ?_
                    exact ⟨zeroF, 0, 1, .slice none 0 0, rfl, HV.out, Own.nil _ _, hb9 _ _ HJ.out.2.1 HS.out.2.2.2.1⟩
                  have d9 : decide ((n : Int) - 2 < N) = false := decide_eq_false (by omega)
                  have HV := Lib.hid (show rdF l false = (⟨fin, o, ((l.drop 2).take N)⟩, ((2 + N : Nat) : Int), 0) by rw [HF.out]; unfold bodyR; rw [if_neg (by decide), HI.out.2.1, if_neg (by omega), ← HOE.out, ← HC.out.1, HFI.out])
                  have hdl : (((l.drop 2).take N)).length = N := by rw [List.length_take, List.length_drop, HI.out.2.1]; omega
                  have HDL := Lib.hid hdl
                  clear hdl
                  have m1 : IntKind.i64.wrap (2 + (N : Int)) = 2 + N := wrap_id (by omega) (by have := HN16.out; omega)
                  have m2 : (0 : Int) ≤ 2 + (N : Int) := by omega
                  have m3 : (2 : Int) ≤ 2 + (N : Int) := by omega
                  have m4 : 2 + (N : Int) ≤ c0 := by omega
                  have m5 : (2 : Int) ≤ c0 := by omega
                  have m6 : (2 + (N : Int)).toNat = 2 + N := by omega
                  have m7 : 2 + N - 2 = N := by omega
                  have m8 : 2 ≤ c0 := by omega
                  have m9 : 2 ≤ 2 + N := by omega
                  have HHI := Lib.hid (show 2 + (N : Int) = ((2 + N : Nat) : Int) from by omega)
                  by_cases hcl : c0 = 2
                  · have hN0 : N = 0 := by omega
                    subst hN0
                    have HROW := Lib.hid (show ∀ W, Below w.heap.size w W → Rd W (some ad) 0 ((l.drop 2).take 0) from fun W _ => by rw [List.take_zero]; exact Rd.empty _ _)
                    subst hcl
                    clear h9 m1 m2 m3 m4 m5 m6 m7 m8 m9
                    go_upto_region 39 with (fail)
                    go_wp2_with (at_builtin; refine app_row (lit_nil HJ.out.2.1) (HROW.out _ (below_alloc HJ.out.2.1 _)) (below_alloc HJ.out.2.1 _) (by have := HN16.out; simp only [List.length_nil]; omega) rfl rfl rfl rfl ?_)
                    intro v5 w5 ho5 hb5 hg5 hat5
                    have hfr := HJ.out.2.2.below (below_alloc (Below.refl _ _) (.cells #[] 5))
                    have hne0 : some g0 ≠ (Value.slice (some ⟨w'.heap.size, 0, none⟩) 0 0).ownBlock := fun e => by have e : g0 = w'.heap.size := Option.some.inj e; have := HJ.out.2.2.1.lt; omega
                    have hne1 : some g1 ≠ (Value.slice (some ⟨w'.heap.size, 0, none⟩) 0 0).ownBlock := fun e => by have e : g1 = w'.heap.size := Option.some.inj e; have := HJ.out.2.2.2.lt; omega
                    have ho5 := ho5.cast (show _ = ((l.drop 2).take 0) by simp)
                    skip
                    have hov : some g0 ≠ v5.ownBlock ∧ some g1 ≠ v5.ownBlock := ⟨ne_after hat5 hne0 (by have := HJ.out.2.2.1.lt; omega), ne_after hat5 hne1 (by have := HJ.out.2.2.2.lt; omega)⟩
                    obtain ⟨A5, c5, rfl, _, _⟩ := ho5.reads
                    rw [HDL.out] at ho5 hov ⊢
                    have HVN := Lib.hid hov
                    clear hov hat5
                    have H5 := Lib.hid (show Own w w5 (.slice A5 0 c5) ((l.drop 2).take 0) ∧ Below w.heap.size w w5 ∧ FrOwn w5 g0 g1 from ⟨ho5, hb5, hfr.1.grown hg5 hne0, hfr.2.grown hg5 hne1⟩)
                    clear ho5 hb5 hg5 hfr hne0 hne1
                    skip
                    go_wp2_with fail
                    go_loopw [150] (fun i wr => ∃ k : Nat, i = .int .i64 k ∧ k ≤ 0 ∧ w5 = wr) (fun i _ => 0 - (intOf i).toNat)
                    case atStart => exact ⟨0, rfl, by omega, rfl⟩
                    case round =>
                      obtain ⟨k, rfl, hk, rfl⟩ := hrel
                      by_cases hkn : k < 0
                      · omega
                      · obtain rfl : k = 0 := by omega
                        have dk : decide ((0 : Nat) < 0) = false := decide_eq_false (by omega)
                        go_wp2_with (refine gate_ (.store 26 (.tmp 4) (.tmp 171)) rfl ?_; refine store_whole rfl rfl rfl rfl rfl H5.out.2.2.1 rfl (by simp [Value.oneCell']) rfl (by kernel_rfl) ?_; intro w9 hk9 hb9 hf9 hg9)
                        refine bodyPost_ret (results_ctt rfl _ _ g0 _ _ _ _ rfl hk9 Tryd.underlying26 rfl (by kernel_rfl)) rfl ?_
                        exact ⟨⟨_, _, _⟩, _, 0, _, by first | (rw [← HHI.out]; rfl) | rfl, HV.out, H5.out.1.stay hg9 HVN.out.1, hb9 _ _ H5.out.2.1 HS.out.2.2.2.1⟩
                  · have HROW := Lib.hid (show ∀ W, Below w.heap.size w W → Rd W (some ⟨ad.block, ad.off + 2, none⟩) N ((l.drop 2).take N) from fun W hW => by
                      have hq := Rd.mid (x := ⟨ad.block, ad.off + 2, none⟩) (Kd.C_below HR0.out hW) 2 (2 + N) (by omega) (by omega) (fun _ => by show _ = (if 2 = 0 then _ else _); rw [if_neg (by omega)])
                      rwa [List.drop_take, show 2 + N - 2 = N by omega] at hq)
                    clear h9
                    go_upto_region 39 with (fail)
                    go_wp2_with (at_builtin; refine app_row (lit_nil HJ.out.2.1) (HROW.out _ (below_alloc HJ.out.2.1 _)) (below_alloc HJ.out.2.1 _) (by have := HN16.out; simp only [List.length_nil]; omega) rfl rfl rfl rfl ?_)
                    intro v5 w5 ho5 hb5 hg5 hat5
                    have hfr := HJ.out.2.2.below (below_alloc (Below.refl _ _) (.cells #[] 5))
                    have hne0 : some g0 ≠ (Value.slice (some ⟨w'.heap.size, 0, none⟩) 0 0).ownBlock := fun e => by have e : g0 = w'.heap.size := Option.some.inj e; have := HJ.out.2.2.1.lt; omega
                    have hne1 : some g1 ≠ (Value.slice (some ⟨w'.heap.size, 0, none⟩) 0 0).ownBlock := fun e => by have e : g1 = w'.heap.size := Option.some.inj e; have := HJ.out.2.2.2.lt; omega
                    have ho5 := ho5.cast (show _ = ((l.drop 2).take N) by simp)
                    skip
                    have hov : some g0 ≠ v5.ownBlock ∧ some g1 ≠ v5.ownBlock := ⟨ne_after hat5 hne0 (by have := HJ.out.2.2.1.lt; omega), ne_after hat5 hne1 (by have := HJ.out.2.2.2.lt; omega)⟩
                    obtain ⟨A5, c5, rfl, _, _⟩ := ho5.reads
                    rw [HDL.out] at ho5 hov ⊢
                    have HVN := Lib.hid hov
                    clear hov hat5
                    have H5 := Lib.hid (show Own w w5 (.slice A5 N c5) ((l.drop 2).take N) ∧ Below w.heap.size w w5 ∧ FrOwn w5 g0 g1 from ⟨ho5, hb5, hfr.1.grown hg5 hne0, hfr.2.grown hg5 hne1⟩)
                    clear ho5 hb5 hg5 hfr hne0 hne1
                    skip
                    go_wp2_with fail
                    go_loopw [150] (fun i wr => ∃ k : Nat, i = .int .i64 k ∧ k ≤ N ∧ w5 = wr) (fun i _ => N - (intOf i).toNat)
                    case atStart => exact ⟨0, rfl, by omega, rfl⟩
                    case round =>
                      obtain ⟨k, rfl, hk, rfl⟩ := hrel
                      by_cases hkn : k < N
                      · have dk : decide (k < N) = true := decide_eq_true hkn
                        have dk' : decide ((k : Int) < N) = true := decide_eq_true (by omega)
                        have wk : IntKind.i64.wrap ((k : Int) + 1) = k + 1 := wrap_id (by omega) (by have := HN16.out; omega)
                        go_wp2
                        go_roundw
                        case rel => exact ⟨k + 1, by go_num, by omega, by first | rfl | trivial⟩
                        case measure => simp [intOf]; omega
                      · obtain rfl : k = N := by omega
                        have dk : decide ((k : Nat) < k) = false := decide_eq_false (by omega)
                        go_wp2_with (refine gate_ (.store 26 (.tmp 4) (.tmp 171)) rfl ?_; refine store_whole rfl rfl rfl rfl rfl H5.out.2.2.1 rfl (by simp [Value.oneCell']) rfl (by kernel_rfl) ?_; intro w9 hk9 hb9 hf9 hg9)
                        refine bodyPost_ret (results_ctt rfl _ _ g0 _ _ _ _ rfl hk9 Tryd.underlying26 rfl (by kernel_rfl)) rfl ?_
                        exact ⟨⟨_, _, _⟩, _, 0, _, by first | (rw [← HHI.out]; rfl) | rfl, HV.out, H5.out.1.stay hg9 HVN.out.1, hb9 _ _ H5.out.2.1 HS.out.2.2.2.1⟩
                · have h5 : decide (125 < r) = true := decide_eq_true (by omega)
                  have HB2 := Lib.hid (show badS (rd l 0) (rd l 1) false = false by rw [HD.out.2.2.2, h8]; rfl)
                  have hr2 : r = 126 ∨ r = 127 := by have := HD.out; omega
                  rcases hr2 with rfl | rfl
                  · have hlr := lenR_2 (l := l) HD.out.1.symm
                    rw [HI.out.2.1] at hlr
                    by_cases hsh : n < 4
                    · have ds : decide ((n : Int) < 4) = true := decide_eq_true (by omega)
                      have HF := Lib.hid (rdF_why (mask := false) (show 2 ≤ l.length by rw [HI.out.2.1]; exact HN2.out) HB1.out HB2.out (show Len3 l 0 0 1 by unfold Len3; rw [hlr, if_pos hsh]) (by decide))
                      clear hlr hsh hs
                      have z0 := HJ.out.2.2.2.cell 0 _ rfl
                      have z1 := HJ.out.2.2.2.cell 1 _ rfl
                      have z2 := HJ.out.2.2.2.cell 2 _ rfl
                      go_wp2_with (refine gate_ (.store 26 (.tmp 4) (.tmp 85)) rfl ?_; refine store_whole rfl rfl rfl rfl rfl HJ.out.2.2.1 rfl (by simp [Value.oneCell']) rfl (by kernel_rfl) ?_; intro w9 hk9 hb9 hf9 hg9)
                      refine bodyPost_ret (results_ctt rfl _ _ g0 _ _ _ _ rfl hk9 Tryd.underlying26 rfl (by kernel_rfl)) rfl ?_
                      exact ⟨zeroF, 0, 1, .slice none 0 0, rfl, HF.out, Own.nil _ _, hb9 _ _ HJ.out.2.1 HS.out.2.2.2.1⟩
                    · have ds : decide ((n : Int) < 4) = false := decide_eq_false (by omega)
                      rw [if_neg hsh] at hlr
                      have HLR := Lib.hid hlr
                      have HSH := Lib.hid (show 4 ≤ n by omega)
                      clear hlr hsh hs
                      go_wp2_with fail
                      go_loopw [10, 96] (fun v i wr => ∃ (j : Nat) (y : Int), j ≤ 2 ∧ i = .int .i64 j ∧ v = .int .i64 y ∧ Hid (y = numL ((l.drop 2).take j)) ∧ w' = wr) (fun _ i _ => 2 - (intOf i).toNat)
                      case atStart => exact ⟨0, 0, by omega, rfl, rfl, Lib.hid rfl, rfl⟩
                      case round =>
                        obtain ⟨j, y, hj, rfl, rfl, HY, rfl⟩ := hrel
                        have hdl : (l.drop 2).length = n - 2 := by rw [List.length_drop, HI.out.2.1]
                        have hyr := numL_range (l.drop 2) (HI.out.1.dp 2) j (by have := HSH.out; omega)
                        rw [← HY.out] at hyr
                        by_cases hjm : j < 2
                        · have djm : decide (j < 2) = true := decide_eq_true hjm
                          have djm' : decide ((j : Int) < 2) = true := decide_eq_true (by omega)
                          have hst := numL_take (l.drop 2) j (by have := HSH.out; omega)
                          rw [← HY.out, rd_drop2] at hst
                          obtain ⟨b1, b2⟩ := bytes_rd HI.out.1 (2 + j) (by rw [HI.out.2.1]; have := HSH.out; omega)
                          obtain ⟨hx, hx'⟩ := Rd.lit2 HJ.out.1 (2 + j) (by omega) (by have := HSH.out; omega)
                          obtain ⟨x, hxe⟩ : ∃ x, x = rd l ((2 + j : Nat) : Int) := ⟨_, rfl⟩
                          rw [← hxe] at hx hx' b1 b2 hst
                          have hp := pow256n j (by omega)
                          obtain ⟨y0, y1'⟩ := hyr
                          have y1 : y < 256 := Int.lt_of_lt_of_le y1' (by rw [show (256 : Int) = ((256 ^ 1 : Nat) : Int) from rfl]; exact_mod_cast Nat.pow_le_pow_right (by decide) (by omega))
                          have HST := Lib.hid hst
                          have a1 : IntKind.i64.wrap (256 * y) = 256 * y := wrap_id (by omega) (by omega)
                          have a2 : IntKind.i64.wrap (256 * y + x) = 256 * y + x := wrap_id (by omega) (by omega)
                          have a3 : IntKind.i64.wrap x = x := wrap_id (by omega) (by omega)
                          have a4 : IntKind.i64.wrap (2 + (j : Int)) = 2 + j := wrap_id (by omega) (by omega)
                          have a5 : (0 : Int) ≤ 2 + (j : Int) := by omega
                          have a6 : 2 + (j : Int) < n := by have := HSH.out; omega
                          have a7 : (2 + (j : Int)).toNat = 2 + j := by omega
                          have a8 : IntKind.i64.wrap ((j : Int) + 1) = j + 1 := wrap_id (by omega) (by omega)
                          clear hst hxe hp y1' hdl
                          go_wp2
                          go_roundw
                          case rel => exact ⟨j + 1, 256 * y + x, by omega, by go_num, rfl, Lib.hid HST.out.symm, by first | rfl | trivial⟩
                          case measure => simp [intOf]; omega
                        · obtain rfl : j = 2 := by omega
                          have djm : decide (2 < 2) = false := rfl
                          rw [show ((256 ^ 2 : Nat) : Int) = 65536 from rfl] at hyr
                          have hlr := HLR.out
                          rw [← HY.out] at hlr
                          clear hdl djm
                          by_cases hl : y < 126
                          · have dl : decide (y < 126) = true := decide_eq_true hl
                            have HF := Lib.hid (rdF_why (mask := false) (show 2 ≤ l.length by rw [HI.out.2.1]; exact HN2.out) HB1.out HB2.out (show Len3 l 0 0 1002 by unfold Len3; rw [hlr, if_pos (by omega)]) (by decide))
                            clear hlr hl hyr
                            have z0 := HJ.out.2.2.2.cell 0 _ rfl
                            have z1 := HJ.out.2.2.2.cell 1 _ rfl
                            have z2 := HJ.out.2.2.2.cell 2 _ rfl
                            go_wp2_with (refine gate_ (.store 26 (.tmp 4) (.tmp 112)) rfl ?_; refine store_whole rfl rfl rfl rfl rfl HJ.out.2.2.1 rfl (by simp [Value.oneCell']) rfl (by kernel_rfl) ?_; intro w9 hk9 hb9 hf9 hg9)
                            refine bodyPost_ret (results_ctt rfl _ _ g0 _ _ _ _ rfl hk9 Tryd.underlying26 rfl (by kernel_rfl)) rfl ?_
                            exact ⟨zeroF, 0, 1002, .slice none 0 0, rfl, HF.out, Own.nil _ _, hb9 _ _ HJ.out.2.1 HS.out.2.2.2.1⟩
                          · have dl : decide (y < 126) = false := decide_eq_false hl
                            by_cases hg : 16384 < y
                            · have dg : decide (16384 < y) = true := decide_eq_true hg
                              have HF := Lib.hid (rdF_why (mask := false) (show 2 ≤ l.length by rw [HI.out.2.1]; exact HN2.out) HB1.out HB2.out (show Len3 l 0 0 1009 by unfold Len3; rw [hlr, if_neg (by omega), if_pos hg]) (by decide))
                              clear hlr hl hg hyr
                              have z0 := HJ.out.2.2.2.cell 0 _ rfl
                              have z1 := HJ.out.2.2.2.cell 1 _ rfl
                              have z2 := HJ.out.2.2.2.cell 2 _ rfl
                              go_wp2_with (refine gate_ (.store 26 (.tmp 4) (.tmp 115)) rfl ?_; refine store_whole rfl rfl rfl rfl rfl HJ.out.2.2.1 rfl (by simp [Value.oneCell']) rfl (by kernel_rfl) ?_; intro w9 hk9 hb9 hf9 hg9)
                              refine bodyPost_ret (results_ctt rfl _ _ g0 _ _ _ _ rfl hk9 Tryd.underlying26 rfl (by kernel_rfl)) rfl ?_
                              exact ⟨zeroF, 0, 1009, .slice none 0 0, rfl, HF.out, Own.nil _ _, hb9 _ _ HJ.out.2.1 HS.out.2.2.2.1⟩
                            · have dg : decide (16384 < y) = false := decide_eq_false hg
                              obtain ⟨N, hN⟩ : ∃ N : Nat, y = N := ⟨y.toNat, by omega⟩
                              have HF := Lib.hid (show rdF l false = bodyR l false N 4 from rdF_body (show 2 ≤ l.length by rw [HI.out.2.1]; exact HN2.out) HB1.out HB2.out (show Len3 l N 4 0 by unfold Len3; rw [hlr, if_neg (by omega), if_neg hg, hN]))
                              have HN16 := Lib.hid (show N ≤ 16384 by omega)
                              have HNG := Lib.hid (show 126 ≤ N by omega)
                              clear HY HLR
                              subst hN
                              clear hlr hl hg hyr hjm hj
                              have d8w : IntKind.i64.wrap ((n : Int) - 4) = (n : Int) - 4 := wrap_id (by have := HSH.out; omega) (by have := HI.out; omega)
                              by_cases h9 : n < 4 + N
                              · have d9 : decide ((n : Int) - 4 < N) = true := decide_eq_true (by omega)
                                have HV := Lib.hid (show rdF l false = (zeroF, 0, 1) by rw [HF.out]; unfold bodyR; rw [if_neg (by decide), HI.out.2.1, if_pos (by omega)])
                                clear h9
                                have z0 := HJ.out.2.2.2.cell 0 _ rfl
                                have z1 := HJ.out.2.2.2.cell 1 _ rfl
                                have z2 := HJ.out.2.2.2.cell 2 _ rfl
                                go_wp2_with (refine gate_ (.store 26 (.tmp 4) (.tmp 139)) rfl ?_; refine store_whole rfl rfl rfl rfl rfl HJ.out.2.2.1 rfl (by simp [Value.oneCell']) rfl (by kernel_rfl) ?_; intro w9 hk9 hb9 hf9 hg9)
                                refine bodyPost_ret (results_ctt rfl _ _ g0 _ _ _ _ rfl hk9 Tryd.underlying26 rfl (by kernel_rfl)) rfl ?_
                                exact ⟨zeroF, 0, 1, .slice none 0 0, rfl, HV.out, Own.nil _ _, hb9 _ _ HJ.out.2.1 HS.out.2.2.2.1⟩
                              have d9 : decide ((n : Int) - 4 < N) = false := decide_eq_false (by omega)
                              have HV := Lib.hid (show rdF l false = (⟨fin, o, ((l.drop 4).take N)⟩, ((4 + N : Nat) : Int), 0) by rw [HF.out]; unfold bodyR; rw [if_neg (by decide), HI.out.2.1, if_neg (by omega), ← HOE.out, ← HC.out.1, HFI.out])
                              have hdl : (((l.drop 4).take N)).length = N := by rw [List.length_take, List.length_drop, HI.out.2.1]; omega
                              have HDL := Lib.hid hdl
                              clear hdl
                              have m1 : IntKind.i64.wrap (4 + (N : Int)) = 4 + N := wrap_id (by omega) (by have := HN16.out; omega)
                              have m2 : (0 : Int) ≤ 4 + (N : Int) := by omega
                              have m3 : (4 : Int) ≤ 4 + (N : Int) := by omega
                              have m4 : 4 + (N : Int) ≤ c0 := by omega
                              have m5 : (4 : Int) ≤ c0 := by omega
                              have m6 : (4 + (N : Int)).toNat = 4 + N := by omega
                              have m7 : 4 + N - 4 = N := by omega
                              have m8 : 4 ≤ c0 := by omega
                              have m9 : 4 ≤ 4 + N := by omega
                              have HHI := Lib.hid (show 4 + (N : Int) = ((4 + N : Nat) : Int) from by omega)
                              by_cases hcl : c0 = 4
                              · exfalso
                                have := HNG.out
                                omega
                              · have HROW := Lib.hid (show ∀ W, Below w.heap.size w W → Rd W (some ⟨ad.block, ad.off + 4, none⟩) N ((l.drop 4).take N) from fun W hW => by
                                  have hq := Rd.mid (x := ⟨ad.block, ad.off + 4, none⟩) (Kd.C_below HR0.out hW) 4 (4 + N) (by omega) (by omega) (fun _ => by show _ = (if 4 = 0 then _ else _); rw [if_neg (by omega)])
                                  rwa [List.drop_take, show 4 + N - 4 = N by omega] at hq)
                                clear h9
                                go_upto_region 39 with (fail)
                                go_wp2_with (at_builtin; refine app_row (lit_nil HJ.out.2.1) (HROW.out _ (below_alloc HJ.out.2.1 _)) (below_alloc HJ.out.2.1 _) (by have := HN16.out; simp only [List.length_nil]; omega) rfl rfl rfl rfl ?_)
                                intro v5 w5 ho5 hb5 hg5 hat5
                                have hfr := HJ.out.2.2.below (below_alloc (Below.refl _ _) (.cells #[] 5))
                                have hne0 : some g0 ≠ (Value.slice (some ⟨w'.heap.size, 0, none⟩) 0 0).ownBlock := fun e => by have e : g0 = w'.heap.size := Option.some.inj e; have := HJ.out.2.2.1.lt; omega
                                have hne1 : some g1 ≠ (Value.slice (some ⟨w'.heap.size, 0, none⟩) 0 0).ownBlock := fun e => by have e : g1 = w'.heap.size := Option.some.inj e; have := HJ.out.2.2.2.lt; omega
                                have ho5 := ho5.cast (show _ = ((l.drop 4).take N) by simp)
                                skip
                                have hov : some g0 ≠ v5.ownBlock ∧ some g1 ≠ v5.ownBlock := ⟨ne_after hat5 hne0 (by have := HJ.out.2.2.1.lt; omega), ne_after hat5 hne1 (by have := HJ.out.2.2.2.lt; omega)⟩
                                obtain ⟨A5, c5, rfl, _, _⟩ := ho5.reads
                                rw [HDL.out] at ho5 hov ⊢
                                have HVN := Lib.hid hov
                                clear hov hat5
                                have H5 := Lib.hid (show Own w w5 (.slice A5 N c5) ((l.drop 4).take N) ∧ Below w.heap.size w w5 ∧ FrOwn w5 g0 g1 from ⟨ho5, hb5, hfr.1.grown hg5 hne0, hfr.2.grown hg5 hne1⟩)
                                clear ho5 hb5 hg5 hfr hne0 hne1
                                skip
                                go_wp2_with fail
                                go_loopw [150] (fun i wr => ∃ k : Nat, i = .int .i64 k ∧ k ≤ N ∧ w5 = wr) (fun i _ => N - (intOf i).toNat)
                                case atStart => exact ⟨0, rfl, by omega, rfl⟩
                                case round =>
                                  obtain ⟨k, rfl, hk, rfl⟩ := hrel
                                  by_cases hkn : k < N
                                  · have dk : decide (k < N) = true := decide_eq_true hkn
                                    have dk' : decide ((k : Int) < N) = true := decide_eq_true (by omega)
                                    have wk : IntKind.i64.wrap ((k : Int) + 1) = k + 1 := wrap_id (by omega) (by have := HN16.out; omega)
                                    go_wp2
                                    go_roundw
                                    case rel => exact ⟨k + 1, by go_num, by omega, by first | rfl | trivial⟩
                                    case measure => simp [intOf]; omega
                                  · obtain rfl : k = N := by omega
                                    have dk : decide ((k : Nat) < k) = false := decide_eq_false (by omega)
                                    go_wp2_with (refine gate_ (.store 26 (.tmp 4) (.tmp 171)) rfl ?_; refine store_whole rfl rfl rfl rfl rfl H5.out.2.2.1 rfl (by simp [Value.oneCell']) rfl (by kernel_rfl) ?_; intro w9 hk9 hb9 hf9 hg9)
                                    refine bodyPost_ret (results_ctt rfl _ _ g0 _ _ _ _ rfl hk9 Tryd.underlying26 rfl (by kernel_rfl)) rfl ?_
                                    exact ⟨⟨_, _, _⟩, _, 0, _, by first | (rw [← HHI.out]; rfl) | rfl, HV.out, H5.out.1.stay hg9 HVN.out.1, hb9 _ _ H5.out.2.1 HS.out.2.2.2.1⟩
                  · have hlr := lenR_8 (l := l) HD.out.1.symm
                    rw [HI.out.2.1] at hlr
                    by_cases hsh : n < 10
                    · have ds : decide ((n : Int) < 10) = true := decide_eq_true (by omega)
                      have HF := Lib.hid (rdF_why (mask := false) (show 2 ≤ l.length by rw [HI.out.2.1]; exact HN2.out) HB1.out HB2.out (show Len3 l 0 0 1 by unfold Len3; rw [hlr, if_pos hsh]) (by decide))
                      clear hlr hsh hs
                      have z0 := HJ.out.2.2.2.cell 0 _ rfl
                      have z1 := HJ.out.2.2.2.cell 1 _ rfl
                      have z2 := HJ.out.2.2.2.cell 2 _ rfl
                      go_wp2_with (refine gate_ (.store 26 (.tmp 4) (.tmp 85)) rfl ?_; refine store_whole rfl rfl rfl rfl rfl HJ.out.2.2.1 rfl (by simp [Value.oneCell']) rfl (by kernel_rfl) ?_; intro w9 hk9 hb9 hf9 hg9)
                      refine bodyPost_ret (results_ctt rfl _ _ g0 _ _ _ _ rfl hk9 Tryd.underlying26 rfl (by kernel_rfl)) rfl ?_
                      exact ⟨zeroF, 0, 1, .slice none 0 0, rfl, HF.out, Own.nil _ _, hb9 _ _ HJ.out.2.1 HS.out.2.2.2.1⟩
                    · have ds : decide ((n : Int) < 10) = false := decide_eq_false (by omega)
                      rw [if_neg hsh] at hlr
                      have x2 : w'.cell? ⟨ad.block, ad.off + 2, none⟩ = some (.int .u8 (rd l 2)) := (Rd.lit2 HJ.out.1 2 (by decide) (by omega)).1
                      have i2 : (2 : Int) < n := by omega
                      have n2 : 2 < n := by omega
                      obtain ⟨hi, hhi⟩ : ∃ h, h = rd l 2 := ⟨_, rfl⟩
                      rw [← hhi] at x2 hlr
                      have HHI := Lib.hid hhi
                      clear hhi
                      by_cases hh : 128 ≤ hi
                      · have dh : decide (128 ≤ hi) = true := decide_eq_true hh
                        have HF := Lib.hid (rdF_why (mask := false) (show 2 ≤ l.length by rw [HI.out.2.1]; exact HN2.out) HB1.out HB2.out (show Len3 l 0 0 1002 by unfold Len3; rw [hlr, if_pos (.inl hh)]) (by decide))
                        clear hlr hsh hs hh
                        have z0 := HJ.out.2.2.2.cell 0 _ rfl
                        have z1 := HJ.out.2.2.2.cell 1 _ rfl
                        have z2 := HJ.out.2.2.2.cell 2 _ rfl
                        go_wp2_with (refine gate_ (.store 26 (.tmp 4) (.tmp 94)) rfl ?_; refine store_whole rfl rfl rfl rfl rfl HJ.out.2.2.1 rfl (by simp [Value.oneCell']) rfl (by kernel_rfl) ?_; intro w9 hk9 hb9 hf9 hg9)
                        refine bodyPost_ret (results_ctt rfl _ _ g0 _ _ _ _ rfl hk9 Tryd.underlying26 rfl (by kernel_rfl)) rfl ?_
                        exact ⟨zeroF, 0, 1002, .slice none 0 0, rfl, HF.out, Own.nil _ _, hb9 _ _ HJ.out.2.1 HS.out.2.2.2.1⟩
                      · have dh : decide (128 ≤ hi) = false := decide_eq_false hh
                        have HLR := Lib.hid hlr
                        have HSH := Lib.hid (show 10 ≤ n by omega)
                        clear hlr hsh hs
                        go_wp2_with fail
                        go_loopw [10, 96] (fun v i wr => ∃ (j : Nat) (y : Int), j ≤ 8 ∧ i = .int .i64 j ∧ v = .int .i64 y ∧ Hid (y = numL ((l.drop 2).take j)) ∧ w' = wr) (fun _ i _ => 8 - (intOf i).toNat)
                        case atStart => exact ⟨0, 0, by omega, rfl, rfl, Lib.hid rfl, rfl⟩
                        case round =>
                          obtain ⟨j, y, hj, rfl, rfl, HY, rfl⟩ := hrel
                          have hdl : (l.drop 2).length = n - 2 := by rw [List.length_drop, HI.out.2.1]
                          have hyr := numL_range (l.drop 2) (HI.out.1.dp 2) j (by have := HSH.out; omega)
                          rw [← HY.out] at hyr
                          by_cases hjm : j < 8
                          · have djm : decide (j < 8) = true := decide_eq_true hjm
                            have djm' : decide ((j : Int) < 8) = true := decide_eq_true (by omega)
                            have hst := numL_take (l.drop 2) j (by have := HSH.out; omega)
                            rw [← HY.out, rd_drop2] at hst
                            obtain ⟨b1, b2⟩ := bytes_rd HI.out.1 (2 + j) (by rw [HI.out.2.1]; have := HSH.out; omega)
                            obtain ⟨hx, hx'⟩ := Rd.lit2 HJ.out.1 (2 + j) (by omega) (by have := HSH.out; omega)
                            obtain ⟨x, hxe⟩ : ∃ x, x = rd l ((2 + j : Nat) : Int) := ⟨_, rfl⟩
                            rw [← hxe] at hx hx' b1 b2 hst
                            have hp := pow256n j (by omega)
                            obtain ⟨y0, y1'⟩ := hyr
                            have y1 : y < 72057594037927936 := Int.lt_of_lt_of_le y1' hp
                            have y2 : y < 9223372036854775808 / 256 := by
                              rcases Nat.lt_or_ge j 7 with h7 | h7
                              · have h6 : ((256 ^ j : Nat) : Int) ≤ ((256 ^ 6 : Nat) : Int) := by exact_mod_cast Nat.pow_le_pow_right (by decide) (by omega)
                                have h66 : ((256 ^ 6 : Nat) : Int) = 281474976710656 := rfl
                                omega
                              · obtain rfl : j = 7 := by omega
                                have hh7 := numL_high (l.drop 2) (HI.out.1.dp 2) 6 (by have := HSH.out; omega)
                                rw [← HY.out, show rd (l.drop 2) 0 = rd l 2 from rd_drop2 l 0, ← HHI.out] at hh7
                                have h66 : ((256 ^ 6 : Nat) : Int) = 281474976710656 := rfl
                                rw [h66] at hh7
                                omega
                            have HST := Lib.hid hst
                            have a1 : IntKind.i64.wrap (256 * y) = 256 * y := wrap_id (by omega) (by omega)
                            have a2 : IntKind.i64.wrap (256 * y + x) = 256 * y + x := wrap_id (by omega) (by omega)
                            have a3 : IntKind.i64.wrap x = x := wrap_id (by omega) (by omega)
                            have a4 : IntKind.i64.wrap (2 + (j : Int)) = 2 + j := wrap_id (by omega) (by omega)
                            have a5 : (0 : Int) ≤ 2 + (j : Int) := by omega
                            have a6 : 2 + (j : Int) < n := by have := HSH.out; omega
                            have a7 : (2 + (j : Int)).toNat = 2 + j := by omega
                            have a8 : IntKind.i64.wrap ((j : Int) + 1) = j + 1 := wrap_id (by omega) (by omega)
                            clear hst hxe hp y1' hdl
                            go_wp2
                            go_roundw
                            case rel => exact ⟨j + 1, 256 * y + x, by omega, by go_num, rfl, Lib.hid HST.out.symm, by first | rfl | trivial⟩
                            case measure => simp [intOf]; omega
                          · obtain rfl : j = 8 := by omega
                            have djm : decide (8 < 8) = false := rfl
                            rw [show ((256 ^ 8 : Nat) : Int) = 18446744073709551616 from rfl] at hyr
                            have hlr := HLR.out
                            rw [← HY.out] at hlr
                            clear hdl djm
                            have hh7 := numL_high (l.drop 2) (HI.out.1.dp 2) 7 (by rw [List.length_drop, HI.out.2.1]; have := HSH.out; omega)
                            rw [← HY.out, show rd (l.drop 2) 0 = rd l 2 from rd_drop2 l 0, ← HHI.out, show ((256 ^ 7 : Nat) : Int) = 72057594037927936 from rfl] at hh7
                            by_cases hl : y < 65536
                            · have dl : decide (y < 65536) = true := decide_eq_true hl
                              have HF := Lib.hid (rdF_why (mask := false) (show 2 ≤ l.length by rw [HI.out.2.1]; exact HN2.out) HB1.out HB2.out (show Len3 l 0 0 1002 by unfold Len3; rw [hlr, if_pos (.inr (by omega))]) (by decide))
                              clear hlr hl hh7 hyr
                              have z0 := HJ.out.2.2.2.cell 0 _ rfl
                              have z1 := HJ.out.2.2.2.cell 1 _ rfl
                              have z2 := HJ.out.2.2.2.cell 2 _ rfl
                              go_wp2_with (refine gate_ (.store 26 (.tmp 4) (.tmp 112)) rfl ?_; refine store_whole rfl rfl rfl rfl rfl HJ.out.2.2.1 rfl (by simp [Value.oneCell']) rfl (by kernel_rfl) ?_; intro w9 hk9 hb9 hf9 hg9)
                              refine bodyPost_ret (results_ctt rfl _ _ g0 _ _ _ _ rfl hk9 Tryd.underlying26 rfl (by kernel_rfl)) rfl ?_
                              exact ⟨zeroF, 0, 1002, .slice none 0 0, rfl, HF.out, Own.nil _ _, hb9 _ _ HJ.out.2.1 HS.out.2.2.2.1⟩
                            · have dl : decide (y < 65536) = false := decide_eq_false hl
                              have dg : decide (16384 < y) = true := decide_eq_true (by omega)
                              have HF := Lib.hid (rdF_why (mask := false) (show 2 ≤ l.length by rw [HI.out.2.1]; exact HN2.out) HB1.out HB2.out (show Len3 l 0 0 1009 by unfold Len3; rw [hlr, if_neg (by omega)]) (by decide))
                              clear hlr hl hh7 hyr
                              have z0 := HJ.out.2.2.2.cell 0 _ rfl
                              have z1 := HJ.out.2.2.2.cell 1 _ rfl
                              have z2 := HJ.out.2.2.2.cell 2 _ rfl
                              go_wp2_with (refine gate_ (.store 26 (.tmp 4) (.tmp 115)) rfl ?_; refine store_whole rfl rfl rfl rfl rfl HJ.out.2.2.1 rfl (by simp [Value.oneCell']) rfl (by kernel_rfl) ?_; intro w9 hk9 hb9 hf9 hg9)
                              refine bodyPost_ret (results_ctt rfl _ _ g0 _ _ _ _ rfl hk9 Tryd.underlying26 rfl (by kernel_rfl)) rfl ?_
                              exact ⟨zeroF, 0, 1009, .slice none 0 0, rfl, HF.out, Own.nil _ _, hb9 _ _ HJ.out.2.1 HS.out.2.2.2.1⟩
              | true =>
                have HF := Lib.hid (rdF_second (mask := false) (show 2 ≤ l.length by rw [HI.out.2.1]; exact HN2.out) HB1.out (by rw [HD.out.2.2.2]; rfl))
                have z0 := HJ.out.2.2.2.cell 0 _ rfl
                have z1 := HJ.out.2.2.2.cell 1 _ rfl
                have z2 := HJ.out.2.2.2.cell 2 _ rfl
                go_wp2_with (refine gate_ (.store 26 (.tmp 4) (.tmp 75)) rfl ?_; refine store_whole rfl rfl rfl rfl rfl HJ.out.2.2.1 rfl (by simp [Value.oneCell']) rfl (by kernel_rfl) ?_; intro w9 hk9 hb9 hf9 hg9)
                refine bodyPost_ret (results_ctt rfl _ _ g0 _ _ _ _ rfl hk9 Tryd.underlying26 rfl (by kernel_rfl)) rfl ?_
                exact ⟨zeroF, 0, 1002, .slice none 0 0, rfl, HF.out, Own.nil _ _, hb9 _ _ HJ.out.2.1 HS.out.2.2.2.1⟩
            | true =>
              cases e with
              | false =>
                have HF := Lib.hid (rdF_second (mask := true) (show 2 ≤ l.length by rw [HI.out.2.1]; exact HN2.out) HB1.out (by rw [HD.out.2.2.2]; rfl))
                have z0 := HJ.out.2.2.2.cell 0 _ rfl
                have z1 := HJ.out.2.2.2.cell 1 _ rfl
                have z2 := HJ.out.2.2.2.cell 2 _ rfl
                go_wp2_with (refine gate_ (.store 26 (.tmp 4) (.tmp 75)) rfl ?_; refine store_whole rfl rfl rfl rfl rfl HJ.out.2.2.1 rfl (by simp [Value.oneCell']) rfl (by kernel_rfl) ?_; intro w9 hk9 hb9 hf9 hg9)
                refine bodyPost_ret (results_ctt rfl _ _ g0 _ _ _ _ rfl hk9 Tryd.underlying26 rfl (by kernel_rfl)) rfl ?_
                exact ⟨zeroF, 0, 1002, .slice none 0 0, rfl, HF.out, Own.nil _ _, hb9 _ _ HJ.out.2.1 HS.out.2.2.2.1⟩
              | true =>
                by_cases hs : r ≤ 125
                · have h5 : decide (125 < r) = false := decide_eq_false (by omega)
                  have HB2 := Lib.hid (show badS (rd l 0) (rd l 1) true = false by rw [HD.out.2.2.2, h8]; rfl)
                  obtain ⟨N, hN⟩ : ∃ N : Nat, r = N := ⟨r.toNat, by have := HD.out; omega⟩
                  have HF := Lib.hid (show rdF l true = bodyR l true N 2 from rdF_body (show 2 ≤ l.length by rw [HI.out.2.1]; exact HN2.out) HB1.out HB2.out (show Len3 l N 2 0 by unfold Len3; rw [← hN, HD.out.1]; exact lenR_s (by rw [← HD.out.1]; exact hs)))
                  have hN16 : N ≤ 16384 := by omega
                  have HN16 := Lib.hid hN16
                  subst hN
                  clear hs hN16
                  by_cases h7 : n < 6
                  · have d7 : decide ((n : Int) < 6) = true := decide_eq_true (by omega)
                    have HV := Lib.hid (show rdF l true = (zeroF, 0, 1) by rw [HF.out]; unfold bodyR; rw [if_pos rfl, HI.out.2.1, if_pos (by omega)])
                    clear h7
                    have z0 := HJ.out.2.2.2.cell 0 _ rfl
                    have z1 := HJ.out.2.2.2.cell 1 _ rfl
                    have z2 := HJ.out.2.2.2.cell 2 _ rfl
                    go_wp2_with (refine gate_ (.store 26 (.tmp 4) (.tmp 125)) rfl ?_; refine store_whole rfl rfl rfl rfl rfl HJ.out.2.2.1 rfl (by simp [Value.oneCell']) rfl (by kernel_rfl) ?_; intro w9 hk9 hb9 hf9 hg9)
                    refine bodyPost_ret (results_ctt rfl _ _ g0 _ _ _ _ rfl hk9 Tryd.underlying26 rfl (by kernel_rfl)) rfl ?_
                    exact ⟨zeroF, 0, 1, .slice none 0 0, rfl, HV.out, Own.nil _ _, hb9 _ _ HJ.out.2.1 HS.out.2.2.2.1⟩
                  have d7 : decide ((n : Int) < 6) = false := decide_eq_false (by omega)
                  have k1 : (2 : Int) ≤ c0 := by omega
                  have k2 : (6 : Int) ≤ c0 := by omega
                  have k3 : ¬ c0 = 2 := by omega
                  have k4 : 2 ≤ c0 := by omega
                  have k5 : 6 ≤ c0 := by omega
                  have d8w : IntKind.i64.wrap ((n : Int) - 6) = (n : Int) - 6 := wrap_id (by omega) (by have := HI.out; omega)
                  by_cases h9 : n < 6 + N
                  · have d9 : decide ((n : Int) - 6 < N) = true := decide_eq_true (by omega)
                    have HV := Lib.hid (show rdF l true = (zeroF, 0, 1) by rw [HF.out]; unfold bodyR; rw [if_pos rfl, HI.out.2.1, if_pos (by omega)])
                    clear h9
                    have z0 := HJ.out.2.2.2.cell 0 _ rfl
                    have z1 := HJ.out.2.2.2.cell 1 _ rfl
                    have z2 := HJ.out.2.2.2.cell 2 _ rfl
                    go_wp2_with (refine gate_ (.store 26 (.tmp 4) (.tmp 139)) rfl ?_; refine store_whole rfl rfl rfl rfl rfl HJ.out.2.2.1 rfl (by simp [Value.oneCell']) rfl (by kernel_rfl) ?_; intro w9 hk9 hb9 hf9 hg9)
                    refine bodyPost_ret (results_ctt rfl _ _ g0 _ _ _ _ rfl hk9 Tryd.underlying26 rfl (by kernel_rfl)) rfl ?_
                    exact ⟨zeroF, 0, 1, .slice none 0 0, rfl, HV.out, Own.nil _ _, hb9 _ _ HJ.out.2.1 HS.out.2.2.2.1⟩
                  have d9 : decide ((n : Int) - 6 < N) = false := decide_eq_false (by omega)
                  have HV := Lib.hid (show rdF l true = (⟨fin, o, maskL ((l.drop 2).take 4) ((l.drop 6).take N)⟩, ((6 + N : Nat) : Int), 0) by rw [HF.out]; unfold bodyR; rw [if_pos rfl, HI.out.2.1, if_neg (by omega), ← HOE.out, ← HC.out.1, HFI.out])
                  have hdl : (((l.drop 6).take N)).length = N := by rw [List.length_take, List.length_drop, HI.out.2.1]; omega
                  have HDL := Lib.hid hdl
                  clear hdl
                  have HKY := Lib.hid (show ∀ W, Below w.heap.size w W → Rd W (some ⟨ad.block, ad.off + 2, none⟩) 4 ((l.drop 2).take 4) from fun W hW => by
                    have hq := Rd.mid (x := ⟨ad.block, ad.off + 2, none⟩) (Kd.C_below HR0.out hW) 2 6 (by omega) (by omega) (fun _ => by show _ = (if 2 = 0 then _ else _); rw [if_neg (by omega)])
                    rwa [List.drop_take] at hq)
                  have m1 : IntKind.i64.wrap (6 + (N : Int)) = 6 + N := wrap_id (by omega) (by have := HN16.out; omega)
                  have m2 : (0 : Int) ≤ 6 + (N : Int) := by omega
                  have m3 : (6 : Int) ≤ 6 + (N : Int) := by omega
                  have m4 : 6 + (N : Int) ≤ c0 := by omega
                  have m5 : (6 : Int) ≤ c0 := by omega
                  have m6 : (6 + (N : Int)).toNat = 6 + N := by omega
                  have m7 : 6 + N - 6 = N := by omega
                  have m8 : 6 ≤ c0 := by omega
                  have m9 : 6 ≤ 6 + N := by omega
                  have HHI := Lib.hid (show 6 + (N : Int) = ((6 + N : Nat) : Int) from by omega)
                  by_cases hcl : c0 = 6
                  · have hN0 : N = 0 := by omega
                    subst hN0
                    have HROW := Lib.hid (show ∀ W, Below w.heap.size w W → Rd W (some ad) 0 ((l.drop 6).take 0) from fun W _ => by rw [List.take_zero]; exact Rd.empty _ _)
                    subst hcl
                    clear h9 m1 m2 m3 m4 m5 m6 m7 m8 m9
                    go_upto_region 39 with (fail)
                    go_wp2_with (at_builtin; refine app_row (lit_nil HJ.out.2.1) (HROW.out _ (below_alloc HJ.out.2.1 _)) (below_alloc HJ.out.2.1 _) (by have := HN16.out; simp only [List.length_nil]; omega) rfl rfl rfl rfl ?_)
                    intro v5 w5 ho5 hb5 hg5 hat5
                    have hfr := HJ.out.2.2.below (below_alloc (Below.refl _ _) (.cells #[] 5))
                    have hne0 : some g0 ≠ (Value.slice (some ⟨w'.heap.size, 0, none⟩) 0 0).ownBlock := fun e => by have e : g0 = w'.heap.size := Option.some.inj e; have := HJ.out.2.2.1.lt; omega
                    have hne1 : some g1 ≠ (Value.slice (some ⟨w'.heap.size, 0, none⟩) 0 0).ownBlock := fun e => by have e : g1 = w'.heap.size := Option.some.inj e; have := HJ.out.2.2.2.lt; omega
                    have ho5 := ho5.cast (show _ = ((l.drop 6).take 0) by simp)
                    skip
                    have hov : some g0 ≠ v5.ownBlock ∧ some g1 ≠ v5.ownBlock := ⟨ne_after hat5 hne0 (by have := HJ.out.2.2.1.lt; omega), ne_after hat5 hne1 (by have := HJ.out.2.2.2.lt; omega)⟩
                    obtain ⟨A5, c5, rfl, _, _⟩ := ho5.reads
                    rw [HDL.out] at ho5 hov ⊢
                    have HVN := Lib.hid hov
                    clear hov hat5
                    have H5 := Lib.hid (show Own w w5 (.slice A5 0 c5) ((l.drop 6).take 0) ∧ Below w.heap.size w w5 ∧ FrOwn w5 g0 g1 from ⟨ho5, hb5, hfr.1.grown hg5 hne0, hfr.2.grown hg5 hne1⟩)
                    clear ho5 hb5 hg5 hfr hne0 hne1
                    skip
                    have HA0 := Lib.hid (show Own w w5 (.slice A5 0 c5) (maskUp ((l.drop 2).take 4) ((l.drop 6).take 0) 0) ∧ Below w.heap.size w w5 ∧ FrOwn w5 g0 g1 from ⟨by rw [maskUp_zero]; exact H5.out.1, H5.out.2⟩)
                    go_wp2_with fail
                    go_loopw [150] (fun i wr => ∃ k : Nat, i = .int .i64 k ∧ k ≤ 0 ∧ Hid (Own w wr (.slice A5 0 c5) (maskUp ((l.drop 2).take 4) ((l.drop 6).take 0) k) ∧ Below w.heap.size w wr ∧ FrOwn wr g0 g1)) (fun i _ => 0 - (intOf i).toNat)
                    case atStart => exact ⟨0, rfl, by omega, HA0⟩
                    case round =>
                      obtain ⟨k, rfl, hk, HA⟩ := hrel
                      by_cases hkn : k < 0
                      · omega
                      · obtain rfl : k = 0 := by omega
                        have dk : decide ((0 : Nat) < 0) = false := decide_eq_false (by omega)
                        have hfin := HA.out.1
                        rw [show maskUp ((l.drop 2).take 4) ((l.drop 6).take 0) 0 = maskL ((l.drop 2).take 4) ((l.drop 6).take 0) by have h := maskUp_all ((l.drop 2).take 4) ((l.drop 6).take 0); rw [HDL.out] at h; exact h] at hfin
                        go_wp2_with (refine gate_ (.store 26 (.tmp 4) (.tmp 171)) rfl ?_; refine store_whole rfl rfl rfl rfl rfl HA.out.2.2.1 rfl (by simp [Value.oneCell']) rfl (by kernel_rfl) ?_; intro w9 hk9 hb9 hf9 hg9)
                        refine bodyPost_ret (results_ctt rfl _ _ g0 _ _ _ _ rfl hk9 Tryd.underlying26 rfl (by kernel_rfl)) rfl ?_
                        exact ⟨⟨_, _, _⟩, _, 0, _, by first | (rw [← HHI.out]; rfl) | rfl, HV.out, hfin.stay hg9 HVN.out.1, hb9 _ _ HA.out.2.1 HS.out.2.2.2.1⟩
                  · have HROW := Lib.hid (show ∀ W, Below w.heap.size w W → Rd W (some ⟨ad.block, ad.off + 6, none⟩) N ((l.drop 6).take N) from fun W hW => by
                      have hq := Rd.mid (x := ⟨ad.block, ad.off + 6, none⟩) (Kd.C_below HR0.out hW) 6 (6 + N) (by omega) (by omega) (fun _ => by show _ = (if 6 = 0 then _ else _); rw [if_neg (by omega)])
                      rwa [List.drop_take, show 6 + N - 6 = N by omega] at hq)
                    clear h9
                    go_upto_region 39 with (fail)
                    go_wp2_with (at_builtin; refine app_row (lit_nil HJ.out.2.1) (HROW.out _ (below_alloc HJ.out.2.1 _)) (below_alloc HJ.out.2.1 _) (by have := HN16.out; simp only [List.length_nil]; omega) rfl rfl rfl rfl ?_)
                    intro v5 w5 ho5 hb5 hg5 hat5
                    have hfr := HJ.out.2.2.below (below_alloc (Below.refl _ _) (.cells #[] 5))
                    have hne0 : some g0 ≠ (Value.slice (some ⟨w'.heap.size, 0, none⟩) 0 0).ownBlock := fun e => by have e : g0 = w'.heap.size := Option.some.inj e; have := HJ.out.2.2.1.lt; omega
                    have hne1 : some g1 ≠ (Value.slice (some ⟨w'.heap.size, 0, none⟩) 0 0).ownBlock := fun e => by have e : g1 = w'.heap.size := Option.some.inj e; have := HJ.out.2.2.2.lt; omega
                    have ho5 := ho5.cast (show _ = ((l.drop 6).take N) by simp)
                    skip
                    have hov : some g0 ≠ v5.ownBlock ∧ some g1 ≠ v5.ownBlock := ⟨ne_after hat5 hne0 (by have := HJ.out.2.2.1.lt; omega), ne_after hat5 hne1 (by have := HJ.out.2.2.2.lt; omega)⟩
                    obtain ⟨A5, c5, rfl, _, _⟩ := ho5.reads
                    rw [HDL.out] at ho5 hov ⊢
                    have HVN := Lib.hid hov
                    clear hov hat5
                    have H5 := Lib.hid (show Own w w5 (.slice A5 N c5) ((l.drop 6).take N) ∧ Below w.heap.size w w5 ∧ FrOwn w5 g0 g1 from ⟨ho5, hb5, hfr.1.grown hg5 hne0, hfr.2.grown hg5 hne1⟩)
                    clear ho5 hb5 hg5 hfr hne0 hne1
                    skip
                    have HA0 := Lib.hid (show Own w w5 (.slice A5 N c5) (maskUp ((l.drop 2).take 4) ((l.drop 6).take N) 0) ∧ Below w.heap.size w w5 ∧ FrOwn w5 g0 g1 from ⟨by rw [maskUp_zero]; exact H5.out.1, H5.out.2⟩)
                    go_wp2_with fail
                    go_loopw [150] (fun i wr => ∃ k : Nat, i = .int .i64 k ∧ k ≤ N ∧ Hid (Own w wr (.slice A5 N c5) (maskUp ((l.drop 2).take 4) ((l.drop 6).take N) k) ∧ Below w.heap.size w wr ∧ FrOwn wr g0 g1)) (fun i _ => N - (intOf i).toNat)
                    case atStart => exact ⟨0, rfl, by omega, HA0⟩
                    case round =>
                      obtain ⟨k, rfl, hk, HA⟩ := hrel
                      by_cases hkn : k < N
                      · have hkl : k < (((l.drop 6).take N)).length := by rw [HDL.out]; exact hkn
                        have hoo := HA.out.1
                        have hml : (maskUp ((l.drop 2).take 4) ((l.drop 6).take N) k).length = N := by rw [maskUp_length, HDL.out]
                        rw [← hml] at hoo
                        obtain ⟨g, cap, e, _, hg, _⟩ := Own.form hoo (by rw [hml]; omega)
                        rw [hml] at e
                        injection e with ea eb ec
                        subst ea
                        have HG := Lib.hid hg
                        clear hoo hml hg eb ec
                        have hcell := Own.cell HA.out.1 k hkn
                        rw [maskUp_at _ _ k hkl] at hcell
                        obtain ⟨hx, hf⟩ := hcell
                        obtain ⟨am', ea, hmc⟩ := Rd.cells (HKY.out _ HA.out.2.1) (by decide)
                        obtain ⟨am, ham⟩ : ∃ am : Addr, am = ⟨ad.block, ad.off + 2, none⟩ := ⟨_, rfl⟩
                        have ea2 : am' = am := by rw [ham]; exact (Option.some.inj ea).symm
                        rw [ea2] at hmc
                        rw [← ham]
                        have hy := hmc (k % 4) (Nat.mod_lt _ (by decide))
                        have t1 : (k : Int).tmod 4 = ((k % 4 : Nat) : Int) := Int.ofNat_tmod k 4
                        obtain ⟨j, hj⟩ : ∃ j, j = k % 4 := ⟨_, rfl⟩
                        rw [← hj] at hy t1
                        have j4 : j < 4 := by omega
                        have ji4 : (j : Int) < 4 := by omega
                        obtain ⟨x, hxe⟩ : ∃ x, x = rd ((l.drop 6).take N) (k : Nat) := ⟨_, rfl⟩
                        obtain ⟨y, hye⟩ : ∃ y, y = rd ((l.drop 2).take 4) (j : Nat) := ⟨_, rfl⟩
                        rw [← hxe] at hx
                        rw [← hye] at hy
                        have HSET := Lib.hid (show (maskUp ((l.drop 2).take 4) ((l.drop 6).take N) k).set k (bits .xor .u8 x y) = maskUp ((l.drop 2).take 4) ((l.drop 6).take N) (k + 1) by rw [hxe, hye, hj]; exact maskUp_set _ _ k hkl)
                        have dkn : decide (k < N) = true := decide_eq_true hkn
                        have dkn' : decide ((k : Int) < N) = true := decide_eq_true (by omega)
                        have ikn : (k : Int) < N := by omega
                        have wj : IntKind.i64.wrap (j : Int) = j := wrap_id (by omega) (by omega)
                        have wk : IntKind.i64.wrap ((k : Int) + 1) = k + 1 := wrap_id (by omega) (by have := HN16.out; omega)
                        clear hmc hj hxe hye ea ea2 hkl ham
                        go_upto_region 44 with (fail)
                        refine wp_region_quiet_tail_at 13 (by kernel_rfl) (by kernel_rfl) (by kernel_rfl) (by kernel_rfl) ?_
                        simp only [List.take_succ_cons, List.take_zero, List.drop_succ_cons, List.drop_zero]
                        repeat (quiet_step (fail))
                        refine wpQuiet_nil ?_
                        intro _ hw'
                        obtain ⟨nq, hw''⟩ := hw'
                        subst hw''
                        have hO := Own.below HA.out.1 (show Below wr.heap.size wr (wr.drewN nq) from pw_below_drewN (Below.refl _ _) nq)
                        have hB := pw_below_drewN HA.out.2.1 nq
                        have hF := HA.out.2.2.below (pw_below_drewN (Below.refl _ _) nq)
                        have hx' : (wr.drewN nq).cell? ⟨g, k, none⟩ = some (.int .u8 x) := hx
                        have hf' : (wr.drewN nq).frozen? ⟨g, k, none⟩ = false := hf
                        generalize wr.drewN nq = W6 at hO hB hF hx' hf' ⊢
                        have hO2 := Own.put hO k (bits .xor .u8 x y)
                        rw [HSET.out] at hO2
                        have HN := Lib.hid (show Own w (W6.setCell ⟨g, k, none⟩ (.int .u8 (bits .xor .u8 x y))) (.slice (some ⟨g, 0, none⟩) N c5) (maskUp ((l.drop 2).take 4) ((l.drop 6).take N) (k + 1)) ∧ Below w.heap.size w (W6.setCell ⟨g, k, none⟩ (.int .u8 (bits .xor .u8 x y))) ∧ FrOwn (W6.setCell ⟨g, k, none⟩ (.int .u8 (bits .xor .u8 x y))) g0 g1 from ⟨hO2, hB.setCell (p := ⟨g, k, none⟩) HG.out _, hF.1.other (fun e => HVN.out.1 (by rw [← e]; rfl)) _, hF.2.other (fun e => HVN.out.2 (by rw [← e]; rfl)) _⟩)
                        clear hO hB hF hO2 hx hf hy
                        go_wp2
                        go_roundw
                        case rel => exact ⟨k + 1, by go_num, by omega, HN⟩
                        case measure => simp [intOf]; omega
                      · obtain rfl : k = N := by omega
                        have dk : decide ((k : Nat) < k) = false := decide_eq_false (by omega)
                        have hfin := HA.out.1
                        rw [show maskUp ((l.drop 2).take 4) ((l.drop 6).take k) k = maskL ((l.drop 2).take 4) ((l.drop 6).take k) by have h := maskUp_all ((l.drop 2).take 4) ((l.drop 6).take k); rw [HDL.out] at h; exact h] at hfin
                        go_wp2_with (refine gate_ (.store 26 (.tmp 4) (.tmp 171)) rfl ?_; refine store_whole rfl rfl rfl rfl rfl HA.out.2.2.1 rfl (by simp [Value.oneCell']) rfl (by kernel_rfl) ?_; intro w9 hk9 hb9 hf9 hg9)
                        refine bodyPost_ret (results_ctt rfl _ _ g0 _ _ _ _ rfl hk9 Tryd.underlying26 rfl (by kernel_rfl)) rfl ?_
                        exact ⟨⟨_, _, _⟩, _, 0, _, by first | (rw [← HHI.out]; rfl) | rfl, HV.out, hfin.stay hg9 HVN.out.1, hb9 _ _ HA.out.2.1 HS.out.2.2.2.1⟩
                · have h5 : decide (125 < r) = true := decide_eq_true (by omega)
                  have HB2 := Lib.hid (show badS (rd l 0) (rd l 1) true = false by rw [HD.out.2.2.2, h8]; rfl)
                  have hr2 : r = 126 ∨ r = 127 := by have := HD.out; omega
                  rcases hr2 with rfl | rfl
                  · have hlr := lenR_2 (l := l) HD.out.1.symm
                    rw [HI.out.2.1] at hlr
                    by_cases hsh : n < 4
                    · have ds : decide ((n : Int) < 4) = true := decide_eq_true (by omega)
                      have HF := Lib.hid (rdF_why (mask := true) (show 2 ≤ l.length by rw [HI.out.2.1]; exact HN2.out) HB1.out HB2.out (show Len3 l 0 0 1 by unfold Len3; rw [hlr, if_pos hsh]) (by decide))
                      clear hlr hsh hs
                      have z0 := HJ.out.2.2.2.cell 0 _ rfl
                      have z1 := HJ.out.2.2.2.cell 1 _ rfl
                      have z2 := HJ.out.2.2.2.cell 2 _ rfl
                      go_wp2_with (refine gate_ (.store 26 (.tmp 4) (.tmp 85)) rfl ?_; refine store_whole rfl rfl rfl rfl rfl HJ.out.2.2.1 rfl (by simp [Value.oneCell']) rfl (by kernel_rfl) ?_; intro w9 hk9 hb9 hf9 hg9)
                      refine bodyPost_ret (results_ctt rfl _ _ g0 _ _ _ _ rfl hk9 Tryd.underlying26 rfl (by kernel_rfl)) rfl ?_
                      exact ⟨zeroF, 0, 1, .slice none 0 0, rfl, HF.out, Own.nil _ _, hb9 _ _ HJ.out.2.1 HS.out.2.2.2.1⟩
                    · have ds : decide ((n : Int) < 4) = false := decide_eq_false (by omega)
                      rw [if_neg hsh] at hlr
                      have HLR := Lib.hid hlr
                      have HSH := Lib.hid (show 4 ≤ n by omega)
                      clear hlr hsh hs
                      go_wp2_with fail
                      go_loopw [10, 96] (fun v i wr => ∃ (j : Nat) (y : Int), j ≤ 2 ∧ i = .int .i64 j ∧ v = .int .i64 y ∧ Hid (y = numL ((l.drop 2).take j)) ∧ w' = wr) (fun _ i _ => 2 - (intOf i).toNat)
                      case atStart => exact ⟨0, 0, by omega, rfl, rfl, Lib.hid rfl, rfl⟩
                      case round =>
                        obtain ⟨j, y, hj, rfl, rfl, HY, rfl⟩ := hrel
                        have hdl : (l.drop 2).length = n - 2 := by rw [List.length_drop, HI.out.2.1]
                        have hyr := numL_range (l.drop 2) (HI.out.1.dp 2) j (by have := HSH.out; omega)
                        rw [← HY.out] at hyr
                        by_cases hjm : j < 2
                        · have djm : decide (j < 2) = true := decide_eq_true hjm
                          have djm' : decide ((j : Int) < 2) = true := decide_eq_true (by omega)
                          have hst := numL_take (l.drop 2) j (by have := HSH.out; omega)
                          rw [← HY.out, rd_drop2] at hst
                          obtain ⟨b1, b2⟩ := bytes_rd HI.out.1 (2 + j) (by rw [HI.out.2.1]; have := HSH.out; omega)
                          obtain ⟨hx, hx'⟩ := Rd.lit2 HJ.out.1 (2 + j) (by omega) (by have := HSH.out; omega)
                          obtain ⟨x, hxe⟩ : ∃ x, x = rd l ((2 + j : Nat) : Int) := ⟨_, rfl⟩
                          rw [← hxe] at hx hx' b1 b2 hst
                          have hp := pow256n j (by omega)
                          obtain ⟨y0, y1'⟩ := hyr
                          have y1 : y < 256 := Int.lt_of_lt_of_le y1' (by rw [show (256 : Int) = ((256 ^ 1 : Nat) : Int) from rfl]; exact_mod_cast Nat.pow_le_pow_right (by decide) (by omega))
                          have HST := Lib.hid hst
                          have a1 : IntKind.i64.wrap (256 * y) = 256 * y := wrap_id (by omega) (by omega)
                          have a2 : IntKind.i64.wrap (256 * y + x) = 256 * y + x := wrap_id (by omega) (by omega)
                          have a3 : IntKind.i64.wrap x = x := wrap_id (by omega) (by omega)
                          have a4 : IntKind.i64.wrap (2 + (j : Int)) = 2 + j := wrap_id (by omega) (by omega)
                          have a5 : (0 : Int) ≤ 2 + (j : Int) := by omega
                          have a6 : 2 + (j : Int) < n := by have := HSH.out; omega
                          have a7 : (2 + (j : Int)).toNat = 2 + j := by omega
                          have a8 : IntKind.i64.wrap ((j : Int) + 1) = j + 1 := wrap_id (by omega) (by omega)
                          clear hst hxe hp y1' hdl
                          go_wp2
                          go_roundw
                          case rel => exact ⟨j + 1, 256 * y + x, by omega, by go_num, rfl, Lib.hid HST.out.symm, by first | rfl | trivial⟩
                          case measure => simp [intOf]; omega
                        · obtain rfl : j = 2 := by omega
                          have djm : decide (2 < 2) = false := rfl
                          rw [show ((256 ^ 2 : Nat) : Int) = 65536 from rfl] at hyr
                          have hlr := HLR.out
                          rw [← HY.out] at hlr
                          clear hdl djm
                          by_cases hl : y < 126
                          · have dl : decide (y < 126) = true := decide_eq_true hl
                            have HF := Lib.hid (rdF_why (mask := true) (show 2 ≤ l.length by rw [HI.out.2.1]; exact HN2.out) HB1.out HB2.out (show Len3 l 0 0 1002 by unfold Len3; rw [hlr, if_pos (by omega)]) (by decide))
                            clear hlr hl hyr
                            have z0 := HJ.out.2.2.2.cell 0 _ rfl
                            have z1 := HJ.out.2.2.2.cell 1 _ rfl
                            have z2 := HJ.out.2.2.2.cell 2 _ rfl
                            go_wp2_with (refine gate_ (.store 26 (.tmp 4) (.tmp 112)) rfl ?_; refine store_whole rfl rfl rfl rfl rfl HJ.out.2.2.1 rfl (by simp [Value.oneCell']) rfl (by kernel_rfl) ?_; intro w9 hk9 hb9 hf9 hg9)
                            refine bodyPost_ret (results_ctt rfl _ _ g0 _ _ _ _ rfl hk9 Tryd.underlying26 rfl (by kernel_rfl)) rfl ?_
                            exact ⟨zeroF, 0, 1002, .slice none 0 0, rfl, HF.out, Own.nil _ _, hb9 _ _ HJ.out.2.1 HS.out.2.2.2.1⟩
                          · have dl : decide (y < 126) = false := decide_eq_false hl
                            by_cases hg : 16384 < y
                            · have dg : decide (16384 < y) = true := decide_eq_true hg
                              have HF := Lib.hid (rdF_why (mask := true) (show 2 ≤ l.length by rw [HI.out.2.1]; exact HN2.out) HB1.out HB2.out (show Len3 l 0 0 1009 by unfold Len3; rw [hlr, if_neg (by omega), if_pos hg]) (by decide))
                              clear hlr hl hg hyr
                              have z0 := HJ.out.2.2.2.cell 0 _ rfl
                              have z1 := HJ.out.2.2.2.cell 1 _ rfl
                              have z2 := HJ.out.2.2.2.cell 2 _ rfl
                              go_wp2_with (refine gate_ (.store 26 (.tmp 4) (.tmp 115)) rfl ?_; refine store_whole rfl rfl rfl rfl rfl HJ.out.2.2.1 rfl (by simp [Value.oneCell']) rfl (by kernel_rfl) ?_; intro w9 hk9 hb9 hf9 hg9)
                              refine bodyPost_ret (results_ctt rfl _ _ g0 _ _ _ _ rfl hk9 Tryd.underlying26 rfl (by kernel_rfl)) rfl ?_
                              exact ⟨zeroF, 0, 1009, .slice none 0 0, rfl, HF.out, Own.nil _ _, hb9 _ _ HJ.out.2.1 HS.out.2.2.2.1⟩
                            · have dg : decide (16384 < y) = false := decide_eq_false hg
                              obtain ⟨N, hN⟩ : ∃ N : Nat, y = N := ⟨y.toNat, by omega⟩
                              have HF := Lib.hid (show rdF l true = bodyR l true N 4 from rdF_body (show 2 ≤ l.length by rw [HI.out.2.1]; exact HN2.out) HB1.out HB2.out (show Len3 l N 4 0 by unfold Len3; rw [hlr, if_neg (by omega), if_neg hg, hN]))
                              have HN16 := Lib.hid (show N ≤ 16384 by omega)
                              have HNG := Lib.hid (show 126 ≤ N by omega)
                              clear HY HLR
                              subst hN
                              clear hlr hl hg hyr hjm hj
                              by_cases h7 : n < 8
                              · have d7 : decide ((n : Int) < 8) = true := decide_eq_true (by omega)
                                have HV := Lib.hid (show rdF l true = (zeroF, 0, 1) by rw [HF.out]; unfold bodyR; rw [if_pos rfl, HI.out.2.1, if_pos (by omega)])
                                clear h7
                                have z0 := HJ.out.2.2.2.cell 0 _ rfl
                                have z1 := HJ.out.2.2.2.cell 1 _ rfl
                                have z2 := HJ.out.2.2.2.cell 2 _ rfl
                                go_wp2_with (refine gate_ (.store 26 (.tmp 4) (.tmp 125)) rfl ?_; refine store_whole rfl rfl rfl rfl rfl HJ.out.2.2.1 rfl (by simp [Value.oneCell']) rfl (by kernel_rfl) ?_; intro w9 hk9 hb9 hf9 hg9)
                                refine bodyPost_ret (results_ctt rfl _ _ g0 _ _ _ _ rfl hk9 Tryd.underlying26 rfl (by kernel_rfl)) rfl ?_
                                exact ⟨zeroF, 0, 1, .slice none 0 0, rfl, HV.out, Own.nil _ _, hb9 _ _ HJ.out.2.1 HS.out.2.2.2.1⟩
                              have d7 : decide ((n : Int) < 8) = false := decide_eq_false (by omega)
                              have k1 : (4 : Int) ≤ c0 := by omega
                              have k2 : (8 : Int) ≤ c0 := by omega
                              have k3 : ¬ c0 = 4 := by omega
                              have k4 : 4 ≤ c0 := by omega
                              have k5 : 8 ≤ c0 := by omega
                              have d8w : IntKind.i64.wrap ((n : Int) - 8) = (n : Int) - 8 := wrap_id (by omega) (by have := HI.out; omega)
                              by_cases h9 : n < 8 + N
                              · have d9 : decide ((n : Int) - 8 < N) = true := decide_eq_true (by omega)
                                have HV := Lib.hid (show rdF l true = (zeroF, 0, 1) by rw [HF.out]; unfold bodyR; rw [if_pos rfl, HI.out.2.1, if_pos (by omega)])
                                clear h9
                                have z0 := HJ.out.2.2.2.cell 0 _ rfl
                                have z1 := HJ.out.2.2.2.cell 1 _ rfl
                                have z2 := HJ.out.2.2.2.cell 2 _ rfl
                                go_wp2_with (refine gate_ (.store 26 (.tmp 4) (.tmp 139)) rfl ?_; refine store_whole rfl rfl rfl rfl rfl HJ.out.2.2.1 rfl (by simp [Value.oneCell']) rfl (by kernel_rfl) ?_; intro w9 hk9 hb9 hf9 hg9)
                                refine bodyPost_ret (results_ctt rfl _ _ g0 _ _ _ _ rfl hk9 Tryd.underlying26 rfl (by kernel_rfl)) rfl ?_
                                exact ⟨zeroF, 0, 1, .slice none 0 0, rfl, HV.out, Own.nil _ _, hb9 _ _ HJ.out.2.1 HS.out.2.2.2.1⟩
                              have d9 : decide ((n : Int) - 8 < N) = false := decide_eq_false (by omega)
                              have HV := Lib.hid (show rdF l true = (⟨fin, o, maskL ((l.drop 4).take 4) ((l.drop 8).take N)⟩, ((8 + N : Nat) : Int), 0) by rw [HF.out]; unfold bodyR; rw [if_pos rfl, HI.out.2.1, if_neg (by omega), ← HOE.out, ← HC.out.1, HFI.out])
                              have hdl : (((l.drop 8).take N)).length = N := by rw [List.length_take, List.length_drop, HI.out.2.1]; omega
                              have HDL := Lib.hid hdl
                              clear hdl
                              have HKY := Lib.hid (show ∀ W, Below w.heap.size w W → Rd W (some ⟨ad.block, ad.off + 4, none⟩) 4 ((l.drop 4).take 4) from fun W hW => by
                                have hq := Rd.mid (x := ⟨ad.block, ad.off + 4, none⟩) (Kd.C_below HR0.out hW) 4 8 (by omega) (by omega) (fun _ => by show _ = (if 4 = 0 then _ else _); rw [if_neg (by omega)])
                                rwa [List.drop_take] at hq)
                              have m1 : IntKind.i64.wrap (8 + (N : Int)) = 8 + N := wrap_id (by omega) (by have := HN16.out; omega)
                              have m2 : (0 : Int) ≤ 8 + (N : Int) := by omega
                              have m3 : (8 : Int) ≤ 8 + (N : Int) := by omega
                              have m4 : 8 + (N : Int) ≤ c0 := by omega
                              have m5 : (8 : Int) ≤ c0 := by omega
                              have m6 : (8 + (N : Int)).toNat = 8 + N := by omega
                              have m7 : 8 + N - 8 = N := by omega
                              have m8 : 8 ≤ c0 := by omega
                              have m9 : 8 ≤ 8 + N := by omega
                              have HHI := Lib.hid (show 8 + (N : Int) = ((8 + N : Nat) : Int) from by omega)
                              by_cases hcl : c0 = 8
                              · exfalso
                                have := HNG.out
                                omega
                              · have HROW := Lib.hid (show ∀ W, Below w.heap.size w W → Rd W (some ⟨ad.block, ad.off + 8, none⟩) N ((l.drop 8).take N) from fun W hW => by
                                  have hq := Rd.mid (x := ⟨ad.block, ad.off + 8, none⟩) (Kd.C_below HR0.out hW) 8 (8 + N) (by omega) (by omega) (fun _ => by show _ = (if 8 = 0 then _ else _); rw [if_neg (by omega)])
                                  rwa [List.drop_take, show 8 + N - 8 = N by omega] at hq)
                                clear h9
                                go_upto_region 39 with (fail)
                                go_wp2_with (at_builtin; refine app_row (lit_nil HJ.out.2.1) (HROW.out _ (below_alloc HJ.out.2.1 _)) (below_alloc HJ.out.2.1 _) (by have := HN16.out; simp only [List.length_nil]; omega) rfl rfl rfl rfl ?_)
                                intro v5 w5 ho5 hb5 hg5 hat5
                                have hfr := HJ.out.2.2.below (below_alloc (Below.refl _ _) (.cells #[] 5))
                                have hne0 : some g0 ≠ (Value.slice (some ⟨w'.heap.size, 0, none⟩) 0 0).ownBlock := fun e => by have e : g0 = w'.heap.size := Option.some.inj e; have := HJ.out.2.2.1.lt; omega
                                have hne1 : some g1 ≠ (Value.slice (some ⟨w'.heap.size, 0, none⟩) 0 0).ownBlock := fun e => by have e : g1 = w'.heap.size := Option.some.inj e; have := HJ.out.2.2.2.lt; omega
                                have ho5 := ho5.cast (show _ = ((l.drop 8).take N) by simp)
                                skip
                                have hov : some g0 ≠ v5.ownBlock ∧ some g1 ≠ v5.ownBlock := ⟨ne_after hat5 hne0 (by have := HJ.out.2.2.1.lt; omega), ne_after hat5 hne1 (by have := HJ.out.2.2.2.lt; omega)⟩
                                obtain ⟨A5, c5, rfl, _, _⟩ := ho5.reads
                                rw [HDL.out] at ho5 hov ⊢
                                have HVN := Lib.hid hov
                                clear hov hat5
                                have H5 := Lib.hid (show Own w w5 (.slice A5 N c5) ((l.drop 8).take N) ∧ Below w.heap.size w w5 ∧ FrOwn w5 g0 g1 from ⟨ho5, hb5, hfr.1.grown hg5 hne0, hfr.2.grown hg5 hne1⟩)
                                clear ho5 hb5 hg5 hfr hne0 hne1
                                skip
                                have HA0 := Lib.hid (show Own w w5 (.slice A5 N c5) (maskUp ((l.drop 4).take 4) ((l.drop 8).take N) 0) ∧ Below w.heap.size w w5 ∧ FrOwn w5 g0 g1 from ⟨by rw [maskUp_zero]; exact H5.out.1, H5.out.2⟩)
                                go_wp2_with fail
                                go_loopw [150] (fun i wr => ∃ k : Nat, i = .int .i64 k ∧ k ≤ N ∧ Hid (Own w wr (.slice A5 N c5) (maskUp ((l.drop 4).take 4) ((l.drop 8).take N) k) ∧ Below w.heap.size w wr ∧ FrOwn wr g0 g1)) (fun i _ => N - (intOf i).toNat)
                                case atStart => exact ⟨0, rfl, by omega, HA0⟩
                                case round =>
                                  obtain ⟨k, rfl, hk, HA⟩ := hrel
                                  by_cases hkn : k < N
                                  · have hkl : k < (((l.drop 8).take N)).length := by rw [HDL.out]; exact hkn
                                    have hoo := HA.out.1
                                    have hml : (maskUp ((l.drop 4).take 4) ((l.drop 8).take N) k).length = N := by rw [maskUp_length, HDL.out]
                                    rw [← hml] at hoo
                                    obtain ⟨g, cap, e, _, hg, _⟩ := Own.form hoo (by rw [hml]; omega)
                                    rw [hml] at e
                                    injection e with ea eb ec
                                    subst ea
                                    have HG := Lib.hid hg
                                    clear hoo hml hg eb ec
                                    have hcell := Own.cell HA.out.1 k hkn
                                    rw [maskUp_at _ _ k hkl] at hcell
                                    obtain ⟨hx, hf⟩ := hcell
                                    obtain ⟨am', ea, hmc⟩ := Rd.cells (HKY.out _ HA.out.2.1) (by decide)
                                    obtain ⟨am, ham⟩ : ∃ am : Addr, am = ⟨ad.block, ad.off + 4, none⟩ := ⟨_, rfl⟩
                                    have ea2 : am' = am := by rw [ham]; exact (Option.some.inj ea).symm
                                    rw [ea2] at hmc
                                    rw [← ham]
                                    have hy := hmc (k % 4) (Nat.mod_lt _ (by decide))
                                    have t1 : (k : Int).tmod 4 = ((k % 4 : Nat) : Int) := Int.ofNat_tmod k 4
                                    obtain ⟨j, hj⟩ : ∃ j, j = k % 4 := ⟨_, rfl⟩
                                    rw [← hj] at hy t1
                                    have j4 : j < 4 := by omega
                                    have ji4 : (j : Int) < 4 := by omega
                                    obtain ⟨x, hxe⟩ : ∃ x, x = rd ((l.drop 8).take N) (k : Nat) := ⟨_, rfl⟩
                                    obtain ⟨y, hye⟩ : ∃ y, y = rd ((l.drop 4).take 4) (j : Nat) := ⟨_, rfl⟩
                                    rw [← hxe] at hx
                                    rw [← hye] at hy
                                    have HSET := Lib.hid (show (maskUp ((l.drop 4).take 4) ((l.drop 8).take N) k).set k (bits .xor .u8 x y) = maskUp ((l.drop 4).take 4) ((l.drop 8).take N) (k + 1) by rw [hxe, hye, hj]; exact maskUp_set _ _ k hkl)
                                    have dkn : decide (k < N) = true := decide_eq_true hkn
                                    have dkn' : decide ((k : Int) < N) = true := decide_eq_true (by omega)
                                    have ikn : (k : Int) < N := by omega
                                    have wj : IntKind.i64.wrap (j : Int) = j := wrap_id (by omega) (by omega)
                                    have wk : IntKind.i64.wrap ((k : Int) + 1) = k + 1 := wrap_id (by omega) (by have := HN16.out; omega)
                                    clear hmc hj hxe hye ea ea2 hkl ham
                                    go_upto_region 44 with (fail)
                                    refine wp_region_quiet_tail_at 13 (by kernel_rfl) (by kernel_rfl) (by kernel_rfl) (by kernel_rfl) ?_
                                    simp only [List.take_succ_cons, List.take_zero, List.drop_succ_cons, List.drop_zero]
                                    repeat (quiet_step (fail))
                                    refine wpQuiet_nil ?_
                                    intro _ hw'
                                    obtain ⟨nq, hw''⟩ := hw'
                                    subst hw''
                                    have hO := Own.below HA.out.1 (show Below wr.heap.size wr (wr.drewN nq) from pw_below_drewN (Below.refl _ _) nq)
                                    have hB := pw_below_drewN HA.out.2.1 nq
                                    have hF := HA.out.2.2.below (pw_below_drewN (Below.refl _ _) nq)
                                    have hx' : (wr.drewN nq).cell? ⟨g, k, none⟩ = some (.int .u8 x) := hx
                                    have hf' : (wr.drewN nq).frozen? ⟨g, k, none⟩ = false := hf
                                    generalize wr.drewN nq = W6 at hO hB hF hx' hf' ⊢
                                    have hO2 := Own.put hO k (bits .xor .u8 x y)
                                    rw [HSET.out] at hO2
                                    have HN := Lib.hid (show Own w (W6.setCell ⟨g, k, none⟩ (.int .u8 (bits .xor .u8 x y))) (.slice (some ⟨g, 0, none⟩) N c5) (maskUp ((l.drop 4).take 4) ((l.drop 8).take N) (k + 1)) ∧ Below w.heap.size w (W6.setCell ⟨g, k, none⟩ (.int .u8 (bits .xor .u8 x y))) ∧ FrOwn (W6.setCell ⟨g, k, none⟩ (.int .u8 (bits .xor .u8 x y))) g0 g1 from ⟨hO2, hB.setCell (p := ⟨g, k, none⟩) HG.out _, hF.1.other (fun e => HVN.out.1 (by rw [← e]; rfl)) _, hF.2.other (fun e => HVN.out.2 (by rw [← e]; rfl)) _⟩)
                                    clear hO hB hF hO2 hx hf hy
                                    go_wp2
                                    go_roundw
                                    case rel => exact ⟨k + 1, by go_num, by omega, HN⟩
                                    case measure => simp [intOf]; omega
                                  · obtain rfl : k = N := by omega
                                    have dk : decide ((k : Nat) < k) = false := decide_eq_false (by omega)
                                    have hfin := HA.out.1
                                    rw [show maskUp ((l.drop 4).take 4) ((l.drop 8).take k) k = maskL ((l.drop 4).take 4) ((l.drop 8).take k) by have h := maskUp_all ((l.drop 4).take 4) ((l.drop 8).take k); rw [HDL.out] at h; exact h] at hfin
                                    go_wp2_with (refine gate_ (.store 26 (.tmp 4) (.tmp 171)) rfl ?_; refine store_whole rfl rfl rfl rfl rfl HA.out.2.2.1 rfl (by simp [Value.oneCell']) rfl (by kernel_rfl) ?_; intro w9 hk9 hb9 hf9 hg9)
                                    refine bodyPost_ret (results_ctt rfl _ _ g0 _ _ _ _ rfl hk9 Tryd.underlying26 rfl (by kernel_rfl)) rfl ?_
                                    exact ⟨⟨_, _, _⟩, _, 0, _, by first | (rw [← HHI.out]; rfl) | rfl, HV.out, hfin.stay hg9 HVN.out.1, hb9 _ _ HA.out.2.1 HS.out.2.2.2.1⟩
                  · have hlr := lenR_8 (l := l) HD.out.1.symm
                    rw [HI.out.2.1] at hlr
                    by_cases hsh : n < 10
                    · have ds : decide ((n : Int) < 10) = true := decide_eq_true (by omega)
                      have HF := Lib.hid (rdF_why (mask := true) (show 2 ≤ l.length by rw [HI.out.2.1]; exact HN2.out) HB1.out HB2.out (show Len3 l 0 0 1 by unfold Len3; rw [hlr, if_pos hsh]) (by decide))
                      clear hlr hsh hs
                      have z0 := HJ.out.2.2.2.cell 0 _ rfl
                      have z1 := HJ.out.2.2.2.cell 1 _ rfl
                      have z2 := HJ.out.2.2.2.cell 2 _ rfl
                      go_wp2_with (refine gate_ (.store 26 (.tmp 4) (.tmp 85)) rfl ?_; refine store_whole rfl rfl rfl rfl rfl HJ.out.2.2.1 rfl (by simp [Value.oneCell']) rfl (by kernel_rfl) ?_; intro w9 hk9 hb9 hf9 hg9)
                      refine bodyPost_ret (results_ctt rfl _ _ g0 _ _ _ _ rfl hk9 Tryd.underlying26 rfl (by kernel_rfl)) rfl ?_
                      exact ⟨zeroF, 0, 1, .slice none 0 0, rfl, HF.out, Own.nil _ _, hb9 _ _ HJ.out.2.1 HS.out.2.2.2.1⟩
                    · have ds : decide ((n : Int) < 10) = false := decide_eq_false (by omega)
                      rw [if_neg hsh] at hlr
                      have x2 : w'.cell? ⟨ad.block, ad.off + 2, none⟩ = some (.int .u8 (rd l 2)) := (Rd.lit2 HJ.out.1 2 (by decide) (by omega)).1
                      have i2 : (2 : Int) < n := by omega
                      have n2 : 2 < n := by omega
                      obtain ⟨hi, hhi⟩ : ∃ h, h = rd l 2 := ⟨_, rfl⟩
                      rw [← hhi] at x2 hlr
                      have HHI := Lib.hid hhi
                      clear hhi
                      by_cases hh : 128 ≤ hi
                      · have dh : decide (128 ≤ hi) = true := decide_eq_true hh
                        have HF := Lib.hid (rdF_why (mask := true) (show 2 ≤ l.length by rw [HI.out.2.1]; exact HN2.out) HB1.out HB2.out (show Len3 l 0 0 1002 by unfold Len3; rw [hlr, if_pos (.inl hh)]) (by decide))
                        clear hlr hsh hs hh
                        have z0 := HJ.out.2.2.2.cell 0 _ rfl
                        have z1 := HJ.out.2.2.2.cell 1 _ rfl
                        have z2 := HJ.out.2.2.2.cell 2 _ rfl
                        go_wp2_with (refine gate_ (.store 26 (.tmp 4) (.tmp 94)) rfl ?_; refine store_whole rfl rfl rfl rfl rfl HJ.out.2.2.1 rfl (by simp [Value.oneCell']) rfl (by kernel_rfl) ?_; intro w9 hk9 hb9 hf9 hg9)
                        refine bodyPost_ret (results_ctt rfl _ _ g0 _ _ _ _ rfl hk9 Tryd.underlying26 rfl (by kernel_rfl)) rfl ?_
                        exact ⟨zeroF, 0, 1002, .slice none 0 0, rfl, HF.out, Own.nil _ _, hb9 _ _ HJ.out.2.1 HS.out.2.2.2.1⟩
                      · have dh : decide (128 ≤ hi) = false := decide_eq_false hh
                        have HLR := Lib.hid hlr
                        have HSH := Lib.hid (show 10 ≤ n by omega)
                        clear hlr hsh hs
                        go_wp2_with fail
                        go_loopw [10, 96] (fun v i wr => ∃ (j : Nat) (y : Int), j ≤ 8 ∧ i = .int .i64 j ∧ v = .int .i64 y ∧ Hid (y = numL ((l.drop 2).take j)) ∧ w' = wr) (fun _ i _ => 8 - (intOf i).toNat)
                        case atStart => exact ⟨0, 0, by omega, rfl, rfl, Lib.hid rfl, rfl⟩
                        case round =>
                          obtain ⟨j, y, hj, rfl, rfl, HY, rfl⟩ := hrel
                          have hdl : (l.drop 2).length = n - 2 := by rw [List.length_drop, HI.out.2.1]
                          have hyr := numL_range (l.drop 2) (HI.out.1.dp 2) j (by have := HSH.out; omega)
                          rw [← HY.out] at hyr
                          by_cases hjm : j < 8
                          · have djm : decide (j < 8) = true := decide_eq_true hjm
                            have djm' : decide ((j : Int) < 8) = true := decide_eq_true (by omega)
                            have hst := numL_take (l.drop 2) j (by have := HSH.out; omega)
                            rw [← HY.out, rd_drop2] at hst
                            obtain ⟨b1, b2⟩ := bytes_rd HI.out.1 (2 + j) (by rw [HI.out.2.1]; have := HSH.out; omega)
                            obtain ⟨hx, hx'⟩ := Rd.lit2 HJ.out.1 (2 + j) (by omega) (by have := HSH.out; omega)
                            obtain ⟨x, hxe⟩ : ∃ x, x = rd l ((2 + j : Nat) : Int) := ⟨_, rfl⟩
                            rw [← hxe] at hx hx' b1 b2 hst
                            have hp := pow256n j (by omega)
                            obtain ⟨y0, y1'⟩ := hyr
                            have y1 : y < 72057594037927936 := Int.lt_of_lt_of_le y1' hp
                            have y2 : y < 9223372036854775808 / 256 := by
                              rcases Nat.lt_or_ge j 7 with h7 | h7
                              · have h6 : ((256 ^ j : Nat) : Int) ≤ ((256 ^ 6 : Nat) : Int) := by exact_mod_cast Nat.pow_le_pow_right (by decide) (by omega)
                                have h66 : ((256 ^ 6 : Nat) : Int) = 281474976710656 := rfl
                                omega
                              · obtain rfl : j = 7 := by omega
                                have hh7 := numL_high (l.drop 2) (HI.out.1.dp 2) 6 (by have := HSH.out; omega)
                                rw [← HY.out, show rd (l.drop 2) 0 = rd l 2 from rd_drop2 l 0, ← HHI.out] at hh7
                                have h66 : ((256 ^ 6 : Nat) : Int) = 281474976710656 := rfl
                                rw [h66] at hh7
                                omega
                            have HST := Lib.hid hst
                            have a1 : IntKind.i64.wrap (256 * y) = 256 * y := wrap_id (by omega) (by omega)
                            have a2 : IntKind.i64.wrap (256 * y + x) = 256 * y + x := wrap_id (by omega) (by omega)
                            have a3 : IntKind.i64.wrap x = x := wrap_id (by omega) (by omega)
                            have a4 : IntKind.i64.wrap (2 + (j : Int)) = 2 + j := wrap_id (by omega) (by omega)
                            have a5 : (0 : Int) ≤ 2 + (j : Int) := by omega
                            have a6 : 2 + (j : Int) < n := by have := HSH.out; omega
                            have a7 : (2 + (j : Int)).toNat = 2 + j := by omega
                            have a8 : IntKind.i64.wrap ((j : Int) + 1) = j + 1 := wrap_id (by omega) (by omega)
                            clear hst hxe hp y1' hdl
                            go_wp2
                            go_roundw
                            case rel => exact ⟨j + 1, 256 * y + x, by omega, by go_num, rfl, Lib.hid HST.out.symm, by first | rfl | trivial⟩
                            case measure => simp [intOf]; omega
                          · obtain rfl : j = 8 := by omega
                            have djm : decide (8 < 8) = false := rfl
                            rw [show ((256 ^ 8 : Nat) : Int) = 18446744073709551616 from rfl] at hyr
                            have hlr := HLR.out
                            rw [← HY.out] at hlr
                            clear hdl djm
                            have hh7 := numL_high (l.drop 2) (HI.out.1.dp 2) 7 (by rw [List.length_drop, HI.out.2.1]; have := HSH.out; omega)
                            rw [← HY.out, show rd (l.drop 2) 0 = rd l 2 from rd_drop2 l 0, ← HHI.out, show ((256 ^ 7 : Nat) : Int) = 72057594037927936 from rfl] at hh7
                            by_cases hl : y < 65536
                            · have dl : decide (y < 65536) = true := decide_eq_true hl
                              have HF := Lib.hid (rdF_why (mask := true) (show 2 ≤ l.length by rw [HI.out.2.1]; exact HN2.out) HB1.out HB2.out (show Len3 l 0 0 1002 by unfold Len3; rw [hlr, if_pos (.inr (by omega))]) (by decide))
                              clear hlr hl hh7 hyr
                              have z0 := HJ.out.2.2.2.cell 0 _ rfl
                              have z1 := HJ.out.2.2.2.cell 1 _ rfl
                              have z2 := HJ.out.2.2.2.cell 2 _ rfl
                              go_wp2_with (refine gate_ (.store 26 (.tmp 4) (.tmp 112)) rfl ?_; refine store_whole rfl rfl rfl rfl rfl HJ.out.2.2.1 rfl (by simp [Value.oneCell']) rfl (by kernel_rfl) ?_; intro w9 hk9 hb9 hf9 hg9)
                              refine bodyPost_ret (results_ctt rfl _ _ g0 _ _ _ _ rfl hk9 Tryd.underlying26 rfl (by kernel_rfl)) rfl ?_
                              exact ⟨zeroF, 0, 1002, .slice none 0 0, rfl, HF.out, Own.nil _ _, hb9 _ _ HJ.out.2.1 HS.out.2.2.2.1⟩
                            · have dl : decide (y < 65536) = false := decide_eq_false hl
                              have dg : decide (16384 < y) = true := decide_eq_true (by omega)
                              have HF := Lib.hid (rdF_why (mask := true) (show 2 ≤ l.length by rw [HI.out.2.1]; exact HN2.out) HB1.out HB2.out (show Len3 l 0 0 1009 by unfold Len3; rw [hlr, if_neg (by omega)]) (by decide))
                              clear hlr hl hh7 hyr
                              have z0 := HJ.out.2.2.2.cell 0 _ rfl
                              have z1 := HJ.out.2.2.2.cell 1 _ rfl
                              have z2 := HJ.out.2.2.2.cell 2 _ rfl
                              go_wp2_with (refine gate_ (.store 26 (.tmp 4) (.tmp 115)) rfl ?_; refine store_whole rfl rfl rfl rfl rfl HJ.out.2.2.1 rfl (by simp [Value.oneCell']) rfl (by kernel_rfl) ?_; intro w9 hk9 hb9 hf9 hg9)
                              refine bodyPost_ret (results_ctt rfl _ _ g0 _ _ _ _ rfl hk9 Tryd.underlying26 rfl (by kernel_rfl)) rfl ?_
                              exact ⟨zeroF, 0, 1009, .slice none 0 0, rfl, HF.out, Own.nil _ _, hb9 _ _ HJ.out.2.1 HS.out.2.2.2.1⟩
end Go.Proofs.YtcfbfmgckaehdaaDoor
