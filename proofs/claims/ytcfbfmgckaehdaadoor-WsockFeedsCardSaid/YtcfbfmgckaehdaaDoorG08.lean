/- The texts WsRead in one. -/
import Derived.Test.YtcfbfmgckaehdaaDoorG03
import Derived.Test.YtcfbfmgckaehdaaDoorG04
import Derived.Test.YtcfbfmgckaehdaaDoorG07
namespace Go.Proofs.YtcfbfmgckaehdaaDoor
open Go.RowKit Go.Proofs.YtcfbfmgckaehdaaDoorW.PrintWords
section
variable {P : Program}
theorem results_ctt {fn : Func} {p u v : Tmp} {ty : TypeId} (h : fn.results = #[.cell p ty, .tmp u, .tmp v]) (tmps : Array Value) (w : World) (g : Nat) (t : TypeId) (cs : Array Value) (fr : Nat × Nat) (d : TypeDesc)
    (hp : tmps.getD p undef = .pointer (some ⟨g, 0, none⟩)) (hg : w.heap[g]? = some (.cells cs t fr))
    (hu : P.underlying ty = some d) (hd : (match d with | .struct _ | .array _ _ => true | _ => false) = true) (hi : (P.info? ty).map (·.size) = some cs.size) :
    (results fn tmps).run P w = .ok (.tuple #[.agg cs, tmps.getD u undef, tmps.getD v undef]) w := by
  have hp' : tmps[p]?.getD undef = .pointer (some ⟨g, 0, none⟩) := by simpa using hp
  simp [results, h, hp', asAddr, run_loadVar_row w g t ty cs fr d hg hu hd hi]
end
theorem Rd.at0 {w : World} {ad : Addr} {n : Nat} {l : List Int} (h : Rd w (some ad) n l) (hn : 0 < n) : w.cell? ad = some (.int .u8 (rd l 0)) := by
  obtain ⟨ad', e, hx⟩ := Rd.cells h hn
  cases e
  have := hx 0 hn
  rwa [Addr.add_zero'] at this
/-- What a call of Read answers. -/
def RdPost (l : List Int) (mask : Bool) (w : World) (e : Ending) (w' : World) : Prop :=
  ∃ (f : Frm) (k why : Int) (v : Value), e = .returned (.tuple #[.agg #[.bool f.fin, .int .i64 f.op, v], .int .i64 k, .int .i64 why]) ∧ rdF l mask = (f, k, why) ∧ Own w w' v f.load ∧ Below w.heap.size w w'
/-- An empty frame's cells. -/
abbrev fr0 : Array Value := #[.bool false, .int .i64 0, .slice none 0 0]
def FrOwn (w : World) (g0 g1 : Nat) : Prop := Whole w g0 26 fr0 ∧ Whole w g1 26 fr0
theorem FrOwn.below {w w1 : World} {g0 g1 : Nat} (h : FrOwn w g0 g1) (hb : Below w.heap.size w w1) : FrOwn w1 g0 g1 := ⟨h.1.below hb h.1.lt, h.2.below hb h.2.lt⟩
theorem firstE_bad {c : Int} (h : badF c = true) : firstE c = 1002 := by unfold firstE; rw [if_pos h]
theorem firstE_ok {c : Int} (h : badF c = false) : firstE c = 0 := by unfold firstE; rw [if_neg (by rw [h]; decide)]
theorem secondE_bad {c d : Int} {m : Bool} (h : badS c d m = true) : secondE c d m = 1002 := by unfold secondE; rw [if_pos h]
theorem secondE_ok {c d : Int} {m : Bool} (h : badS c d m = false) : secondE c d m = 0 := by unfold secondE; rw [if_neg (by rw [h]; decide)]
theorem rdF_empty (mask : Bool) {l : List Int} (h : l.length = 0) : rdF l mask = (zeroF, 0, 1) := by unfold rdF; rw [if_pos h]
theorem rdF_first {mask : Bool} {l : List Int} (h : 0 < l.length) (h1 : badF (rd l 0) = true) : rdF l mask = (zeroF, 0, 1002) := by unfold rdF; rw [if_neg (by omega), if_pos h1]
theorem rdF_one {mask : Bool} {l : List Int} (h : l.length = 1) (h1 : badF (rd l 0) = false) : rdF l mask = (zeroF, 0, 1) := by unfold rdF; rw [if_neg (by omega), if_neg (by rw [h1]; decide), if_pos h]
theorem rdF_second {mask : Bool} {l : List Int} (h : 2 ≤ l.length) (h1 : badF (rd l 0) = false) (h2 : badS (rd l 0) (rd l 1) mask = true) : rdF l mask = (zeroF, 0, 1002) := by unfold rdF; rw [if_neg (by omega), if_neg (by rw [h1]; decide), if_neg (by omega), if_pos h2]
theorem rdF_why {mask : Bool} {l : List Int} (h : 2 ≤ l.length) (h1 : badF (rd l 0) = false) (h2 : badS (rd l 0) (rd l 1) mask = false) {x y z : Int} (h3 : Len3 l x y z) (hz : z ≠ 0) : rdF l mask = (zeroF, 0, z) := by
  unfold rdF
  rw [if_neg (by omega), if_neg (by rw [h1]; decide), if_neg (by omega), if_neg (by rw [h2]; decide), show lenR l = (x, y, z) from h3, if_pos hz]
theorem rdF_body {mask : Bool} {l : List Int} (h : 2 ≤ l.length) (h1 : badF (rd l 0) = false) (h2 : badS (rd l 0) (rd l 1) mask = false) {N T : Nat} (h3 : Len3 l N T 0) : rdF l mask = bodyR l mask N T := by
  unfold rdF
  rw [if_neg (by omega), if_neg (by rw [h1]; decide), if_neg (by omega), if_neg (by rw [h2]; decide), show lenR l = ((N : Int), (T : Int), 0) from h3, if_neg (by simp)]
  simp
set_option maxRecDepth 20000 in
set_option maxHeartbeats 6400000 in
theorem WsRead_calls {n : Nat} (A0 : Option Addr) (c0 : Nat) (l : List Int) (mask : Bool) (w : World) (hr0 : Rd w A0 n l) (hc0 : n ≤ c0) (hb : Bytes l) (hn : n ≤ 35184372088832) :
    Calls Tryd.prog 15 #[.slice A0 n c0, .bool mask] w (RdPost l mask w) := by
  have hlen : l.length = n := Kd.C_len hr0
  obtain ⟨g0, hg0⟩ : ∃ g, g = w.heap.size := ⟨_, rfl⟩
  obtain ⟨g1, hg1⟩ : ∃ g, g = g0 + 1 := ⟨_, rfl⟩
  obtain ⟨W0, hW0⟩ : ∃ W0, W0 = w.alloc (.cells #[.bool false, .int .i64 0, .slice none 0 0] 26) := ⟨_, rfl⟩
  obtain ⟨W1, hW1⟩ : ∃ W1, W1 = W0.alloc (.cells #[.bool false, .int .i64 0, .slice none 0 0] 26) := ⟨_, rfl⟩
  have hz0 : W0.heap.size = g1 := by rw [hW0, size_alloc, hg1, hg0]
  have hb0 : Below w.heap.size w W0 := by rw [hW0]; exact below_alloc (Below.refl _ _) _
  have hb01 : Below W0.heap.size W0 W1 := by rw [hW1]; exact below_alloc (Below.refl _ _) _
  have hb1 := below_step hb0 hb01
  have hp0 : Whole W0 g0 26 fr0 := by rw [hW0, hg0]; exact Whole.new w _ _
  have hown : FrOwn W1 g0 g1 := ⟨hp0.below hb01 hp0.lt, by rw [hW1, ← hz0]; exact Whole.new W0 _ _⟩
  have HS := Lib.hid (show g0 = w.heap.size ∧ W0 = w.alloc _ ∧ W1 = W0.alloc _ ∧ w.heap.size ≤ g0 ∧ g1 = g0 + 1 from ⟨hg0, hW0, hW1, by rw [hg0]; exact Nat.le_refl _, hg1⟩)
  have HI := Lib.hid (show Rd W1 A0 n l ∧ Bytes l ∧ l.length = n ∧ Below w.heap.size w W1 ∧ FrOwn W1 g0 g1 from ⟨Kd.C_below hr0 hb1, hb, hlen, hb1, hown⟩)
  have HO := Lib.hid hown
  have HR0 := Lib.hid hr0
  clear hr0 hb hlen hg0 hg1 hz0 hb0 hb01 hb1 hp0 hown hW0 hW1
  by_cases h0 : n = 0
  · have d0 : decide (0 < n) = false := decide_eq_false (by omega)
    have d2 : decide ((n : Int) < 2) = true := decide_eq_true (by omega)
    have HF := Lib.hid (rdF_empty mask (show l.length = 0 by rw [HI.out.2.2.1]; exact h0))
    clear h0
    go_enter Tryd.func15, Tryd.ntmps15
    go_upto_region 2 with (fail)
    rw [← HS.out.1, ← HS.out.2.1, ← HS.out.2.2.2.2, ← HS.out.2.2.1]
    have q0 := HO.out.2.cell 0 _ rfl
    have q1 := HO.out.2.cell 1 _ rfl
    have q2 := HO.out.2.cell 2 _ rfl
    go_wp2_with (refine gate_ (.store 26 (.tmp 4) (.tmp 27)) rfl ?_; refine store_whole rfl rfl rfl rfl rfl HO.out.1 rfl (by simp [Value.oneCell']) rfl (by kernel_rfl) ?_; intro w9 hk9 hb9 hf9 hg9)
    refine bodyPost_ret (results_ctt rfl _ _ g0 _ _ _ _ rfl hk9 Tryd.underlying26 rfl (by kernel_rfl)) rfl ?_
    exact ⟨zeroF, 0, 1, .slice none 0 0, rfl, HF.out, Own.nil _ _, hb9 _ _ HI.out.2.2.2.1 HS.out.2.2.2.1⟩
  · have d0 : decide (0 < n) = true := decide_eq_true (by omega)
    have n0 : 0 < n := by omega
    have i0 : (0 : Int) < n := by omega
    obtain ⟨ad, hA, hcell⟩ := Rd.cells HI.out.1 n0
    subst hA
    have x0 := hcell 0 n0
    rw [Addr.add_zero'] at x0
    simp only [Int.natCast_zero] at x0
    have r0 : 0 ≤ rd l 0 ∧ rd l 0 < 256 := bytes_rd HI.out.2.1 0 (by rw [HI.out.2.2.1]; exact n0)
    obtain ⟨c, hc⟩ : ∃ c, c = rd l 0 := ⟨_, rfl⟩
    rw [← hc] at x0 r0
    have HC := Lib.hid (And.intro hc r0)
    have HX0 := Lib.hid (fun (W : World) (hW : Below w.heap.size w W) => (show W.cell? ad = some (.int .u8 c) by rw [hc]; exact Rd.at0 (Kd.C_below HR0.out hW) n0))
    clear hc r0 hcell h0
    go_enter Tryd.func15, Tryd.ntmps15
    go_upto_region 2 with (fail)
    rw [← HS.out.1, ← HS.out.2.1, ← HS.out.2.2.2.2, ← HS.out.2.2.1]
    go_wp2_with fail
    refine (wsFirst_calls c _ HC.out.2).mono ?_
    rintro e w' ⟨rfl, rfl⟩
    cases h1 : badF c with
    | true =>
      rw [firstE_bad h1]
      have HF := Lib.hid (rdF_first (mask := mask) (show 0 < l.length by rw [HI.out.2.2.1]; exact n0) (by rw [← HC.out.1]; exact h1))
      clear h1
      have q0 := HO.out.2.cell 0 _ rfl
      have q1 := HO.out.2.cell 1 _ rfl
      have q2 := HO.out.2.cell 2 _ rfl
      go_wp2_with (refine gate_ (.store 26 (.tmp 4) (.tmp 23)) rfl ?_; refine store_whole rfl rfl rfl rfl rfl HO.out.1 rfl (by simp [Value.oneCell']) rfl (by kernel_rfl) ?_; intro w9 hk9 hb9 hf9 hg9)
      refine bodyPost_ret (results_ctt rfl _ _ g0 _ _ _ _ rfl hk9 Tryd.underlying26 rfl (by kernel_rfl)) rfl ?_
      exact ⟨zeroF, 0, 1002, .slice none 0 0, rfl, HF.out, Own.nil _ _, hb9 _ _ HI.out.2.2.2.1 HS.out.2.2.2.1⟩
    | false =>
      rw [firstE_ok h1]
      have HB1 := Lib.hid (show badF (rd l 0) = false by rw [← HC.out.1]; exact h1)
      clear h1
      by_cases h2 : n = 1
      · have d2 : decide ((n : Int) < 2) = true := decide_eq_true (by omega)
        have HF := Lib.hid (rdF_one (mask := mask) (show l.length = 1 by rw [HI.out.2.2.1]; exact h2) HB1.out)
        clear h2 d0 n0 i0
        have q0 := HO.out.2.cell 0 _ rfl
        have q1 := HO.out.2.cell 1 _ rfl
        have q2 := HO.out.2.cell 2 _ rfl
        go_wp2_with (refine gate_ (.store 26 (.tmp 4) (.tmp 27)) rfl ?_; refine store_whole rfl rfl rfl rfl rfl HO.out.1 rfl (by simp [Value.oneCell']) rfl (by kernel_rfl) ?_; intro w9 hk9 hb9 hf9 hg9)
        refine bodyPost_ret (results_ctt rfl _ _ g0 _ _ _ _ rfl hk9 Tryd.underlying26 rfl (by kernel_rfl)) rfl ?_
        exact ⟨zeroF, 0, 1, .slice none 0 0, rfl, HF.out, Own.nil _ _, hb9 _ _ HI.out.2.2.2.1 HS.out.2.2.2.1⟩
      · have h2' : 2 ≤ n := by omega
        have d2 : decide ((n : Int) < 2) = false := decide_eq_false (by omega)
        have HN := Lib.hid h2'
        clear h2 h2'
        go_wp2_with fail
        refine (second_calls _ _ l mask _ HI.out.1 HI.out.2.1 HN.out).mono ?_
        rintro e w' ⟨rfl, rfl⟩
        cases h3 : badS (rd l 0) (rd l 1) mask with
        | true =>
          rw [secondE_bad h3]
          have HF := Lib.hid (rdF_second (show 2 ≤ l.length by rw [HI.out.2.2.1]; exact HN.out) HB1.out h3)
          clear h3
          have q0 := HO.out.2.cell 0 _ rfl
          have q1 := HO.out.2.cell 1 _ rfl
          have q2 := HO.out.2.cell 2 _ rfl
          go_wp2_with (refine gate_ (.store 26 (.tmp 4) (.tmp 32)) rfl ?_; refine store_whole rfl rfl rfl rfl rfl HO.out.1 rfl (by simp [Value.oneCell']) rfl (by kernel_rfl) ?_; intro w9 hk9 hb9 hf9 hg9)
          refine bodyPost_ret (results_ctt rfl _ _ g0 _ _ _ _ rfl hk9 Tryd.underlying26 rfl (by kernel_rfl)) rfl ?_
          exact ⟨zeroF, 0, 1002, .slice none 0 0, rfl, HF.out, Own.nil _ _, hb9 _ _ HI.out.2.2.2.1 HS.out.2.2.2.1⟩
        | false =>
          rw [secondE_ok h3]
          have HB2 := Lib.hid h3
          clear h3
          go_wp2_with fail
          refine (length_calls _ _ l _ HI.out.1 hc0 HI.out.2.1 HN.out).mono ?_
          rintro e w' ⟨⟨x, y, z, rfl, h4⟩, rfl⟩
          rcases h4.ok HI.out.2.1 (by rw [HI.out.2.2.1]; exact HN.out) with ⟨hz, _⟩ | ⟨rfl, N, T, rfl, rfl, hN, hT, hTn⟩
          · have HF := Lib.hid (rdF_why (show 2 ≤ l.length by rw [HI.out.2.2.1]; exact HN.out) HB1.out HB2.out h4 hz)
            have dz : (z != 0) = true := by unfold bne; rw [beq_eq_false_iff_ne.2 hz]; rfl
            clear h4 hz
            have q0 := HO.out.2.cell 0 _ rfl
            have q1 := HO.out.2.cell 1 _ rfl
            have q2 := HO.out.2.cell 2 _ rfl
            go_wp2_with (refine gate_ (.store 26 (.tmp 4) (.tmp 41)) rfl ?_; refine store_whole rfl rfl rfl rfl rfl HO.out.1 rfl (by simp [Value.oneCell']) rfl (by kernel_rfl) ?_; intro w9 hk9 hb9 hf9 hg9)
            refine bodyPost_ret (results_ctt rfl _ _ g0 _ _ _ _ rfl hk9 Tryd.underlying26 rfl (by kernel_rfl)) rfl ?_
            exact ⟨zeroF, 0, z, .slice none 0 0, rfl, HF.out, Own.nil _ _, hb9 _ _ HI.out.2.2.2.1 HS.out.2.2.2.1⟩
          · have HF := Lib.hid (rdF_body (show 2 ≤ l.length by rw [HI.out.2.2.1]; exact HN.out) HB1.out HB2.out h4)
            rw [HI.out.2.2.1] at hTn
            have HT := Lib.hid (show N ≤ 16384 ∧ (T = 2 ∨ T = 4) ∧ T ≤ n from ⟨hN, hT, hTn⟩)
            clear h4
            obtain ⟨W2, hW2⟩ : ∃ W2, W2 = w'.alloc (.cells #[.int .u8 0, .int .u8 0, .int .u8 0, .int .u8 0] 5) := ⟨_, rfl⟩
            obtain ⟨g2, hg2⟩ : ∃ g, g = w'.heap.size := ⟨_, rfl⟩
            have hb2 : Below w'.heap.size w' W2 := by rw [hW2]; exact below_alloc (Below.refl _ _) _
            have hk2 : Rd W2 (some ⟨g2, 0, none⟩) 4 [0, 0, 0, 0] := by rw [hW2, hg2]; exact C_const w' 5 [0, 0, 0, 0] (0, 0) (by decide)
            have HI2 := Lib.hid (show Rd W2 (some ad) n l ∧ Below w.heap.size w W2 ∧ FrOwn W2 g0 g1 ∧ Rd W2 (some ⟨g2, 0, none⟩) 4 [0, 0, 0, 0] from ⟨Kd.C_below HI.out.1 hb2, below_step HI.out.2.2.2.1 hb2, HI.out.2.2.2.2.below hb2, hk2⟩)
            have HE2 := Lib.hid (show g2 = w'.heap.size ∧ W2 = w'.alloc _ from ⟨hg2, hW2⟩)
            clear hg2 hW2 hb2 hk2 hN hT hTn
            cases mask with
            | false =>
              have w2 : IntKind.i64.wrap ((T : Int) + N) = (T : Int) + N := wrap_id (by omega) (by have := HT.out; omega)
              by_cases h6 : n < T + N
              · have d6 : decide ((n : Int) < (T : Int) + N) = true := decide_eq_true (by omega)
                have HV := Lib.hid (show rdF l false = (zeroF, 0, 1) by rw [HF.out]; unfold bodyR; rw [if_neg (by decide), HI.out.2.2.1, if_pos (by omega)])
                clear h6
                go_upto_region 12 with (fail)
                rw [← HE2.out.1, ← HE2.out.2]
                have q0 := HI2.out.2.2.1.2.cell 0 _ rfl
                have q1 := HI2.out.2.2.1.2.cell 1 _ rfl
                have q2 := HI2.out.2.2.1.2.cell 2 _ rfl
                go_wp2_with (refine gate_ (.store 26 (.tmp 4) (.tmp 64)) rfl ?_; refine store_whole rfl rfl rfl rfl rfl HI2.out.2.2.1.1 rfl (by simp [Value.oneCell']) rfl (by kernel_rfl) ?_; intro w9 hk9 hb9 hf9 hg9)
                refine bodyPost_ret (results_ctt rfl _ _ g0 _ _ _ _ rfl hk9 Tryd.underlying26 rfl (by kernel_rfl)) rfl ?_
                exact ⟨zeroF, 0, 1, .slice none 0 0, rfl, HV.out, Own.nil _ _, hb9 _ _ HI2.out.2.1 HS.out.2.2.2.1⟩
              have d6 : decide ((n : Int) < (T : Int) + N) = false := decide_eq_false (by omega)
              have HV := Lib.hid (show rdF l false = (⟨decide (128 ≤ c), c % 16, maskL ([0, 0, 0, 0]) ((l.drop (T)).take N)⟩, ((T + N : Nat) : Int), 0) by rw [HF.out]; unfold bodyR; rw [if_neg (by decide), HI.out.2.2.1, if_neg (by omega), ← HC.out.1]; rw [maskL_zero _ ((HI.out.2.1.dp T).tk N)])
              have HL := Lib.hid (show ((T : Int) + 4 = ((T + 4 : Nat) : Int)) ∧ (T : Int) + N = ((T + N : Nat) : Int) from ⟨by omega, by omega⟩)
              have HX : ∀ W, Below w'.heap.size w' W → ∃ B1 : Option Addr, B1 = (if c0 = T then some ad else some (ad.add T)) ∧ Rd W B1 N ((l.drop (T)).take N) := by
                intro W hW
                have hrow := Kd.C_below HI.out.1 hW
                by_cases hcl : c0 = T
                · have hN0 : N = 0 := by omega
                  subst hN0
                  refine ⟨_, rfl, ?_⟩
                  rw [List.take_zero]
                  exact Rd.empty _ _
                · refine ⟨_, rfl, ?_⟩
                  rw [if_neg hcl]
                  have hq := Rd.mid (x := (ad.add T)) hrow (T) (T + N) (by omega) (by omega) (fun _ => by first | rfl | (show _ = (if T = 0 then _ else _); rw [if_neg (by have := HT.out; omega)]))
                  rwa [List.drop_take, show T + N - (T) = N by omega] at hq
              have HXX := Lib.hid HX
              obtain ⟨b15, _, _, b128⟩ := byte_bits c HC.out.2
              have n128 : (bits .and .u8 c 128 != 0) = decide (128 ≤ c) := by unfold bne; rw [b128, ← decide_not, decide_eq_decide]; omega
              have w16 : IntKind.i64.wrap (c % 16) = c % 16 := wrap_id (by omega) (by omega)
              have m1 : (0 : Int) ≤ (T : Int) := by omega
              have m2 : (T : Int) ≤ (T : Int) + N := by omega
              have m3 : (T : Int) + N ≤ c0 := by omega
              have m4 : (0 : Int) ≤ (T : Int) + N := by omega
              have m5 : (T : Int) ≤ c0 := by omega
              have m7 : ((T : Int) + N).toNat = T + N := by omega
              have m8 : T + N - (T) = N := by omega
              have m9 : ((T : Int)).toNat = T := by omega
              clear h6 HX b128
              go_upto_region 12 with (fail)
              rw [← HE2.out.1, ← HE2.out.2]
              go_upto_region 19 with (fail)
              have HB6 := Lib.hid (show Below w'.heap.size w' W2.drew from below_step (by rw [HE2.out.2]; exact below_alloc (Below.refl _ _) _) (below_drew (Below.refl _ _)))
              obtain ⟨B1, hB1, hR1⟩ := HXX.out _ HB6.out
              rw [hB1] at hR1
              have HR1 := Lib.hid hR1
              clear hR1 HXX hB1
              by_cases hcl : c0 = T
              · rw [if_pos hcl] at HR1
                have HR2 := Lib.hid HR1.out
                clear HR1
                have hN0 : N = 0 := by omega
                have HL := Lib.hid (show (0 : Int) = 0 ∧ (T : Int) = ((T + 0 : Nat) : Int) from ⟨rfl, by omega⟩)
                have z1 : (T : Int) + N ≤ (T : Int) := by omega
                have z2 : (T : Int) + N ≤ ((T : Nat) : Int) := by omega
                have z3 : (T : Int) ≤ ((T : Nat) : Int) := by omega
                have z4 : (N : Int) ≤ 0 := by omega
                have z6 : IntKind.i64.wrap (T : Int) = T := wrap_id (by omega) (by have := HT.out; omega)
                subst hN0
                go_region_held3 (fun w' => w'.cell? ad = some (.int .u8 c)) (first | exact HX0.out _ (below_drew HI2.out.2.1) | exact HX0.out _ H5.out.1 | exact HX0.out _ (((H5.out.1.setCell HS.out.2.2.2.1 _).setCell HS.out.2.2.2.1 _).setCell HS.out.2.2.2.1 _)) (first | (go_at_call 41; (with_reducible refine (masked_calls _ _ ((l.drop (T)).take 0) _ _ ([0, 0, 0, 0]) _ HR2.out (by omega) (Kd.C_below HI2.out.2.2.2 (below_drew (Below.refl _ _))) (by have := HT.out; omega)).mono ?_); rintro e w5 ⟨v5, rfl, ho5, hb5⟩; have hne5 : some g0 ≠ v5.ownBlock := fun h => (by have h1 := ho5.ge g0 h.symm; have h2 := HI2.out.2.2.1.1.lt; have h3 : W2.drew.heap.size = W2.heap.size := rfl; omega); obtain ⟨A5, c5, rfl, _, _⟩ := ho5.reads; have H5 := Lib.hid (show Below w.heap.size w w5 ∧ FrOwn w5 g0 g1 ∧ Own w w5 (.slice A5 (maskL ([0, 0, 0, 0]) ((l.drop (T)).take 0)).length c5) (maskL ([0, 0, 0, 0]) ((l.drop (T)).take 0)) ∧ some g0 ≠ (Value.slice A5 (maskL ([0, 0, 0, 0]) ((l.drop (T)).take 0)).length c5).ownBlock from ⟨below_step HI2.out.2.1 (below_step (below_drew (Below.refl _ _)) hb5), HI2.out.2.2.1.below (below_step (below_drew (Below.refl _ _)) hb5), ho5.lower HI2.out.2.1.size, hne5⟩); have f0 := H5.out.2.1.1.free 0; have f1 := H5.out.2.1.1.free 1; have f2 := H5.out.2.1.1.free 2; have y0 := H5.out.2.1.1.cell 0 _ rfl; have y1 := H5.out.2.1.1.cell 1 _ rfl; have y2 := H5.out.2.1.1.cell 2 _ rfl; clear ho5 hb5 hne5) | (fail))
                all_goals
                  go_wp2
                  refine bodyPost_ret (results_ctt rfl _ _ g0 _ #[_, _, _] _ _ rfl (((H5.out.2.1.1.set 0 _).set 1 _).set 2 _) Tryd.underlying26 rfl (by kernel_rfl)) rfl ?_
                  exact ⟨⟨_, _, _⟩, _, 0, _, by rw [← HL.out.2]; rfl, HV.out, ((H5.out.2.2.1.far H5.out.2.2.2 _).far H5.out.2.2.2 _).far H5.out.2.2.2 _, ((H5.out.1.setCell HS.out.2.2.2.1 _).setCell HS.out.2.2.2.1 _).setCell HS.out.2.2.2.1 _⟩
              · rw [if_neg hcl] at HR1
                have HR2 := Lib.hid HR1.out
                clear HR1
                go_region_held3 (fun w' => w'.cell? ad = some (.int .u8 c)) (first | exact HX0.out _ (below_drew HI2.out.2.1) | exact HX0.out _ H5.out.1 | exact HX0.out _ (((H5.out.1.setCell HS.out.2.2.2.1 _).setCell HS.out.2.2.2.1 _).setCell HS.out.2.2.2.1 _)) (first | (go_at_call 41; (with_reducible refine (masked_calls _ _ ((l.drop (T)).take N) _ _ ([0, 0, 0, 0]) _ HR2.out (by omega) (Kd.C_below HI2.out.2.2.2 (below_drew (Below.refl _ _))) (by have := HT.out; omega)).mono ?_); rintro e w5 ⟨v5, rfl, ho5, hb5⟩; have hne5 : some g0 ≠ v5.ownBlock := fun h => (by have h1 := ho5.ge g0 h.symm; have h2 := HI2.out.2.2.1.1.lt; have h3 : W2.drew.heap.size = W2.heap.size := rfl; omega); obtain ⟨A5, c5, rfl, _, _⟩ := ho5.reads; have H5 := Lib.hid (show Below w.heap.size w w5 ∧ FrOwn w5 g0 g1 ∧ Own w w5 (.slice A5 (maskL ([0, 0, 0, 0]) ((l.drop (T)).take N)).length c5) (maskL ([0, 0, 0, 0]) ((l.drop (T)).take N)) ∧ some g0 ≠ (Value.slice A5 (maskL ([0, 0, 0, 0]) ((l.drop (T)).take N)).length c5).ownBlock from ⟨below_step HI2.out.2.1 (below_step (below_drew (Below.refl _ _)) hb5), HI2.out.2.2.1.below (below_step (below_drew (Below.refl _ _)) hb5), ho5.lower HI2.out.2.1.size, hne5⟩); have f0 := H5.out.2.1.1.free 0; have f1 := H5.out.2.1.1.free 1; have f2 := H5.out.2.1.1.free 2; have y0 := H5.out.2.1.1.cell 0 _ rfl; have y1 := H5.out.2.1.1.cell 1 _ rfl; have y2 := H5.out.2.1.1.cell 2 _ rfl; clear ho5 hb5 hne5) | (fail))
                all_goals
                  go_wp2
                  refine bodyPost_ret (results_ctt rfl _ _ g0 _ #[_, _, _] _ _ rfl (((H5.out.2.1.1.set 0 _).set 1 _).set 2 _) Tryd.underlying26 rfl (by kernel_rfl)) rfl ?_
                  exact ⟨⟨_, _, _⟩, _, 0, _, by rw [← HL.out.2]; rfl, HV.out, ((H5.out.2.2.1.far H5.out.2.2.2 _).far H5.out.2.2.2 _).far H5.out.2.2.2 _, ((H5.out.1.setCell HS.out.2.2.2.1 _).setCell HS.out.2.2.2.1 _).setCell HS.out.2.2.2.1 _⟩
            | true =>
              have w1 : IntKind.i64.wrap ((T : Int) + 4) = (T : Int) + 4 := wrap_id (by omega) (by have := HT.out; omega)
              by_cases h5 : n < T + 4
              · have d5 : decide ((n : Int) < (T : Int) + 4) = true := decide_eq_true (by omega)
                have HV := Lib.hid (show rdF l true = (zeroF, 0, 1) by rw [HF.out]; unfold bodyR; rw [if_pos rfl, HI.out.2.2.1, if_pos (by omega)])
                clear h5
                go_upto_region 12 with (fail)
                rw [← HE2.out.1, ← HE2.out.2]
                have q0 := HI2.out.2.2.1.2.cell 0 _ rfl
                have q1 := HI2.out.2.2.1.2.cell 1 _ rfl
                have q2 := HI2.out.2.2.1.2.cell 2 _ rfl
                go_wp2_with (refine gate_ (.store 26 (.tmp 4) (.tmp 50)) rfl ?_; refine store_whole rfl rfl rfl rfl rfl HI2.out.2.2.1.1 rfl (by simp [Value.oneCell']) rfl (by kernel_rfl) ?_; intro w9 hk9 hb9 hf9 hg9)
                refine bodyPost_ret (results_ctt rfl _ _ g0 _ _ _ _ rfl hk9 Tryd.underlying26 rfl (by kernel_rfl)) rfl ?_
                exact ⟨zeroF, 0, 1, .slice none 0 0, rfl, HV.out, Own.nil _ _, hb9 _ _ HI2.out.2.1 HS.out.2.2.2.1⟩
              have d5 : decide ((n : Int) < (T : Int) + 4) = false := decide_eq_false (by omega)
              have w2 : IntKind.i64.wrap ((T : Int) + 4 + N) = (T : Int) + 4 + N := wrap_id (by omega) (by have := HT.out; omega)
              by_cases h6 : n < T + 4 + N
              · have d6 : decide ((n : Int) < (T : Int) + 4 + N) = true := decide_eq_true (by omega)
                have HV := Lib.hid (show rdF l true = (zeroF, 0, 1) by rw [HF.out]; unfold bodyR; rw [if_pos rfl, HI.out.2.2.1, if_pos (by omega)])
                have k1 : (0 : Int) ≤ T := by omega
                have k2 : (T : Int) ≤ (T : Int) + 4 := by omega
                have k3 : (T : Int) + 4 ≤ c0 := by omega
                have k4 : (0 : Int) ≤ (T : Int) + 4 := by omega
                have k5 : (T : Int) ≤ c0 := by omega
                have k6 : ¬ c0 = T := by omega
                have k7 : ((T : Int) + 4).toNat = T + 4 := by omega
                have k8 : T + 4 - T = 4 := by omega
                clear h6
                go_upto_region 12 with (fail)
                rw [← HE2.out.1, ← HE2.out.2]
                have q0 := HI2.out.2.2.1.2.cell 0 _ rfl
                have q1 := HI2.out.2.2.1.2.cell 1 _ rfl
                have q2 := HI2.out.2.2.1.2.cell 2 _ rfl
                go_wp2_with (refine gate_ (.store 26 (.tmp 4) (.tmp 64)) rfl ?_; refine store_whole rfl rfl rfl rfl rfl HI2.out.2.2.1.1 rfl (by simp [Value.oneCell']) rfl (by kernel_rfl) ?_; intro w9 hk9 hb9 hf9 hg9)
                refine bodyPost_ret (results_ctt rfl _ _ g0 _ _ _ _ rfl hk9 Tryd.underlying26 rfl (by kernel_rfl)) rfl ?_
                exact ⟨zeroF, 0, 1, .slice none 0 0, rfl, HV.out, Own.nil _ _, hb9 _ _ HI2.out.2.1 HS.out.2.2.2.1⟩
              have d6 : decide ((n : Int) < (T : Int) + 4 + N) = false := decide_eq_false (by omega)
              have HV := Lib.hid (show rdF l true = (⟨decide (128 ≤ c), c % 16, maskL ((l.drop T).take 4) ((l.drop (T + 4)).take N)⟩, ((T + 4 + N : Nat) : Int), 0) by rw [HF.out]; unfold bodyR; rw [if_pos rfl, HI.out.2.2.1, if_neg (by omega), ← HC.out.1])
              have HL := Lib.hid (show ((T : Int) + 4 = ((T + 4 : Nat) : Int)) ∧ (T : Int) + 4 + N = ((T + 4 + N : Nat) : Int) from ⟨by omega, by omega⟩)
              have HX : ∀ W, Below w'.heap.size w' W → ∃ B1 : Option Addr, B1 = (if c0 = T + 4 then some ad else some ⟨ad.block, ad.off + (T + 4), none⟩) ∧ Rd W B1 N ((l.drop (T + 4)).take N) := by
                intro W hW
                have hrow := Kd.C_below HI.out.1 hW
                by_cases hcl : c0 = T + 4
                · have hN0 : N = 0 := by omega
                  subst hN0
                  refine ⟨_, rfl, ?_⟩
                  rw [List.take_zero]
                  exact Rd.empty _ _
                · refine ⟨_, rfl, ?_⟩
                  rw [if_neg hcl]
                  have hq := Rd.mid (x := ⟨ad.block, ad.off + (T + 4), none⟩) hrow (T + 4) (T + 4 + N) (by omega) (by omega) (fun _ => by first | rfl | (show _ = (if T + 4 = 0 then _ else _); rw [if_neg (by have := HT.out; omega)]))
                  rwa [List.drop_take, show T + 4 + N - (T + 4) = N by omega] at hq
              have HY : ∀ W, Below w'.heap.size w' W → Rd W (some (ad.add T)) 4 ((l.drop T).take 4) := by
                intro W hW
                have hrow := Kd.C_below HI.out.1 hW
                have hq := Rd.mid (x := ad.add T) hrow T (T + 4) (by omega) (by omega) (fun _ => rfl)
                rwa [List.drop_take, show T + 4 - T = 4 by omega] at hq
              have HXX := Lib.hid HX
              have HYY := Lib.hid HY
              obtain ⟨b15, _, _, b128⟩ := byte_bits c HC.out.2
              have n128 : (bits .and .u8 c 128 != 0) = decide (128 ≤ c) := by unfold bne; rw [b128, ← decide_not, decide_eq_decide]; omega
              have w16 : IntKind.i64.wrap (c % 16) = c % 16 := wrap_id (by omega) (by omega)
              have k1 : (0 : Int) ≤ T := by omega
              have k2 : (T : Int) ≤ (T : Int) + 4 := by omega
              have k3 : (T : Int) + 4 ≤ c0 := by omega
              have k5 : (T : Int) ≤ c0 := by omega
              have k6 : ¬ c0 = T := by omega
              have k7 : ((T : Int) + 4).toNat = T + 4 := by omega
              have k8 : T + 4 - T = 4 := by omega
              have m1 : (0 : Int) ≤ (T : Int) + 4 := by omega
              have m2 : (T : Int) + 4 ≤ (T : Int) + 4 + N := by omega
              have m3 : (T : Int) + 4 + N ≤ c0 := by omega
              have m4 : (0 : Int) ≤ (T : Int) + 4 + N := by omega
              have m5 : (T : Int) + 4 ≤ c0 := by omega
              have m7 : ((T : Int) + 4 + N).toNat = T + 4 + N := by omega
              have m8 : T + 4 + N - (T + 4) = N := by omega
              clear h6 HX b128 HY h5
              go_upto_region 12 with (fail)
              rw [← HE2.out.1, ← HE2.out.2]
              go_upto_region 19 with (fail)
              have HB6 := Lib.hid (show Below w'.heap.size w' W2.drew from below_step (by rw [HE2.out.2]; exact below_alloc (Below.refl _ _) _) (below_drew (Below.refl _ _)))
              obtain ⟨B1, hB1, hR1⟩ := HXX.out _ HB6.out
              rw [hB1] at hR1
              have HR1 := Lib.hid hR1
              clear hR1 HXX hB1
              by_cases hcl : c0 = T + 4
              · rw [if_pos hcl] at HR1
                have HR2 := Lib.hid HR1.out
                clear HR1
                have hN0 : N = 0 := by omega
                have HL := Lib.hid (show (0 : Int) = 0 ∧ (T : Int) + 4 = ((T + 4 + 0 : Nat) : Int) from ⟨rfl, by omega⟩)
                have z1 : (T : Int) + 4 + N ≤ (T : Int) + 4 := by omega
                have z2 : (T : Int) + 4 + N ≤ ((T + 4 : Nat) : Int) := by omega
                have z3 : (T : Int) + 4 ≤ ((T + 4 : Nat) : Int) := by omega
                have z4 : (N : Int) ≤ 0 := by omega
                have z5 : (T : Int) ≤ (T : Int) + 4 := by omega
                subst hN0
                go_region_held3 (fun w' => w'.cell? ad = some (.int .u8 c)) (first | exact HX0.out _ (below_drew HI2.out.2.1) | exact HX0.out _ H5.out.1 | exact HX0.out _ (((H5.out.1.setCell HS.out.2.2.2.1 _).setCell HS.out.2.2.2.1 _).setCell HS.out.2.2.2.1 _)) (first | (go_at_call 41; (with_reducible refine (masked_calls _ _ ((l.drop (T + 4)).take 0) _ _ ((l.drop T).take 4) _ HR2.out (by omega) (HYY.out _ (HB6.out)) (by have := HT.out; omega)).mono ?_); rintro e w5 ⟨v5, rfl, ho5, hb5⟩; have hne5 : some g0 ≠ v5.ownBlock := fun h => (by have h1 := ho5.ge g0 h.symm; have h2 := HI2.out.2.2.1.1.lt; have h3 : W2.drew.heap.size = W2.heap.size := rfl; omega); obtain ⟨A5, c5, rfl, _, _⟩ := ho5.reads; have H5 := Lib.hid (show Below w.heap.size w w5 ∧ FrOwn w5 g0 g1 ∧ Own w w5 (.slice A5 (maskL ((l.drop T).take 4) ((l.drop (T + 4)).take 0)).length c5) (maskL ((l.drop T).take 4) ((l.drop (T + 4)).take 0)) ∧ some g0 ≠ (Value.slice A5 (maskL ((l.drop T).take 4) ((l.drop (T + 4)).take 0)).length c5).ownBlock from ⟨below_step HI2.out.2.1 (below_step (below_drew (Below.refl _ _)) hb5), HI2.out.2.2.1.below (below_step (below_drew (Below.refl _ _)) hb5), ho5.lower HI2.out.2.1.size, hne5⟩); have f0 := H5.out.2.1.1.free 0; have f1 := H5.out.2.1.1.free 1; have f2 := H5.out.2.1.1.free 2; have y0 := H5.out.2.1.1.cell 0 _ rfl; have y1 := H5.out.2.1.1.cell 1 _ rfl; have y2 := H5.out.2.1.1.cell 2 _ rfl; clear ho5 hb5 hne5) | (fail))
                all_goals
                  go_wp2
                  refine bodyPost_ret (results_ctt rfl _ _ g0 _ #[_, _, _] _ _ rfl (((H5.out.2.1.1.set 0 _).set 1 _).set 2 _) Tryd.underlying26 rfl (by kernel_rfl)) rfl ?_
                  exact ⟨⟨_, _, _⟩, _, 0, _, by rw [← HL.out.2]; rfl, HV.out, ((H5.out.2.2.1.far H5.out.2.2.2 _).far H5.out.2.2.2 _).far H5.out.2.2.2 _, ((H5.out.1.setCell HS.out.2.2.2.1 _).setCell HS.out.2.2.2.1 _).setCell HS.out.2.2.2.1 _⟩
              · rw [if_neg hcl] at HR1
                have HR2 := Lib.hid HR1.out
                clear HR1
                go_region_held3 (fun w' => w'.cell? ad = some (.int .u8 c)) (first | exact HX0.out _ (below_drew HI2.out.2.1) | exact HX0.out _ H5.out.1 | exact HX0.out _ (((H5.out.1.setCell HS.out.2.2.2.1 _).setCell HS.out.2.2.2.1 _).setCell HS.out.2.2.2.1 _)) (first | (go_at_call 41; (with_reducible refine (masked_calls _ _ ((l.drop (T + 4)).take N) _ _ ((l.drop T).take 4) _ HR2.out (by omega) (HYY.out _ (HB6.out)) (by have := HT.out; omega)).mono ?_); rintro e w5 ⟨v5, rfl, ho5, hb5⟩; have hne5 : some g0 ≠ v5.ownBlock := fun h => (by have h1 := ho5.ge g0 h.symm; have h2 := HI2.out.2.2.1.1.lt; have h3 : W2.drew.heap.size = W2.heap.size := rfl; omega); obtain ⟨A5, c5, rfl, _, _⟩ := ho5.reads; have H5 := Lib.hid (show Below w.heap.size w w5 ∧ FrOwn w5 g0 g1 ∧ Own w w5 (.slice A5 (maskL ((l.drop T).take 4) ((l.drop (T + 4)).take N)).length c5) (maskL ((l.drop T).take 4) ((l.drop (T + 4)).take N)) ∧ some g0 ≠ (Value.slice A5 (maskL ((l.drop T).take 4) ((l.drop (T + 4)).take N)).length c5).ownBlock from ⟨below_step HI2.out.2.1 (below_step (below_drew (Below.refl _ _)) hb5), HI2.out.2.2.1.below (below_step (below_drew (Below.refl _ _)) hb5), ho5.lower HI2.out.2.1.size, hne5⟩); have f0 := H5.out.2.1.1.free 0; have f1 := H5.out.2.1.1.free 1; have f2 := H5.out.2.1.1.free 2; have y0 := H5.out.2.1.1.cell 0 _ rfl; have y1 := H5.out.2.1.1.cell 1 _ rfl; have y2 := H5.out.2.1.1.cell 2 _ rfl; clear ho5 hb5 hne5) | (fail))
                all_goals
                  go_wp2
                  refine bodyPost_ret (results_ctt rfl _ _ g0 _ #[_, _, _] _ _ rfl (((H5.out.2.1.1.set 0 _).set 1 _).set 2 _) Tryd.underlying26 rfl (by kernel_rfl)) rfl ?_
                  exact ⟨⟨_, _, _⟩, _, 0, _, by rw [← HL.out.2]; rfl, HV.out, ((H5.out.2.2.1.far H5.out.2.2.2 _).far H5.out.2.2.2 _).far H5.out.2.2.2 _, ((H5.out.1.setCell HS.out.2.2.2.1 _).setCell HS.out.2.2.2.1 _).setCell HS.out.2.2.2.1 _⟩
end Go.Proofs.YtcfbfmgckaehdaaDoor
