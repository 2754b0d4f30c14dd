/- The walk of a law: WsockClosesWalk. -/
import Derived.Test.YtcfbfmgckaehdaaDoorG01
import Derived.Test.YtcfbfmgckaehdaaDoorG12
import Derived.Test.YtcfbfmgckaehdaaDoorG18
namespace Go.Proofs.YtcfbfmgckaehdaaDoor
open Go.RowKit Go.Proofs.YtcfbfmgckaehdaaDoorW.PrintWords
theorem txL_length (code : Int) (s : ByteArray) : (txL code s).length = s.size + 2 := by unfold txL; rw [List.length_append, bytesOf_length]; simp; omega
theorem txE_ok {code : Int} {s : ByteArray} (h : txE code s = 0) : mayB code = true ∧ ¬ 0 ≤ charsOf (bytesOf s) ∧ s.size ≤ 123 := by
  unfold txE at h
  split at h
  · cases h
  · rename_i h1
    split at h
    · cases h
    · rename_i h2
      split at h
      · cases h
      · rename_i h3
        exact ⟨by cases hm : mayB code with | true => rfl | false => exact absurd hm h1, h2, by omega⟩
theorem txL_Bytes {code : Int} {s : ByteArray} (h : txE code s = 0) : Bytes (txL code s) := by
  have hm := of_decide_eq_true (show decide (1000 ≤ code ∧ code ≤ 1003 ∨ 1007 ≤ code ∧ code ≤ 1011 ∨ 3000 ≤ code ∧ code ≤ 4999) = true from (txE_ok h).1)
  unfold txL
  refine Bytes.app (fun x hx => ?_) (Bytes_bytesOf s)
  simp only [List.mem_cons, List.not_mem_nil, or_false] at hx
  rcases hx with rfl | rfl <;> omega
theorem close_wrE {code : Int} {s : ByteArray} (h : txE code s = 0) : wrE ⟨true, 8, txL code s⟩ 4 = 0 := by
  have h1 := txL_length code s
  have h2 := (txE_ok h).2.2
  unfold wrE
  rw [if_neg (by decide), if_neg (by simp [knownB]; omega), if_neg (by show ¬ 16384 < (txL code s).length; omega)]
theorem close_E {code : Int} {s : ByteArray} (h : txE code s = 0) : closeE (txL code s) = ⟨8, code, bytesOf s, false⟩ := by
  have hk := txE_ok h
  have hm := of_decide_eq_true (show decide (1000 ≤ code ∧ code ≤ 1003 ∨ 1007 ≤ code ∧ code ≤ 1011 ∨ 3000 ≤ code ∧ code ≤ 4999) = true from hk.1)
  have hl := txL_length code s
  have h0 : rd (txL code s) 0 = code / 256 := rfl
  have h1 : rd (txL code s) 1 = code % 256 := rfl
  have hc : 256 * rd (txL code s) 0 + rd (txL code s) 1 = code := by rw [h0, h1]; omega
  have hd : (txL code s).drop 2 = bytesOf s := rfl
  unfold closeE closeV
  rw [hc, hd, if_neg (by omega), if_neg (fun h2 => h2.elim (fun h3 => by omega) (fun h3 => by rw [hk.1] at h3; cases h3)), if_neg hk.2.1]
theorem close_next {code : Int} {s : ByteArray} {mk bh : List Int} (h : txE code s = 0) (hm : mk.length = 4) (hmb : Bytes mk) : nextW ⟨true, false, wrL ⟨true, 8, txL code s⟩ mk ++ bh, 0, []⟩ = (failC ⟨true, false, (wrL ⟨true, 8, txL code s⟩ mk ++ bh).drop (wrL ⟨true, 8, txL code s⟩ mk).length, 0, []⟩, some ⟨8, code, bytesOf s, false⟩) := by
  have hr := rdF_wrL (f := ⟨true, 8, txL code s⟩) (m := mk) (by rw [hm]; exact close_wrE h) (txL_Bytes h) hmb bh
  rw [show decide (mk.length = 4) = true from decide_eq_true hm] at hr
  have h1 := nextW_close (c := ⟨true, false, wrL ⟨true, 8, txL code s⟩ mk ++ bh, 0, []⟩) rfl hr rfl
  rw [h1, close_E h]
set_option maxRecDepth 20000 in
set_option maxHeartbeats 6400000 in
theorem WsockCloses_walk (code : Int) (s : ByteArray) (A : Option Addr) (c : Nat) (bh : List Int) (p0 p1 p2 p3 : Int) (w : World) (_hk : (Lit.int .i64 code).wf = true) (hs : s.size ≤ 140737488351232) (hr : Rd w A bh.length bh) (_hc : bh.length ≤ c) (_hsb : bh.length ≤ 140737488351232) (hb : Bytes bh) (hp : Bytes [p0, p1, p2, p3]) :
    Calls Tryd.prog 12 #[.int .i64 code, .string s, .slice A bh.length c, .agg #[.int .u8 p0, .int .u8 p1, .int .u8 p2, .int .u8 p3]] w fun e w' => e = .returned (.bool true) ∧ Below w.heap.size w w' := by
  obtain ⟨nb, hnb⟩ : ∃ n, n = bh.length := ⟨_, rfl⟩
  rw [← hnb] at hr ⊢
  obtain ⟨gp, hgp⟩ : ∃ g, g = w.heap.size := ⟨_, rfl⟩
  obtain ⟨mk, hmk⟩ : ∃ m, m = [p0, p1, p2, p3] := ⟨_, rfl⟩
  obtain ⟨W0, hW0⟩ : ∃ W0, W0 = w.alloc (.cells #[.int .u8 p0, .int .u8 p1, .int .u8 p2, .int .u8 p3] 32) := ⟨_, rfl⟩
  have hb0 : Below w.heap.size w W0 := by rw [hW0]; exact below_alloc (Below.refl _ _) _
  have hp0 : Rd W0 (some ⟨gp, 0, none⟩) 4 mk := by rw [hW0, hgp, hmk]; exact C_const w 32 [p0, p1, p2, p3] (0, 0) (by simp)
  have HS := Lib.hid (show gp = w.heap.size ∧ W0 = w.alloc _ from ⟨hgp, hW0⟩)
  have HM := Lib.hid (show Below w.heap.size w W0 ∧ Rd W0 (some ⟨gp, 0, none⟩) 4 mk from ⟨hb0, hp0⟩)
  have HI := Lib.hid (show Rd w A nb bh ∧ Bytes bh ∧ bh.length = nb ∧ Bytes mk ∧ mk.length = 4 from ⟨hr, hb, hnb.symm, by rw [hmk]; exact hp, by rw [hmk]; rfl⟩)
  clear hb0 hp0 hgp hW0 hr hb hp hnb hmk
  by_cases hbig : 32768 < nb ∨ 262144 < s.size
  · by_cases hl : 32768 < nb
    · have d1 : decide (32768 < (nb : Int)) = true := decide_eq_true (by omega)
      have d1' : decide (32768 < nb) = true := decide_eq_true hl
      clear hbig hl
      go_enter Tryd.func12, Tryd.ntmps12
      go_upto_region 1 with (fail)
      rw [← HS.out.1, ← HS.out.2]
      go_wp2_with fail
      refine (wsAwake_calls _).mono ?_
      rintro e w1 ⟨rfl, hb1⟩
      have HB := Lib.hid (below_step HM.out.1 hb1)
      clear hb1
      go_wp2
      go_ret
      exact ⟨rfl, HB.out⟩
    · have d1 : decide (32768 < (nb : Int)) = false := decide_eq_false (by omega)
      have d1' : decide (32768 < nb) = false := decide_eq_false hl
      have d2 : decide (262144 < (s.size : Int)) = true := decide_eq_true (by omega)
      have d2' : decide (262144 < s.size) = true := decide_eq_true (by omega)
      clear hbig hl
      go_enter Tryd.func12, Tryd.ntmps12
      go_upto_region 1 with (fail)
      rw [← HS.out.1, ← HS.out.2]
      go_wp2_with fail
      refine (wsAwake_calls _).mono ?_
      rintro e w1 ⟨rfl, hb1⟩
      have HB := Lib.hid (below_step HM.out.1 hb1)
      clear hb1
      go_wp2
      go_ret
      exact ⟨rfl, HB.out⟩
  · have d1 : decide (32768 < (nb : Int)) = false := decide_eq_false (by omega)
    have d1' : decide (32768 < nb) = false := decide_eq_false (by omega)
    have d2 : decide (262144 < (s.size : Int)) = false := decide_eq_false (by omega)
    have d2' : decide (262144 < s.size) = false := decide_eq_false (by omega)
    have HL := Lib.hid (show nb ≤ 32768 ∧ s.size ≤ 262144 from ⟨by omega, by omega⟩)
    clear hbig hs
    have kb := fun W => print_bytes (P := Tryd.prog) 9 22 5 Tryd.underlying9 Tryd.underlying22 Tryd.underlying5 s W
    go_enter Tryd.func12, Tryd.ntmps12
    go_upto_region 1 with (fail)
    rw [← HS.out.1, ← HS.out.2]
    go_wp2_with fail
    refine (WsText_calls code s _ (by have := HL.out; omega)).mono ?_
    rintro e w1 ⟨v1, rfl, ho1, hb1⟩
    obtain ⟨E, hE⟩ : ∃ E, E = txE code s := ⟨_, rfl⟩
    rw [← hE] at ho1 ⊢
    by_cases h0 : E = 0
    · rw [if_pos h0] at ho1
      have HE := Lib.hid (show txE code s = 0 from hE.symm.trans h0)
      have hpl := txL_length code s
      obtain ⟨np, hnp⟩ : ∃ n, n = (txL code s).length := ⟨_, rfl⟩
      obtain ⟨Ap, cp, rfl, hcp, hrp⟩ := ho1.reads
      rw [← hnp] at hcp hrp ⊢
      have H1 := Lib.hid (show Below w.heap.size w w1 ∧ Rd w1 Ap np (txL code s) ∧ np ≤ cp ∧ np ≤ 125 ∧ Rd w1 (some ⟨gp, 0, none⟩) 4 mk from ⟨below_step HM.out.1 hb1, hrp, hcp, by have := (txE_ok HE.out).2.2; omega, Kd.C_below HM.out.2 hb1⟩)
      subst h0
      clear hE ho1 hb1 hpl hnp hcp hrp d1 d1' d2 d2'
      go_wp2_with fail
      refine (WsWrite_calls true 8 Ap cp (txL code s) (some ⟨gp, 0, none⟩) 4 mk _ H1.out.2.1 H1.out.2.2.1 (txL_Bytes HE.out) (by have := H1.out; omega) H1.out.2.2.2.2 (by decide)).mono ?_
      rintro e w2 ⟨v2, rfl, ho2, hb2⟩
      have hE2 : wrE ⟨true, 8, txL code s⟩ mk.length = 0 := by rw [HI.out.2.2.2.2]; exact close_wrE HE.out
      rw [hE2]
      rw [if_pos hE2] at ho2
      obtain ⟨L, hL⟩ : ∃ L, L = (wrL ⟨true, 8, txL code s⟩ mk).length := ⟨_, rfl⟩
      have hLs : L ≤ 200 := by
        have h1 := txL_length code s
        have h2 := (txE_ok HE.out).2.2
        rw [hL, wrL_length, HI.out.2.2.2.2]
        show 2 + (if (txL code s).length ≤ 125 then 0 else 2) + 4 + (txL code s).length ≤ 200
        rw [if_pos (by omega)]
        omega
      obtain ⟨B, cb, rfl, hcb, hrb⟩ := ho2.reads
      rw [← hL] at hcb hrb ⊢
      have H2 := Lib.hid (show Below w.heap.size w w2 ∧ Rd w2 B L (wrL ⟨true, 8, txL code s⟩ mk) ∧ L ≤ cb ∧ L ≤ 200 ∧ (wrL ⟨true, 8, txL code s⟩ mk).length = L ∧ Bytes (wrL ⟨true, 8, txL code s⟩ mk) from ⟨below_step H1.out.1 hb2, hrb, hcb, hLs, hL.symm, wrL_Bytes hE2 (txL_Bytes HE.out) HI.out.2.2.2.1⟩)
      clear hE2 ho2 hb2 hL hLs hcb hrb
      go_wp2_with fail
      refine (WsNew_calls true _).mono ?_
      rintro e w3 ⟨rfl, hc3, hb3⟩
      obtain ⟨g, hg⟩ : ∃ g, g = w2.heap.size := ⟨_, rfl⟩
      rw [← hg] at hc3 ⊢
      have H3 := Lib.hid (show ConnAt w w3 g ⟨true, false, [], 0, []⟩ (.slice none 0 0) (.slice none 0 0) ∧ Below w.heap.size w w3 ∧ Rd w3 B L (wrL ⟨true, 8, txL code s⟩ mk) from ⟨hc3.lower H2.out.1.size, below_step H2.out.1 hb3, Kd.C_below H2.out.2.1 hb3⟩)
      clear hc3 hb3 hg
      obtain ⟨g4, hg4⟩ : ∃ g, g = w3.heap.size := ⟨_, rfl⟩
      have hn4 : ∀ W, W = w3.alloc (.cells #[.slice B L cb, .slice A nb c] 22) → W.cell? ⟨g4, 0, none⟩ = some (.slice B L cb) ∧ W.cell? ⟨g4, 1, none⟩ = some (.slice A nb c) ∧ ConnAt w W g ⟨true, false, [], 0, []⟩ (.slice none 0 0) (.slice none 0 0) ∧ Below w.heap.size w W ∧ Rd W B L (wrL ⟨true, 8, txL code s⟩ mk) := fun W hW => by
        have hk : Whole W g4 22 #[.slice B L cb, .slice A nb c] := by rw [hW, hg4]; exact Whole.new w3 _ _
        have hbw : Below w3.heap.size w3 W := by rw [hW]; exact below_alloc (Below.refl _ _) _
        exact ⟨hk.cell 0 _ rfl, hk.cell 1 _ rfl, H3.out.1.below hbw, below_step H3.out.2.1 hbw, Kd.C_below H3.out.2.2 hbw⟩
      have HN4 := Lib.hid hn4
      have HG4 := Lib.hid hg4
      clear hn4 hg4
      go_wp2_with fail
      rw [← HG4.out]
      obtain ⟨W4, hW4⟩ : ∃ W, W = w3.alloc (.cells #[.slice B L cb, .slice A nb c] 22) := ⟨_, rfl⟩
      rw [← hW4]
      have H4 := Lib.hid (HN4.out W4 hW4)
      clear hW4 HN4
      refine (Concat_calls B cb _ A c bh g4 _ H4.out.2.2.2.2 (Kd.C_below HI.out.1 H4.out.2.2.2.1) H4.out.1 H4.out.2.1 (by have := H2.out; have := HL.out; omega)).mono ?_
      rintro e w5 ⟨v5, rfl, ho5, hb5⟩
      obtain ⟨D, hD⟩ : ∃ D, D = wrL ⟨true, 8, txL code s⟩ mk ++ bh := ⟨_, rfl⟩
      obtain ⟨L5, hL5⟩ : ∃ n, n = D.length := ⟨_, rfl⟩
      rw [← hD] at ho5
      obtain ⟨A5, c5, rfl, _, hr5⟩ := ho5.reads
      rw [← hL5] at hr5 ⊢
      have hL5s : L5 ≤ 40000 := by rw [hL5, hD, List.length_append, H2.out.2.2.2.2.1, HI.out.2.2.1]; have := H2.out; have := HL.out; omega
      have H5 := Lib.hid (show ConnAt w w5 g ⟨true, false, [], 0, []⟩ (.slice none 0 0) (.slice none 0 0) ∧ Below w.heap.size w w5 ∧ Rd w5 A5 L5 D ∧ Bytes D ∧ D.length = L5 ∧ L5 ≤ 40000 ∧ D = wrL ⟨true, 8, txL code s⟩ mk ++ bh from ⟨H4.out.2.2.1.below hb5, below_step H4.out.2.2.2.1 hb5, hr5, by rw [hD]; exact Bytes.app H2.out.2.2.2.2.2 HI.out.2.1, hL5.symm, hL5s, hD⟩)
      clear ho5 hb5 hD hL5 hr5 hL5s
      go_wp2_with fail
      refine (WsFeed_calls w _ g ⟨true, false, [], 0, []⟩ _ _ A5 c5 D H5.out.1 H5.out.2.2.1 H5.out.2.2.2.1 H5.out.2.1).mono ?_
      rintro e w6 ⟨vw6, rfl, hc6, _, hb6⟩
      have hf : feedE ⟨true, false, [], 0, []⟩ D.length = 0 := by unfold feedE; rw [if_neg (by decide), if_neg (by show ¬ 65536 < 0 + D.length; have := H5.out; omega)]
      rw [hf]
      have H6 := Lib.hid (show ConnAt w w6 g ⟨true, false, D, 0, []⟩ vw6 (.slice none 0 0) ∧ Below w.heap.size w w6 from ⟨by unfold feedC at hc6; rw [if_pos hf] at hc6; exact hc6, hb6⟩)
      clear hf hc6 hb6
      go_upto_region 10 with (fail)
      go_wp2_with fail
      refine (WsNext_calls w _ g _ _ _ H6.out.1 H6.out.2).mono ?_
      rintro e w7 ⟨vw7, vl7, v7, x7, ok7, rfl, hs7, ho7, hc7, _, hap7, hb7, _⟩
      have hnx := close_next (bh := bh) HE.out HI.out.2.2.2.2 HI.out.2.2.2.1
      rw [← H5.out.2.2.2.2.2.2] at hnx
      rw [hnx] at hs7 hc7
      obtain ⟨c7, hc7'⟩ : ∃ x, x = failC ⟨true, false, D.drop (wrL ⟨true, 8, txL code s⟩ mk).length, 0, []⟩ := ⟨_, rfl⟩
      dsimp only at hs7 hc7
      rw [← hc7'] at hc7
      obtain ⟨rfl, hx7⟩ : ok7 = true ∧ x7 = ⟨8, code, bytesOf s, false⟩ := by
        rcases hs7 with ⟨h1, h2⟩ | ⟨_, h2, _⟩
        · exact ⟨h1, (Option.some.inj h2).symm⟩
        · cases h2
      subst hx7
      obtain ⟨A7, k7, rfl, _, hr7⟩ := ho7.reads
      obtain ⟨L7, hL7⟩ : ∃ n, n = (bytesOf s).length := ⟨_, rfl⟩
      dsimp only at ho7 hr7 hap7 ⊢
      rw [← hL7] at ho7 hap7 hr7 ⊢
      have H7 := Lib.hid (show ConnAt w w7 g c7 vw7 vl7 ∧ Below w.heap.size w w7 ∧ Own w w7 (.slice A7 L7 k7) (bytesOf s) ∧ (∀ k, Foot g vw7 vl7 k → some k ≠ (Value.slice A7 L7 k7).ownBlock) ∧ c7.over = true ∧ c7.wait = [] ∧ L7 = (bytesOf s).length from ⟨hc7, hb7, ho7, hap7, by rw [hc7']; rfl, by rw [hc7']; rfl, hL7⟩)
      clear hs7 ho7 hc7 hap7 hb7 hnx hc7' hr7 hL7
      obtain ⟨g8, hg8⟩ : ∃ g, g = w7.heap.size := ⟨_, rfl⟩
      obtain ⟨W8, hW8⟩ : ∃ W, W = w7.alloc (.cells #[.int .i64 8, .int .i64 code, .slice A7 L7 k7, .bool false] 51) := ⟨_, rfl⟩
      have hb8 : Below w7.heap.size w7 W8 := by rw [hW8]; exact below_alloc (Below.refl _ _) _
      have hk8 : Whole W8 g8 51 #[.int .i64 8, .int .i64 code, .slice A7 L7 k7, .bool false] := by rw [hW8, hg8]; exact Whole.new w7 _ _
      have HS8 := Lib.hid (show g8 = w7.heap.size ∧ W8 = w7.alloc _ from ⟨hg8, hW8⟩)
      have H8 := Lib.hid (show ConnAt w W8 g c7 vw7 vl7 ∧ Below w.heap.size w W8 ∧ Own w W8 (.slice A7 L7 k7) (bytesOf s) ∧ Whole W8 g8 51 #[.int .i64 8, .int .i64 code, .slice A7 L7 k7, .bool false] ∧ ¬ Foot g vw7 vl7 g8 from ⟨H7.out.1.below hb8, below_step H7.out.2.1 hb8, H7.out.2.2.1.below hb8, hk8, H7.out.1.outside g8 (by omega)⟩)
      clear hb8 hk8 hg8 hW8
      go_upto_region 11 with (fail)
      rw [← HS8.out.1, ← HS8.out.2]
      go_wp2_with fail
      refine (WsNext_calls w _ g _ _ _ H8.out.1 H8.out.2.1).mono ?_
      rintro e w9 ⟨vw9, vl9, v9, x9, ok9, rfl, hs9, ho9, hc9, hr9, _, hb9, _⟩
      rw [nextW_over H7.out.2.2.2.2.1] at hs9 hc9
      obtain ⟨rfl, hx9⟩ : ok9 = false ∧ x9 = ⟨0, 0, [], false⟩ := by
        rcases hs9 with ⟨_, h2⟩ | ⟨h1, _, h3⟩
        · cases h2
        · exact ⟨h1, h3⟩
      subst hx9
      obtain ⟨A9, k9, rfl, _, _⟩ := ho9.reads
      have H9 := Lib.hid (show ConnAt w w9 g c7 vw9 vl9 ∧ Below w.heap.size w w9 ∧ Own w w9 (.slice A7 L7 k7) (bytesOf s) ∧ Whole w9 g8 51 #[.int .i64 8, .int .i64 code, .slice A7 L7 k7, .bool false] from
        ⟨hc9, hb9, H8.out.2.2.1.keep (fun k hk hlt => hr9.2.1 k hlt (fun hF => H7.out.2.2.2.1 k hF hk)), H8.out.2.2.2.1.far (hr9.2.1 g8 H8.out.2.2.2.1.lt H8.out.2.2.2.2)⟩)
      dsimp only
      clear hs9 ho9 hc9 hr9 hb9
      obtain ⟨W10, hW10⟩ : ∃ W, W = w9.alloc (.cells #[.int .i64 0, .int .i64 0, .slice A9 0 k9, .bool false] 51) := ⟨_, rfl⟩
      have HS10 := Lib.hid hW10
      have hb10 : Below w9.heap.size w9 W10 := by rw [hW10]; exact below_alloc (Below.refl _ _) _
      have H10 := Lib.hid (show ConnAt w W10 g c7 vw9 vl9 ∧ Below w.heap.size w W10 ∧ Own w W10 (.slice A7 L7 k7) (bytesOf s) ∧ Whole W10 g8 51 #[.int .i64 8, .int .i64 code, .slice A7 L7 k7, .bool false] from ⟨H9.out.1.below hb10, below_step H9.out.2.1 hb10, H9.out.2.2.1.below hb10, H9.out.2.2.2.below hb10 H9.out.2.2.2.lt⟩)
      clear hW10 hb10
      obtain ⟨gs, hgs⟩ : ∃ x, x = W10.heap.size := ⟨_, rfl⟩
      obtain ⟨G, hG⟩ : ∃ x, x = grownCap W10 s.size 0 5 := ⟨_, rfl⟩
      obtain ⟨W11, hW11⟩ : ∃ W, W = Lib.bytesWorld W10 5 s := ⟨_, rfl⟩
      obtain ⟨g12, hg12⟩ : ∃ x, x = W11.heap.size := ⟨_, rfl⟩
      obtain ⟨W12, hW12⟩ : ∃ W, W = W11.alloc (.cells #[.int .i64 8, .int .i64 code, .slice (some ⟨gs, 0, none⟩) s.size G, .bool false] 51) := ⟨_, rfl⟩
      have hb11 : Below W10.heap.size W10 W11 := by rw [hW11]; exact bytes_below (Below.refl _ _) (Nat.le_refl _) _ _
      have hb12 : Below W11.heap.size W11 W12 := by rw [hW12]; exact below_alloc (Below.refl _ _) _
      have hb1012 := below_step hb11 hb12
      have hrs : Rd W11 (some ⟨gs, 0, none⟩) s.size (bytesOf s) := by rw [hW11, hgs]; exact str_reads W10 s (by have := HL.out; omega)
      have hk12 : Whole W12 g12 51 #[.int .i64 8, .int .i64 code, .slice (some ⟨gs, 0, none⟩) s.size G, .bool false] := by rw [hW12, hg12]; exact Whole.new W11 _ _
      have HS12 := Lib.hid (show gs = W10.heap.size ∧ G = grownCap W10 s.size 0 5 ∧ W11 = Lib.bytesWorld W10 5 s ∧ g12 = W11.heap.size ∧ W12 = W11.alloc _ from ⟨hgs, hG, hW11, hg12, hW12⟩)
      have H12 := Lib.hid (show ConnAt w W12 g c7 vw9 vl9 ∧ Below w.heap.size w W12 ∧ Rd W12 A7 L7 (bytesOf s) ∧ Whole W12 g8 51 #[.int .i64 8, .int .i64 code, .slice A7 L7 k7, .bool false] ∧ Whole W12 g12 51 #[.int .i64 8, .int .i64 code, .slice (some ⟨gs, 0, none⟩) s.size G, .bool false] ∧ Rd W12 (some ⟨gs, 0, none⟩) s.size (bytesOf s) from
        ⟨H10.out.1.below hb1012, below_step H10.out.2.1 hb1012, (H10.out.2.2.1.below hb1012).row, H10.out.2.2.2.below hb1012 H10.out.2.2.2.lt, hk12, Kd.C_below hrs hb12⟩)
      clear hgs hG hW11 hg12 hW12 hb11 hb12 hb1012 hrs hk12
      go_upto_region 12 with (fail)
      rw [← HS10.out]
      go_upto_region 13 with (fail)
      rw [← HS12.out.1, ← HS12.out.2.1, ← HS12.out.2.2.1, ← HS12.out.2.2.2.1, ← HS12.out.2.2.2.2]
      clear kb
      have x0 := H12.out.2.2.2.1.cell 0 _ rfl
      have x1 := H12.out.2.2.2.1.cell 1 _ rfl
      have x2 := H12.out.2.2.2.1.cell 2 _ rfl
      have x3 := H12.out.2.2.2.1.cell 3 _ rfl
      have y0 := H12.out.2.2.2.2.1.cell 0 _ rfl
      have y1 := H12.out.2.2.2.2.1.cell 1 _ rfl
      have y2 := H12.out.2.2.2.2.1.cell 2 _ rfl
      have y3 := H12.out.2.2.2.2.1.cell 3 _ rfl
      go_wp2_with fail
      refine (SameEvent_true 8 code A7 k7 (bytesOf s) _ G false _ H12.out.2.2.1 H12.out.2.2.2.2.2).mono ?_
      rintro e w13 ⟨rfl, hb13⟩
      have H13 := Lib.hid (show ConnAt w w13 g c7 vw9 vl9 ∧ Below w.heap.size w w13 from ⟨H12.out.1.below hb13, below_step H12.out.2.1 hb13⟩)
      clear hb13 x0 x1 x2 x3 y0 y1 y2 y3
      go_wp2_with fail
      refine (WsOver_calls w _ g c7 vw9 vl9 H13.out.1).mono ?_
      rintro e w14 ⟨rfl, he14⟩
      have H14 := Lib.hid (show ConnAt w w14 g c7 vw9 vl9 ∧ Below w.heap.size w w14 by rw [he14]; exact H13.out)
      rw [H7.out.2.2.2.2.1]
      clear he14
      go_wp2_with fail
      refine (WsWaiting_calls w _ g c7 vw9 vl9 H14.out.1).mono ?_
      rintro e w15 ⟨rfl, he15⟩
      have H15 := Lib.hid (show ConnAt w w15 g c7 vw9 vl9 ∧ Below w.heap.size w w15 by rw [he15]; exact H14.out)
      rw [H7.out.2.2.2.2.2.1]
      clear he15
      go_wp2_with fail
      refine (WsFeed_calls w _ g c7 _ _ A c bh H15.out.1 (Kd.C_below HI.out.1 H15.out.2) HI.out.2.1 H15.out.2).mono ?_
      rintro e w16 ⟨vw16, rfl, _, _, hb16⟩
      rw [show feedE c7 bh.length = 31 from by unfold feedE; rw [if_pos H7.out.2.2.2.2.1]]
      have HB16 := Lib.hid hb16
      clear hb16
      go_wp2_with fail
      refine (wsAwake_calls _).mono ?_
      rintro e w17 ⟨rfl, hb17⟩
      have HB17 := Lib.hid (below_step HB16.out hb17)
      clear hb17
      go_wp2
      go_ret
      exact ⟨rfl, HB17.out⟩
    · rw [if_neg h0] at ho1
      obtain ⟨Ap, cp, rfl, _, _⟩ := ho1.reads
      have eE : (E != 0) = true := by rw [bne_iff_ne]; exact h0
      have HB1 := Lib.hid (below_step HM.out.1 hb1)
      clear hE ho1 hb1 h0
      go_wp2_with fail
      refine (wsAwake_calls _).mono ?_
      rintro e w2 ⟨rfl, hb2⟩
      have HB2 := Lib.hid (below_step HB1.out hb2)
      clear hb2
      go_wp2
      go_ret
      exact ⟨rfl, HB2.out⟩
end Go.Proofs.YtcfbfmgckaehdaaDoor
