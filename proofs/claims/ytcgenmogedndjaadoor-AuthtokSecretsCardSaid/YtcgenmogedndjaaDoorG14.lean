/- The texts AuthMake, FormRef, CursorText, ReadForm in one. -/
import Derived.Test.YtcgenmogedndjaaDoorG01
import Derived.Test.YtcgenmogedndjaaDoorG03
import Derived.Test.YtcgenmogedndjaaDoorG10
import Derived.Test.YtcgenmogedndjaaDoorG11
import Derived.Test.YtcgenmogedndjaaDoorG12
import Derived.Test.YtcgenmogedndjaaDoorG13
namespace Go.Proofs.YtcgenmogedndjaaDoor
open Go.RowKit Go.Proofs.YtcgenmogedndjaaDoorW.PrintWords
/-- A claim's error. -/
def clmE (c : Clm) : Int := if nameB c.client = false ∨ nameB c.group = false then 6 else if c.upto < 0 ∨ 1099511627776 < c.upto then 1 else 0
def newest (L : List Sec) : Sec := L.getD (L.length - 1) Sec.none
def makeR (L : List Sec) (c : Clm) : ByteArray × Int :=
  if checkB L = false then (ByteArray.empty, 102) else if clmE c ≠ 0 then (ByteArray.empty, clmE c) else (tokS (newest L) c, 0)
theorem makeR_bad {L : List Sec} {c : Clm} (h : checkB L = false) : makeR L c = (ByteArray.empty, 102) := if_pos h
theorem makeR_clm {L : List Sec} {c : Clm} {e : Int} (h : checkB L = true) (he : clmE c = e) (h0 : e ≠ 0) : makeR L c = (ByteArray.empty, e) := by
  unfold makeR
  rw [if_neg (by rw [h]; decide), he, if_pos h0]
theorem makeR_ok {L : List Sec} {c : Clm} (h : checkB L = true) (he : clmE c = 0) : makeR L c = (tokS (newest L) c, 0) := by
  unfold makeR
  rw [if_neg (by rw [h]; decide), he, if_neg (by simp)]
theorem clmE_name1 {a b : ByteArray} {u : Int} (h : nameB a = false) : clmE ⟨a, b, u⟩ = 6 := if_pos (.inl h)
theorem clmE_name2 {a b : ByteArray} {u : Int} (h : nameB b = false) : clmE ⟨a, b, u⟩ = 6 := if_pos (.inr h)
theorem clmE_time {a b : ByteArray} {u : Int} (h1 : nameB a = true) (h2 : nameB b = true) (h : u < 0 ∨ 1099511627776 < u) : clmE ⟨a, b, u⟩ = 1 := by
  unfold clmE
  rw [if_neg (by simp [h1, h2]), if_pos h]
theorem clmE_ok {a b : ByteArray} {u : Int} (h1 : nameB a = true) (h2 : nameB b = true) (h : 0 ≤ u ∧ u ≤ 1099511627776) : clmE ⟨a, b, u⟩ = 0 := by
  unfold clmE
  rw [if_neg (by simp [h1, h2]), if_neg (by simp only; omega)]
theorem checkE_no {L : List Sec} (h : checkB L = false) : checkE L = 102 := by unfold checkE; rw [h]; rfl
theorem checkE_yes {L : List Sec} (h : checkB L = true) : checkE L = 0 := if_pos h
theorem checkB_len {L : List Sec} (h : checkB L = true) : 1 ≤ L.length ∧ L.length ≤ 8 := by
  unfold checkB at h
  rw [Bool.and_eq_true, decide_eq_true_eq] at h
  exact h.1
theorem rise_all : ∀ (L : List Sec) (last : Int), rise last L = true → ∀ s ∈ L, last < s.id ∧ s.id ≤ 1099511627776 ∧ 16 ≤ s.key.length ∧ s.key.length ≤ 64
  | [], _, _ => fun _ h => by cases h
  | a :: t, last, h => by
    rw [rise, Bool.and_eq_true, decide_eq_true_eq] at h
    intro s hs
    rcases List.mem_cons.1 hs with rfl | hs
    · exact h.1
    · have := rise_all t a.id h.2 s hs
      omega
theorem checkB_all {L : List Sec} (h : checkB L = true) : ∀ s ∈ L, 0 ≤ s.id ∧ s.id ≤ 1099511627776 ∧ 16 ≤ s.key.length ∧ s.key.length ≤ 64 := by
  intro s hs
  have h2 := h
  rw [checkB_eq (checkB_len h)] at h2
  have := rise_all L (-1) h2 s hs
  omega
theorem newest_mem {L : List Sec} (h : 1 ≤ L.length) : newest L ∈ L := by
  unfold newest
  rw [List.getD_eq_getElem?_getD, List.getElem?_eq_getElem (by omega)]
  exact List.getElem_mem _
set_option maxHeartbeats 3200000 in
theorem Make_calls {n : Nat} (A0 : Option Addr) (c0 : Nat) (L : List Sec) (a b : ByteArray) (u : Int) (w : World) (hr0 : RdS w A0 n L) (hok : SecOk L) (ha : a.size ≤ 65536) (hb : b.size ≤ 65536) (hu : -9223372036854775808 ≤ u ∧ u ≤ 9223372036854775807) (hG : Laid w) :
    Calls Tryd.prog 12 #[.slice A0 n c0, .agg #[.string a, .string b, .int .i64 u]] w fun e w' => e = .returned (.tuple #[.string (makeR L ⟨a, b, u⟩).1, .int .i64 (makeR L ⟨a, b, u⟩).2]) ∧ Below w.heap.size w w' := by
  have hlen : L.length = n := Kd.C_len hr0
  have hmax := Kd.C_max hr0
  obtain ⟨R, hR⟩ : ∃ R, R = makeR L ⟨a, b, u⟩ := ⟨_, rfl⟩
  rw [← hR]
  have HRR := Lib.hid hR
  obtain ⟨g, hg⟩ : ∃ g, g = w.heap.size := ⟨_, rfl⟩
  obtain ⟨W0, hW0⟩ : ∃ W0, W0 = w.alloc (.cells #[.string a, .string b, .int .i64 u] 24) := ⟨_, rfl⟩
  have hbw : Below w.heap.size w W0 := by rw [hW0]; exact below_alloc (Below.refl _ _) _
  have hhp : W0.heap[g]? = some (.cells #[.string a, .string b, .int .i64 u] 24) := by rw [hW0, hg]; exact heap_alloc_new w _
  have x0 : W0.cell? ⟨g, 0, none⟩ = some (.string a) := by simp [World.cell?, hhp]
  have x1 : W0.cell? ⟨g, 1, none⟩ = some (.string b) := by simp [World.cell?, hhp]
  have x2 : W0.cell? ⟨g, 2, none⟩ = some (.int .i64 u) := by simp [World.cell?, hhp]
  have HX := Lib.hid (And.intro x0 (And.intro x1 x2))
  have HS := Lib.hid (show g = w.heap.size ∧ W0 = w.alloc _ from ⟨hg, hW0⟩)
  have HI := Lib.hid (show RdS W0 A0 n L ∧ SecOk L ∧ Below w.heap.size w W0 ∧ L.length = n ∧ Laid W0 from ⟨Kd.C_below hr0 hbw, hok, hbw, hlen, hG.below hbw hG.lt⟩)
  have HU := Lib.hid (show a.size ≤ 65536 ∧ b.size ≤ 65536 ∧ (-9223372036854775808 ≤ u ∧ u ≤ 9223372036854775807) from ⟨ha, hb, hu⟩)
  clear x0 x1 x2 hR hg hW0 hbw hhp hr0 hok ha hb hu hG hlen hmax
  cases hc : checkB L with
  | false =>
    have HE := Lib.hid (show R = (ByteArray.empty, 102) by rw [HRR.out]; exact makeR_bad hc)
    have HC := Lib.hid (checkE_no hc)
    clear hc
    go_enter Tryd.func12, Tryd.ntmps12
    go_wp2_with fail
    rw [← HS.out.1, ← HS.out.2]
    refine (Check_calls _ _ _ _ HI.out.1).mono ?_
    rintro e w1 ⟨rfl, hb1⟩
    have HB1 := Lib.hid hb1
    have y0 := pw_cell_below hb1 HX.out.1
    have y1 := pw_cell_below hb1 HX.out.2.1
    have y2 := pw_cell_below hb1 HX.out.2.2
    rw [HC.out]
    clear hb1
    go_wp2
    go_ret2
    exact ⟨by rw [HE.out]; rfl, below_step HI.out.2.2.1 HB1.out⟩
  | true =>
    have HC := Lib.hid (checkE_yes hc)
    have HCB := Lib.hid hc
    cases h1 : nameB a with
    | false =>
      have HE := Lib.hid (show R = (ByteArray.empty, 6) by rw [HRR.out]; exact makeR_clm hc (clmE_name1 h1) (by decide))
      have HN1 := Lib.hid h1
      clear hc h1
      go_enter Tryd.func12, Tryd.ntmps12
      go_wp2_with fail
      rw [← HS.out.1, ← HS.out.2]
      refine (Check_calls _ _ _ _ HI.out.1).mono ?_
      rintro e w1 ⟨rfl, hb1⟩
      have HB1 := Lib.hid hb1
      have y0 := pw_cell_below hb1 HX.out.1
      have y1 := pw_cell_below hb1 HX.out.2.1
      have y2 := pw_cell_below hb1 HX.out.2.2
      rw [HC.out]
      clear hb1
      go_wp2_with fail
      refine (Name_calls a _ (by have := HU.out; omega)).mono ?_
      rintro e w2 ⟨rfl, hb2⟩
      have HB2 := Lib.hid (below_step HB1.out hb2)
      have z0 := pw_cell_below hb2 y0
      have z1 := pw_cell_below hb2 y1
      have z2 := pw_cell_below hb2 y2
      clear y0 y1 y2 hb2
      rw [HN1.out]
      go_wp2
      go_ret2
      exact ⟨by rw [HE.out]; rfl, below_step HI.out.2.2.1 HB2.out⟩
    | true =>
      have HN1 := Lib.hid h1
      cases h2 : nameB b with
      | false =>
        have HE := Lib.hid (show R = (ByteArray.empty, 6) by rw [HRR.out]; exact makeR_clm hc (clmE_name2 h2) (by decide))
        have HN2 := Lib.hid h2
        clear hc h1 h2
        go_enter Tryd.func12, Tryd.ntmps12
        go_wp2_with fail
        rw [← HS.out.1, ← HS.out.2]
        refine (Check_calls _ _ _ _ HI.out.1).mono ?_
        rintro e w1 ⟨rfl, hb1⟩
        have HB1 := Lib.hid hb1
        have y0 := pw_cell_below hb1 HX.out.1
        have y1 := pw_cell_below hb1 HX.out.2.1
        have y2 := pw_cell_below hb1 HX.out.2.2
        rw [HC.out]
        clear hb1
        go_wp2_with fail
        refine (Name_calls a _ (by have := HU.out; omega)).mono ?_
        rintro e w2 ⟨rfl, hb2⟩
        have HB2 := Lib.hid (below_step HB1.out hb2)
        have z0 := pw_cell_below hb2 y0
        have z1 := pw_cell_below hb2 y1
        have z2 := pw_cell_below hb2 y2
        clear y0 y1 y2 hb2
        rw [HN1.out]
        go_wp2_with fail
        refine (Name_calls b _ (by have := HU.out; omega)).mono ?_
        rintro e w3 ⟨rfl, hb3⟩
        have HB3 := Lib.hid (below_step HB2.out hb3)
        have t0 := pw_cell_below hb3 z0
        have t1 := pw_cell_below hb3 z1
        have t2 := pw_cell_below hb3 z2
        clear z0 z1 z2 hb3
        rw [HN2.out]
        go_wp2
        go_ret2
        exact ⟨by rw [HE.out]; rfl, below_step HI.out.2.2.1 HB3.out⟩
      | true =>
        have HN2 := Lib.hid h2
        by_cases hlo : u < 0
        · have HE := Lib.hid (show R = (ByteArray.empty, 1) by rw [HRR.out]; exact makeR_clm hc (clmE_time h1 h2 (by omega)) (by decide))
          have d1 : decide (u < 0) = true := decide_eq_true hlo
          clear hc h1 h2 hlo
          go_enter Tryd.func12, Tryd.ntmps12
          go_wp2_with fail
          rw [← HS.out.1, ← HS.out.2]
          refine (Check_calls _ _ _ _ HI.out.1).mono ?_
          rintro e w1 ⟨rfl, hb1⟩
          have HB1 := Lib.hid hb1
          have y0 := pw_cell_below hb1 HX.out.1
          have y1 := pw_cell_below hb1 HX.out.2.1
          have y2 := pw_cell_below hb1 HX.out.2.2
          rw [HC.out]
          clear hb1
          go_wp2_with fail
          refine (Name_calls a _ (by have := HU.out; omega)).mono ?_
          rintro e w2 ⟨rfl, hb2⟩
          have HB2 := Lib.hid (below_step HB1.out hb2)
          have z0 := pw_cell_below hb2 y0
          have z1 := pw_cell_below hb2 y1
          have z2 := pw_cell_below hb2 y2
          clear y0 y1 y2 hb2
          rw [HN1.out]
          go_wp2_with fail
          refine (Name_calls b _ (by have := HU.out; omega)).mono ?_
          rintro e w3 ⟨rfl, hb3⟩
          have HB3 := Lib.hid (below_step HB2.out hb3)
          have t0 := pw_cell_below hb3 z0
          have t1 := pw_cell_below hb3 z1
          have t2 := pw_cell_below hb3 z2
          clear z0 z1 z2 hb3
          rw [HN2.out]
          go_wp2
          go_ret2
          exact ⟨by rw [HE.out]; rfl, below_step HI.out.2.2.1 HB3.out⟩
        have hlo1 := hlo
        clear hlo
        by_cases hlo : 1099511627776 < u
        · have HE := Lib.hid (show R = (ByteArray.empty, 1) by rw [HRR.out]; exact makeR_clm hc (clmE_time h1 h2 (by omega)) (by decide))
          have d1 : decide (u < 0) = false := decide_eq_false (by omega)
          have d2 : decide (1099511627776 < u) = true := decide_eq_true hlo
          clear hc h1 h2 hlo
          go_enter Tryd.func12, Tryd.ntmps12
          go_wp2_with fail
          rw [← HS.out.1, ← HS.out.2]
          refine (Check_calls _ _ _ _ HI.out.1).mono ?_
          rintro e w1 ⟨rfl, hb1⟩
          have HB1 := Lib.hid hb1
          have y0 := pw_cell_below hb1 HX.out.1
          have y1 := pw_cell_below hb1 HX.out.2.1
          have y2 := pw_cell_below hb1 HX.out.2.2
          rw [HC.out]
          clear hb1
          go_wp2_with fail
          refine (Name_calls a _ (by have := HU.out; omega)).mono ?_
          rintro e w2 ⟨rfl, hb2⟩
          have HB2 := Lib.hid (below_step HB1.out hb2)
          have z0 := pw_cell_below hb2 y0
          have z1 := pw_cell_below hb2 y1
          have z2 := pw_cell_below hb2 y2
          clear y0 y1 y2 hb2
          rw [HN1.out]
          go_wp2_with fail
          refine (Name_calls b _ (by have := HU.out; omega)).mono ?_
          rintro e w3 ⟨rfl, hb3⟩
          have HB3 := Lib.hid (below_step HB2.out hb3)
          have t0 := pw_cell_below hb3 z0
          have t1 := pw_cell_below hb3 z1
          have t2 := pw_cell_below hb3 z2
          clear z0 z1 z2 hb3
          rw [HN2.out]
          go_wp2
          go_ret2
          exact ⟨by rw [HE.out]; rfl, below_step HI.out.2.2.1 HB3.out⟩
        have hlo2 := hlo
        clear hlo
        have d1 : decide (u < 0) = false := decide_eq_false hlo1
        have d2 : decide (1099511627776 < u) = false := decide_eq_false hlo2
        have HE := Lib.hid (show R = (tokS (newest L) ⟨a, b, u⟩, 0) by rw [HRR.out]; exact makeR_ok hc (clmE_ok h1 h2 (by omega)))
        have hlen := checkB_len hc
        have HLN := Lib.hid hlen
        have hall := checkB_all hc (newest L) (newest_mem hlen.1)
        have hoks := HI.out.2.1 (newest L) (newest_mem hlen.1)
        have hnl : L.length = n := HI.out.2.2.2.1
        obtain ⟨k, hk⟩ : ∃ k, k = newest L := ⟨_, rfl⟩
        rw [← hk] at hall hoks
        have hget : L.getD (n - 1) Sec.none = k := by rw [hk]; unfold newest; rw [hnl]
        have HK := Lib.hid (show newest L = k ∧ Bytes k.key ∧ k.key.length ≤ 64 ∧ (-9223372036854775808 ≤ k.id ∧ k.id ≤ 9223372036854775807) from ⟨hk.symm, hoks.1, hall.2.2.2, hoks.2⟩)
        have HGET := Lib.hid hget
        have w1' : IntKind.i64.wrap ((n : Int) - 1) = n - 1 := by rw [wrap_id (by omega) (by omega)]
        have t1' : ((n : Int) - 1).toNat = n - 1 := by omega
        have l1 : (0 : Int) ≤ (n : Int) - 1 := by omega
        have l1' : (1 : Int) ≤ n := by omega
        have u1' : (n : Int) - 1 < n := by omega
        clear hc h1 h2 hlo1 hlo2 hlen hall hoks hget hk hnl
        go_enter Tryd.func12, Tryd.ntmps12
        go_wp2_with fail
        rw [← HS.out.1, ← HS.out.2]
        refine (Check_calls _ _ _ _ HI.out.1).mono ?_
        rintro e w1 ⟨rfl, hb1⟩
        have HB1 := Lib.hid hb1
        have y0 := pw_cell_below hb1 HX.out.1
        have y1 := pw_cell_below hb1 HX.out.2.1
        have y2 := pw_cell_below hb1 HX.out.2.2
        rw [HC.out]
        clear hb1
        go_wp2_with fail
        refine (Name_calls a _ (by have := HU.out; omega)).mono ?_
        rintro e w2 ⟨rfl, hb2⟩
        have HB2 := Lib.hid (below_step HB1.out hb2)
        have z0 := pw_cell_below hb2 y0
        have z1 := pw_cell_below hb2 y1
        have z2 := pw_cell_below hb2 y2
        clear y0 y1 y2 hb2
        rw [HN1.out]
        go_wp2_with fail
        refine (Name_calls b _ (by have := HU.out; omega)).mono ?_
        rintro e w3 ⟨rfl, hb3⟩
        have HB3 := Lib.hid (below_step HB2.out hb3)
        have t0 := pw_cell_below hb3 z0
        have t1 := pw_cell_below hb3 z1
        have t2 := pw_cell_below hb3 z2
        clear z0 z1 z2 hb3
        rw [HN2.out]
        go_wp2_with fail
        obtain ⟨ad, Ai, ci, rfl, q0, q1, hci, hrd⟩ := RdS.at (Kd.C_below HI.out.1 HB3.out) (n - 1) (by omega)
        rw [HGET.out] at q0 q1 hci hrd
        have HRD := Lib.hid (And.intro hci hrd)
        clear hci hrd
        obtain ⟨kid, kkey⟩ := k
        simp only at q0 q1 HRD HK
        go_region_with (go_at_call 28; refine (signed_calls kid _ _ kkey a b u _ (Kd.C_below HRD.out.2 (below_drew (Below.refl _ _))) HK.out.2.1 HRD.out.1 (by have := HK.out.2.2.1; omega) HK.out.2.2.2 HU.out.1 HU.out.2.1 HU.out.2.2 ((HI.out.2.2.2.2.below HB3.out HI.out.2.2.2.2.lt).below (below_drew (Below.refl _ _)) (HI.out.2.2.2.2.below HB3.out HI.out.2.2.2.2.lt).lt)).mono ?_; rintro e w4 ⟨rfl, hb4⟩; have HB4 := Lib.hid (below_step HB3.out (below_step (below_drew (Below.refl _ _)) hb4)); clear hb4)
        all_goals
          go_wp2
          go_ret2
          exact ⟨by rw [HE.out, HK.out.1]; rfl, below_step HI.out.2.2.1 HB4.out⟩
end Go.Proofs.YtcgenmogedndjaaDoor
namespace Go.Proofs.YtcgenmogedndjaaDoor
open Go.RowKit Go.Proofs.YtcgenmogedndjaaDoorW.PrintWords Go.Proofs.YtcgenmogedndjaaDoorW.PrintMore
theorem beBytes_succ (k : Nat) (x : Int) : beBytes (k + 1) x = beBytes k (x / 256) ++ [x % 256] := by
  unfold beBytes
  rw [List.range_succ, List.map_append]
  congr 1
  · refine List.map_congr_left fun t ht => ?_
    rw [List.mem_range] at ht
    rw [show k + 1 - 1 - t = (k - 1 - t) + 1 by omega, Int.pow_succ, Int.mul_comm, ← Int.ediv_ediv_of_nonneg (by omega)]
  · simp
theorem byteLen_succ (x : Int) (h : 256 ≤ x) (h1 : x ≤ 9223372036854775807) : byteLen x = byteLen (x / 256) + 1 := by
  unfold byteLen
  rw [if_neg (by omega)]
  by_cases c1 : x < 65536
  · rw [if_pos c1, if_pos (by omega)]
  rw [if_neg c1, if_neg (show ¬ x / 256 < 256 by omega)]
  by_cases c2 : x < 16777216
  · rw [if_pos c2, if_pos (by omega)]
  rw [if_neg c2, if_neg (show ¬ x / 256 < 65536 by omega)]
  by_cases c3 : x < 4294967296
  · rw [if_pos c3, if_pos (by omega)]
  rw [if_neg c3, if_neg (show ¬ x / 256 < 16777216 by omega)]
  by_cases c4 : x < 1099511627776
  · rw [if_pos c4, if_pos (by omega)]
  rw [if_neg c4, if_neg (show ¬ x / 256 < 4294967296 by omega)]
  by_cases c5 : x < 281474976710656
  · rw [if_pos c5, if_pos (by omega)]
  rw [if_neg c5, if_neg (show ¬ x / 256 < 1099511627776 by omega)]
  by_cases c6 : x < 72057594037927936
  · rw [if_pos c6, if_pos (by omega)]
  rw [if_neg c6, if_neg (show ¬ x / 256 < 281474976710656 by omega), if_pos (by omega)]
/-- What the reference's loop has left to do: the bytes of n, none if n is 0. -/
def allBytes (x : Int) : List Int := if x ≤ 0 then [] else beBytes (byteLen x) x
theorem allBytes_step (x : Int) (h : 0 < x) (h1 : x ≤ 9223372036854775807) : allBytes x = allBytes (x / 256) ++ [x % 256] := by
  unfold allBytes
  rw [if_neg (by omega)]
  by_cases c : x < 256
  · rw [if_pos (by omega), show byteLen x = 0 + 1 from if_pos c, beBytes_succ]
    rfl
  · rw [if_neg (by omega), byteLen_succ x (by omega) h1, beBytes_succ]
theorem allBytes_length (x : Int) : (allBytes x).length ≤ 8 := by
  unfold allBytes
  split
  · simp
  · rw [beBytes_length]; exact (byteLen_range x).2
set_option maxHeartbeats 1600000 in
theorem FormRef_calls (x : Int) (w : World) (hx : -9223372036854775808 ≤ x) (hx1 : x ≤ 9223372036854775807) :
    Calls Tryd.prog 73 #[.int .i64 x] w fun e w' => ∃ v0_ : Value, e = .returned (v0_) ∧ Own w w' v0_ (numForm x) ∧ Below w.heap.size w w' := by
  by_cases hsm : x ≤ 247
  · have HF := Lib.hid (show numForm x = [max x 0] from if_pos hsm)
    by_cases hneg : x < 0
    · have HM := Lib.hid (show [max x 0] = [0] by rw [Int.max_eq_right (by omega)])
      go_enter Tryd.func73, Tryd.ntmps73
      go_wp2
      go_ret
      exact ⟨_, rfl, (lit_one (Below.refl _ _) 0).cast (by rw [HF.out, HM.out]), below_alloc (Below.refl _ _) _⟩
    · have hd : decide (x < 248) = true := decide_eq_true (by omega)
      have HM := Lib.hid (show [max x 0] = [x] by rw [Int.max_eq_left (by omega)])
      go_enter Tryd.func73, Tryd.ntmps73
      go_wp2
      go_ret
      exact ⟨_, rfl, (lit_one (Below.refl _ _) x).cast (by rw [HF.out, HM.out]), below_alloc (Below.refl _ _) _⟩
  · have HF := Lib.hid (show numForm x = (247 + (byteLen x : Int)) :: beBytes (byteLen x) x from if_neg hsm)
    have hd0 : decide (x < 0) = false := decide_eq_false (by omega)
    have hd : decide (x < 248) = false := decide_eq_false (by omega)
    go_enter Tryd.func73, Tryd.ntmps73
    go_wp2
    have HA := Lib.hid (show allBytes x = beBytes (byteLen x) x from if_neg (by omega))
    go_loopw [0, 3] (fun i v wr => ∃ (y : Int) (l : List Int), 0 ≤ y ∧ y ≤ x ∧ i = .int .i64 y ∧ Hid (allBytes x = allBytes y ++ l) ∧ l.length ≤ 8 ∧ Hid (Own w wr v l) ∧ Hid (Below w.heap.size w wr)) (fun i _ _ => (intOf i).toNat)
    case atStart => exact ⟨x, [], by omega, by omega, rfl, Lib.hid (by simp), by simp, Lib.hid (Own.nil _ _), Lib.hid (Below.refl _ _)⟩
    case round =>
      obtain ⟨y, l, hy0, hyx, rfl, HL, hl8, HO, HB⟩ := hrel
      obtain ⟨A, c, rfl, hc, hrd⟩ := HO.out.reads
      have HRD := Lib.hid hrd
      clear hrd HO
      by_cases hy : 0 < y
      · have HS := Lib.hid (allBytes_step y hy (by omega))
        have hl7 : (y % 256 :: l).length ≤ 8 := by
          have h1 := allBytes_length x
          have h2 := congrArg List.length HL.out
          have h3 := congrArg List.length HS.out
          simp only [List.length_append, List.length_cons, List.length_nil] at h2 h3 ⊢
          omega
        go_wp2_with (at_builtin; refine app_row (lit_one HB.out (y % 256)) (Kd.C_alloc HRD.out _) (below_alloc HB.out _) (by simp; omega) rfl rfl rfl rfl ?_)
        intro v3 w3 ho3 hb3 _ _
        have HO3 := Lib.hid (show Own w w3 v3 (y % 256 :: l) from ho3)
        have HB3 := Lib.hid hb3
        clear ho3 hb3
        go_wp2
        go_roundw
        case rel => exact ⟨y / 256, y % 256 :: l, by omega, by omega, rfl, Lib.hid (by rw [HL.out, HS.out, List.append_assoc]; rfl), hl7, HO3, HB3⟩
        case measure => simp [intOf]; omega
      · obtain rfl : y = 0 := by omega
        have HLL := Lib.hid (show l = beBytes (byteLen x) x by rw [← HA.out, HL.out]; rfl)
        have hll : l.length = byteLen x := by rw [HLL.out, beBytes_length]
        have HLn := Lib.hid hll
        clear hll
        go_wp2_with (at_builtin; refine app_row (lit_one HB.out _) (Kd.C_alloc HRD.out _) (below_alloc HB.out _) (by simp; omega) rfl rfl rfl rfl ?_)
        intro v3 w3 ho3 hb3 _ _
        go_wp2
        go_ret
        exact ⟨_, rfl, ho3.cast (by rw [HF.out, HLn.out, HLL.out]; try rfl), hb3⟩
theorem NumberRef_calls {n : Nat} (A0 : Option Addr) (c0 : Nat) (l0 : List Int) (x : Int) (w : World) (hr0 : Rd w A0 n l0) (hs0 : n ≤ 140737488351232) (hx : -9223372036854775808 ≤ x) (hx1 : x ≤ 9223372036854775807) :
    Calls Tryd.prog 54 #[.slice A0 n c0, .int .i64 x] w fun e w' => ∃ v0_ : Value, e = .returned (v0_) ∧ Own w w' v0_ (l0 ++ numForm x) ∧ Below w.heap.size w w' := by
  have hlen := Kd.C_len hr0
  have hf := numForm_length x
  have HR := Lib.hid hr0
  clear hr0
  go_enter Tryd.func54, Tryd.ntmps54
  go_wp2_with (at_builtin; refine app_row (lit_nil (Below.refl _ _)) (Kd.C_alloc HR.out _) (below_alloc (Below.refl _ _) _) (by simp; omega) rfl rfl rfl rfl ?_)
  intro v1 w1 ho1 hb1 _ _
  have HO1 := Lib.hid (ho1.cast (List.nil_append l0))
  have HB1 := Lib.hid hb1
  clear ho1 hb1
  go_wp2_with fail
  refine (FormRef_calls x _ hx hx1).mono ?_
  rintro e w2 ⟨v2, rfl, ho2, hb2⟩
  obtain ⟨A, c, rfl, hc, hrd⟩ := ho2.reads
  have HO2 := Lib.hid (HO1.out.below hb2)
  have HB2 := Lib.hid (below_step HB1.out hb2)
  have HRD := Lib.hid hrd
  clear ho2 hb2 hrd
  go_wp2_with (at_builtin; refine app_row HO2.out HRD.out HB2.out (by omega) rfl rfl rfl rfl ?_)
  intro v3 w3 ho3 hb3 _ _
  go_wp2
  go_ret
  exact ⟨_, rfl, ho3, hb3⟩
theorem TextRef_calls {n : Nat} (A0 : Option Addr) (c0 : Nat) (l0 : List Int) (s : ByteArray) (w : World) (hr0 : Rd w A0 n l0) (hs0 : n + s.size ≤ 140737488351232) :
    Calls Tryd.prog 55 #[.slice A0 n c0, .string s] w fun e w' => ∃ v0_ : Value, e = .returned (v0_) ∧ Own w w' v0_ (l0 ++ textForm s) ∧ Below w.heap.size w w' := by
  have hlen := Kd.C_len hr0
  have hf := numForm_length s.size
  go_enter Tryd.func55, Tryd.ntmps55
  go_wp2_with fail
  refine (NumberRef_calls A0 c0 l0 _ _ hr0 (by omega) (by omega) (by omega)).mono ?_
  rintro e w1 ⟨v1, rfl, ho1, hb1⟩
  have HO1 := Lib.hid ho1
  have HB1 := Lib.hid hb1
  clear ho1 hb1 hr0
  go_wp2_with (at_builtin; refine app_str HO1.out HB1.out (by simp only [List.length_append]; omega) rfl rfl rfl rfl ?_)
  intro v2 w2 ho2 hb2 _
  go_wp2
  go_ret
  exact ⟨_, rfl, ho2.cast (by unfold textForm; first | rfl | rw [List.append_assoc]), hb2⟩
end Go.Proofs.YtcgenmogedndjaaDoor
namespace Go.Proofs.YtcgenmogedndjaaDoor
open Go.RowKit Go.Proofs.YtcgenmogedndjaaDoorW.PrintWords Go.Proofs.YtcgenmogedndjaaDoorW.PrintMore
attribute [local go_sem] max2_int max_two
set_option maxHeartbeats 400000 in
theorem CNumber_bad {g p : Nat} {A : Option Addr} {n c : Nat} {l : List Int} {a : Nat} (w : World) (h : Cur w g p A n c l a) (hb : Bytes l) (E : Int) (hE : E ≠ 0) (hr : readNum (l.drop a) = (0, 0, E)) :
    Calls Tryd.prog 50 #[.pointer (some ⟨g, 0, none⟩)] w fun e w' => e = .returned (.tuple #[.int .i64 0, .int .i64 E]) ∧ Drawn0 w w' := by
  have H := Lib.hid h
  have HY := Lib.hid hb
  have hd : (E == 0) = false := beq_eq_false_iff_ne.2 hE
  have HR := Lib.hid hr
  clear h hb hr
  go_enter Tryd.func50, Tryd.ntmps50
  go_wp2_with fail
  refine (peek_calls _ H.out HY.out).mono ?_
  rw [HR.out]
  rintro e w1 ⟨rfl, hd1⟩
  have HD := Lib.hid hd1
  clear hd1
  go_wp2
  go_ret2
  exact ⟨rfl, HD.out⟩
set_option maxHeartbeats 400000 in
theorem CNumber_ok {g p : Nat} {A : Option Addr} {n c : Nat} {l : List Int} {a : Nat} (w : World) (h : Cur w g p A n c l a) (hb : Bytes l) (N : Int) (K : Nat) (hr : readNum (l.drop a) = (N, (K : Int), 0)) :
    Calls Tryd.prog 50 #[.pointer (some ⟨g, 0, none⟩)] w fun e w' => e = .returned (.tuple #[.int .i64 N, .int .i64 0]) ∧ Cur w' g p A n c l (a + K) ∧ w.grownBy w' (some p) := by
  have H := Lib.hid h
  have HY := Lib.hid hb
  have hk := readNum_ok _ (hb.dp a) (by rw [hr])
  rw [hr] at hk
  have hlen := Kd.C_len h.row
  have hm := Kd.C_max h.row
  have hle := h.le
  have hk1 : 1 ≤ (K : Int) := hk.1
  have hk2 : (K : Int) ≤ (l.drop a).length := hk.2.1
  rw [List.length_drop, hlen] at hk2
  have HR := Lib.hid hr
  have hw := wrap_id (x := (a : Int) + K) (by omega) (by omega)
  clear h hb hr hk hlen
  go_enter Tryd.func50, Tryd.ntmps50
  go_wp2_with fail
  refine (peek_calls _ H.out HY.out).mono ?_
  rw [HR.out]
  rintro e w1 ⟨rfl, hd1⟩
  have H2 := Lib.hid (H.out.below hd1.below)
  have HG := Lib.hid (Lib.grownBy_below (World.grownBy.refl w (some p)) hd1.below)
  have x0 := H2.out.x0
  have x1 := H2.out.x1
  have x2 := H2.out.x2
  have f2 := H2.out.f2
  clear hd1
  go_wp2
  go_ret2
  refine ⟨rfl, ?_, Lib.grownBy_setB HG.out 1 _⟩
  have := H2.out.set (a + K) (by omega)
  rwa [show ((a + K : Nat) : Int) = (a : Int) + K by omega] at this
set_option maxHeartbeats 400000 in
theorem CText_bad {g p : Nat} {A : Option Addr} {n c : Nat} {l : List Int} {a : Nat} (most : Int) (w : World) (h : Cur w g p A n c l a) (hb : Bytes l) (E : Int) (hE : E ≠ 0) (hr : readNum (l.drop a) = (0, 0, E)) :
    Calls Tryd.prog 51 #[.pointer (some ⟨g, 0, none⟩), .int .i64 most] w fun e w' => e = .returned (.tuple #[.string ByteArray.empty, .int .i64 E]) ∧ Drawn0 w w' := by
  have H := Lib.hid h
  have HY := Lib.hid hb
  have hd : (E == 0) = false := beq_eq_false_iff_ne.2 hE
  have hd2 : (E != 0) = true := by rw [bne, hd]; rfl
  have HR := Lib.hid hr
  clear h hb hr
  go_enter Tryd.func51, Tryd.ntmps51
  go_wp2_with fail
  refine (peek_calls _ H.out HY.out).mono ?_
  rw [HR.out]
  rintro e w1 ⟨rfl, hd1⟩
  have HD := Lib.hid hd1
  clear hd1
  go_wp2
  go_ret2
  exact ⟨rfl, HD.out⟩
set_option maxHeartbeats 400000 in
theorem CText_long {g p : Nat} {A : Option Addr} {n c : Nat} {l : List Int} {a : Nat} (most : Int) (w : World) (h : Cur w g p A n c l a) (hb : Bytes l) (N : Int) (K : Nat) (hr : readNum (l.drop a) = (N, (K : Int), 0)) (hbig : max most 0 < N) :
    Calls Tryd.prog 51 #[.pointer (some ⟨g, 0, none⟩), .int .i64 most] w fun e w' => e = .returned (.tuple #[.string ByteArray.empty, .int .i64 4]) ∧ Drawn0 w w' := by
  have H := Lib.hid h
  have HY := Lib.hid hb
  have HR := Lib.hid hr
  clear h hb hr
  by_cases hs : most < 0
  case' pos => have hd : decide (0 < N) = true := decide_eq_true (by omega)
  case' neg => have hd : decide (most < N) = true := decide_eq_true (by omega)
  all_goals
    clear hbig
    go_enter Tryd.func51, Tryd.ntmps51
    go_wp2_with fail
    refine (peek_calls _ H.out HY.out).mono ?_
    rw [HR.out]
    rintro e w1 ⟨rfl, hd1⟩
    have HD := Lib.hid hd1
    clear hd1
    go_wp2
    go_ret2
    exact ⟨rfl, HD.out⟩
set_option maxHeartbeats 800000 in
theorem CText_short {g p : Nat} {A : Option Addr} {n c : Nat} {l : List Int} {a : Nat} (most : Int) (w : World) (h : Cur w g p A n c l a) (hb : Bytes l) (N : Int) (K : Nat) (hr : readNum (l.drop a) = (N, (K : Int), 0)) (hsm : ¬ max most 0 < N) (hsh : (n : Int) - a - K < N) :
    Calls Tryd.prog 51 #[.pointer (some ⟨g, 0, none⟩), .int .i64 most] w fun e w' => e = .returned (.tuple #[.string ByteArray.empty, .int .i64 2]) ∧ Drawn0 w w' := by
  have H := Lib.hid h
  have HY := Lib.hid hb
  have HR := Lib.hid hr
  have hk := readNum_ok _ (hb.dp a) (by rw [hr])
  rw [hr] at hk
  have hlen := Kd.C_len h.row
  have hm := Kd.C_max h.row
  have hle := h.le
  have hk1 : 1 ≤ (K : Int) := hk.1
  have hk2 : (K : Int) ≤ (l.drop a).length := hk.2.1
  rw [List.length_drop, hlen] at hk2
  have hw := wrap_id (x := (n : Int) - a - K) (by omega) (by omega)
  have hq : decide ((n : Int) - a - K < N) = true := decide_eq_true hsh
  clear h hb hr hk hlen
  by_cases hs : most < 0
  case' pos => have hd : decide (0 < N) = false := decide_eq_false (by omega)
  case' neg => have hd : decide (most < N) = false := decide_eq_false (by omega)
  all_goals
    clear hsm
    go_enter Tryd.func51, Tryd.ntmps51
    go_wp2_with fail
    refine (peek_calls _ H.out HY.out).mono ?_
    rw [HR.out]
    rintro e w1 ⟨rfl, hd1⟩
    have HD := Lib.hid hd1
    have H2 := Lib.hid (H.out.below hd1.below)
    have x0 := H2.out.x0
    clear hd1
    go_wp2_with fail
    refine (left_calls _ H2.out).mono ?_
    rintro e w2 ⟨rfl, hd2⟩
    have HD2 := Lib.hid (Drawn0.trans HD.out hd2)
    clear hd2
    go_wp2
    go_ret2
    exact ⟨rfl, HD2.out⟩
set_option maxHeartbeats 1600000 in
theorem CText_ok {g p : Nat} {A : Option Addr} {n c : Nat} {l : List Int} {a : Nat} (most : Int) (w : World) (h : Cur w g p A n c l a) (hb : Bytes l) (N : Int) (K : Nat) (hr : readNum (l.drop a) = (N, (K : Int), 0)) (M : Nat) (hM : N = M) (hsm : ¬ max most 0 < N) (hsh : a + K + M ≤ n) :
    Calls Tryd.prog 51 #[.pointer (some ⟨g, 0, none⟩), .int .i64 most] w fun e w' => e = .returned (.tuple #[.string (strOfNums ((l.take (a + (K + M))).drop (a + K))), .int .i64 0]) ∧ Cur w' g p A n c l (a + (K + M)) ∧ w.grownBy w' (some p) := by
  subst hM
  have H := Lib.hid h
  have HY := Lib.hid hb
  have HR := Lib.hid hr
  have hk := readNum_ok _ (hb.dp a) (by rw [hr])
  rw [hr] at hk
  have hlen := Kd.C_len h.row
  have hm := Kd.C_max h.row
  have hle := h.le
  have hk1 : 1 ≤ (K : Int) := hk.1
  have hk2 : (K : Int) ≤ (l.drop a).length := hk.2.1
  have hcap := h.cap
  rw [List.length_drop, hlen] at hk2
  have hw := wrap_id (x := (n : Int) - a - K) (by omega) (by omega)
  have hq : decide ((n : Int) - a - K < M) = false := decide_eq_false (by omega)
  have hw2 := wrap_id (x := (K : Int) + M) (by omega) (by omega)
  have hw3 := wrap_id (x := (a : Int) + ((K : Int) + M)) (by omega) (by omega)
  have e1 : ((a + (K + M) : Nat) : Int) = (a : Int) + ((K : Int) + M) := by omega
  have HE1 := Lib.hid e1
  obtain ⟨ad, rfl, _⟩ := Rd.cells h.row (by omega)
  clear h hb hr hk hlen e1
  by_cases hs : most < 0
  case' pos => have hd : decide (0 < M) = false := decide_eq_false (by omega)
  case' neg => have hd : decide (most < (M : Int)) = false := decide_eq_false (by omega)
  all_goals
    clear hsm
    go_enter Tryd.func51, Tryd.ntmps51
    go_wp2_with fail
    refine (peek_calls _ H.out HY.out).mono ?_
    rw [HR.out]
    rintro e w1 ⟨rfl, hd1⟩
    have HD := Lib.hid hd1
    have H2 := Lib.hid (H.out.below hd1.below)
    have x0 := H2.out.x0
    clear hd1
    go_wp2_with fail
    refine (left_calls _ H2.out).mono ?_
    rintro e w2 ⟨rfl, hd2⟩
    have HD2 := Lib.hid (Drawn0.trans HD.out hd2)
    have H3 := Lib.hid (H2.out.below hd2.below)
    clear hd2 x0
    have x0 := H3.out.x0
    have x1 := H3.out.x1
    have x2 := H3.out.x2
    have f2 := H3.out.f2
    go_wp2_with fail
    have H4 : Cur (w2.setCell ⟨p, 1, none⟩ (.int .i64 ((a : Int) + ((K : Int) + M)))) g p (some ad) n c l (a + (K + M)) := by
      have := H3.out.set (a + (K + M)) (by omega)
      rwa [HE1.out] at this
    have hg4 : w.grownBy (w2.setCell ⟨p, 1, none⟩ (.int .i64 ((a : Int) + ((K : Int) + M)))) (some p) := Lib.grownBy_setB (Lib.grownBy_below (World.grownBy.refl w (some p)) HD2.out.below) 1 _
    obtain ⟨w4, hw4⟩ : ∃ w4, w4 = w2.setCell ⟨p, 1, none⟩ (.int .i64 ((a : Int) + ((K : Int) + M))) := ⟨_, rfl⟩
    rw [← hw4] at H4 hg4 ⊢
    clear hw4 x0 x1 x2 f2
    have x0 := H4.x0
    have x1 := H4.x1
    have x2 := H4.x2
    rw [HE1.out] at x2
    have H5 := Lib.hid H4
    have HG5 := Lib.hid hg4
    clear H4 hg4
    have g1 : IntKind.i64.wrap ((a : Int) + ((K : Int) + M) - M) = (a : Int) + K := by rw [wrap_id (by omega) (by omega)]; omega
    have g3 : (0 : Int) ≤ (a : Int) + K := by omega
    have g4 : (0 : Int) ≤ (a : Int) + ((K : Int) + M) := by omega
    have g5 : (a : Int) + K ≤ c := by omega
    have g6 : (a : Int) + ((K : Int) + M) ≤ c := by omega
    have g7 : (a : Int) + K ≤ (a : Int) + ((K : Int) + M) := by omega
    have g8 : ((a : Int) + K).toNat = a + K := by omega
    have g9 : ((a : Int) + ((K : Int) + M)).toNat = a + (K + M) := by omega
    have g11 : a + (K + M) - (a + K) = M := by omega
    have HT := Lib.hid (show ∀ W, Below w4.heap.size w4 W → Rd W (some (ad.add (a + K))) M ((l.take (a + (K + M))).drop (a + K)) from fun W hb => by
      have hq := Rd.mid (x := ad.add (a + K)) (Kd.C_below H5.out.row hb) (a + K) (a + (K + M)) (by omega) (by omega) (fun _ => rfl)
      rwa [show a + (K + M) - (a + K) = M by omega] at hq)
    have k0 := fun i => Kd.C_string (P := Tryd.prog) (src := 34) (dst := 9) (e := 5) Tryd.underlying34 Tryd.underlying5 Tryd.underlying9 (c := c - (a + K)) (HT.out (w4.drewN i) (pw_below_drewN (Below.refl _ _) _))
    by_cases hc : c = a + K
    · obtain rfl : M = 0 := by omega
      subst hc
      clear g1 g3 g4 g5 g6 g7 g8 g9 g11 hw2 hw3 hw
      have g1 : IntKind.i64.wrap ((a : Int) + K) = a + K := wrap_id (by omega) (by omega)
      have g3 : (0 : Int) ≤ (a : Int) + K := by omega
      have g8 : ((a : Int) + K).toNat = a + K := by omega
      have k1 := fun i => Kd.C_string (P := Tryd.prog) (src := 34) (dst := 9) (e := 5) Tryd.underlying34 Tryd.underlying5 Tryd.underlying9 (c := 0) (Rd.empty (w4.drewN i) (some ad))
      clear k0
      have HNL := Lib.hid (show (l.take (a + (K + 0))).drop (a + K) = [] from List.drop_eq_nil_of_le (by rw [List.length_take]; omega))
      go_quiet (fail)
      go_wp2
      go_ret2
      exact ⟨by rw [HNL.out]; rfl, H5.out.below (pw_below_drewN (Below.refl _ _) _), Lib.grownBy_below HG5.out (pw_below_drewN (Below.refl _ _) _)⟩
    · go_quiet (fail)
      go_wp2
      go_ret2
      exact ⟨rfl, H5.out.below (pw_below_drewN (Below.refl _ _) _), Lib.grownBy_below HG5.out (pw_below_drewN (Below.refl _ _) _)⟩
end Go.Proofs.YtcgenmogedndjaaDoor
namespace Go.Proofs.YtcgenmogedndjaaDoor
open Go.RowKit Go.Proofs.YtcgenmogedndjaaDoorW.PrintWords
theorem beBytes_valOf : ∀ (m : Nat) (t : List Int), t.length = m → Bytes t → beBytes m (valOf t) = t
  | 0, t, h, _ => by rw [List.eq_nil_of_length_eq_zero h]; rfl
  | m + 1, t, h, hb => by
    rcases List.eq_nil_or_concat t with rfl | ⟨l, d, rfl⟩
    · simp at h
    · rw [List.concat_eq_append] at h hb ⊢
      have hd := hb d (by simp)
      rw [valOf_snoc, beBytes_succ, show (256 * valOf l + d) / 256 = valOf l by omega, show (256 * valOf l + d) % 256 = d by omega, beBytes_valOf m l (by simpa using h) (fun x hx => hb x (by simp [hx]))]
theorem byteLen_of (m : Nat) (x : Int) (h1 : 1 ≤ m) (h8 : m ≤ 8) (hlo : 256 ^ (m - 1) ≤ x) (hhi : x < 256 ^ m) : byteLen x = m := by
  have hm : m = 1 ∨ m = 2 ∨ m = 3 ∨ m = 4 ∨ m = 5 ∨ m = 6 ∨ m = 7 ∨ m = 8 := by omega
  rcases hm with rfl | rfl | rfl | rfl | rfl | rfl | rfl | rfl
  all_goals
    simp at hlo hhi
    unfold byteLen
    repeat' split
    all_goals omega
theorem numForm_read (r : List Int) (hb : Bytes r) (N : Int) (K : Nat) (h : readNum r = (N, (K : Int), 0)) : numForm N = r.take K := by
  cases r with
  | nil => simp [readNum] at h
  | cons b t =>
    have hb0 := hb b (by simp)
    by_cases h1 : b ≤ 247
    · rw [readNum_small _ _ h1] at h
      simp only [Prod.mk.injEq] at h
      obtain ⟨rfl, hK, _⟩ := h
      rw [show K = 1 by omega]
      unfold numForm
      rw [if_pos h1, Int.max_eq_left hb0.1]
      rfl
    by_cases h2 : t.length < (b - 247).toNat
    · rw [readNum_short _ _ (by omega) h2] at h
      simp at h
    by_cases h3 : valOf (t.take (b - 247).toNat) ≤ 247 ∨ valOf (t.take (b - 247).toNat) / 256 ^ ((b - 247).toNat - 1) = 0
    · rw [readNum_form _ _ (by omega) h2 h3] at h
      simp at h
    by_cases h4 : 9223372036854775808 ≤ valOf (t.take (b - 247).toNat)
    · rw [readNum_big _ _ (by omega) h2 h3 h4] at h
      simp at h
    rw [readNum_long _ _ (by omega) h2 h3 h4] at h
    simp only [Prod.mk.injEq] at h
    obtain ⟨rfl, hK, _⟩ := h
    obtain ⟨m, hm⟩ : ∃ m, m = (b - 247).toNat := ⟨_, rfl⟩
    rw [← hm] at h2 h3 h4 ⊢
    have hbt : Bytes (t.take m) := fun x hx => hb x (by simp [List.mem_of_mem_take hx])
    have hr := valOf_range (t.take m) hbt
    have hl : (t.take m).length = m := by rw [List.length_take]; omega
    rw [hl] at hr
    have hlo : (256 : Int) ^ (m - 1) ≤ valOf (t.take m) := by
      have hp : (0 : Int) < 256 ^ (m - 1) := Int.pow_pos (by decide)
      rcases Int.lt_or_le (valOf (t.take m)) (256 ^ (m - 1)) with hlt | hge
      · exact absurd (.inr (Int.ediv_eq_zero_of_lt hr.1 hlt)) h3
      · exact hge
    have hbl := byteLen_of m _ (by omega) (by omega) hlo hr.2
    unfold numForm
    rw [if_neg (by omega), hbl, beBytes_valOf m _ hl hbt, show K = m + 1 by omega, List.take_succ_cons, show (247 : Int) + m = b by omega]
end Go.Proofs.YtcgenmogedndjaaDoor
