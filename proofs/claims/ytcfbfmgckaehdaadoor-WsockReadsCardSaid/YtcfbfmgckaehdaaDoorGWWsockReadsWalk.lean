/- The walk of a law: WsockReadsWalk. -/
import Derived.Test.YtcfbfmgckaehdaaDoorG01
import Derived.Test.YtcfbfmgckaehdaaDoorG10
import Derived.Test.YtcfbfmgckaehdaaDoorG11
namespace Go.Proofs.YtcfbfmgckaehdaaDoor
open Go.RowKit Go.Proofs.YtcfbfmgckaehdaaDoorW.PrintWords
set_option maxRecDepth 20000 in
set_option maxHeartbeats 6400000 in
theorem WsockReads_walk (A0 : Option Addr) (c0 : Nat) (l : List Int) (mask : Bool) (w : World) (hr : Rd w A0 l.length l) (hc : l.length ≤ c0) (_hs : l.length ≤ 140737488351232) (hb : Bytes l) :
    Calls Tryd.prog 3 #[.slice A0 l.length c0, .bool mask] w fun e w' => e = .returned (.bool true) ∧ Below w.heap.size w w' := by
  have HI := Lib.hid (show Rd w A0 l.length l ∧ l.length ≤ c0 ∧ Bytes l from ⟨hr, hc, hb⟩)
  clear hr hc hb
  by_cases hbig : 262144 < l.length
  · have d1 : decide (262144 < (l.length : Int)) = true := decide_eq_true (by omega)
    have d1' : decide (262144 < l.length) = true := decide_eq_true hbig
    go_enter Tryd.func3, Tryd.ntmps3
    go_wp2_with fail
    refine (wsAwake_calls _).mono ?_
    rintro e w1 ⟨rfl, hb1⟩
    have HB := Lib.hid hb1
    clear hb1
    go_wp2
    go_ret
    exact ⟨rfl, HB.out⟩
  · have d1 : decide (262144 < (l.length : Int)) = false := decide_eq_false (by omega)
    have d1' : decide (262144 < l.length) = false := decide_eq_false hbig
    have HL := Lib.hid (show l.length ≤ 262144 by omega)
    clear hbig
    go_enter Tryd.func3, Tryd.ntmps3
    go_wp2_with fail
    refine (bytes_Clone.calls A0 c0 l l _ HI.out.1 HI.out.2.1 (if_pos (by have := HL.out; omega))).mono ?_
    rintro e w1 ⟨v1, rfl, ho1, hb1⟩
    obtain ⟨A1, c1, rfl, hc1, hr1⟩ := Own.reads ho1
    have H1 := Lib.hid (show Below w.heap.size w w1 ∧ Rd w1 A1 l.length l ∧ l.length ≤ c1 from ⟨hb1, hr1, hc1⟩)
    clear ho1 hb1 hr1 hc1
    go_wp2_with fail
    refine (WsRead_calls A1 c1 l mask _ H1.out.2.1 H1.out.2.2 HI.out.2.2 (by have := HL.out; omega)).mono ?_
    rintro e w2 ⟨f, k, why, v2, rfl, hF, ho2, hb2⟩
    obtain ⟨ff, fo, ld⟩ := f
    obtain ⟨A2, c2, rfl, hc2, hr2⟩ := ho2.reads
    obtain ⟨n, hn⟩ : ∃ n, n = ld.length := ⟨_, rfl⟩
    have ho2 : Own w1 w2 (.slice A2 ld.length c2) ld := ho2
    rw [← hn] at ho2
    have HF := Lib.hid hF
    have HN := Lib.hid hn
    have H2 := Lib.hid (show Below w.heap.size w w2 ∧ Below w1.heap.size w1 w2 ∧ Own w1 w2 (.slice A2 n c2) ld from ⟨below_step H1.out.1 hb2, hb2, ho2⟩)
    clear hF ho2 hb2 hc2 hr2
    rw [← hn]
    clear hn
    go_upto_region 5 with (fail)
    obtain ⟨g6, hg6⟩ : ∃ g, g = w2.heap.size := ⟨_, rfl⟩
    obtain ⟨W3, hW3⟩ : ∃ W, W = w2.alloc (.cells #[.bool ff, .int .i64 fo, .slice A2 n c2] 26) := ⟨_, rfl⟩
    have hb3 : Below w2.heap.size w2 W3 := by rw [hW3]; exact below_alloc (Below.refl _ _) _
    have hk3 : Whole W3 g6 26 #[.bool ff, .int .i64 fo, .slice A2 n c2] := by rw [hW3, hg6]; exact Whole.new w2 _ _
    have hne6 : ∀ b, (Value.slice A2 n c2).ownBlock = some b → b ≠ g6 := fun b hb => by have := H2.out.2.2.lt b hb; omega
    have H3 := Lib.hid (show Below w.heap.size w W3 ∧ Below w1.heap.size w1 W3 ∧ Own w1 W3 (.slice A2 n c2) ld ∧ Whole W3 g6 26 #[.bool ff, .int .i64 fo, .slice A2 n c2] ∧ w1.heap.size ≤ g6 ∧ (∀ b, (Value.slice A2 n c2).ownBlock = some b → b ≠ g6) from ⟨below_step H2.out.1 hb3, below_step H2.out.2.1 hb3, H2.out.2.2.below hb3, hk3, by rw [hg6]; exact H2.out.2.1.size, hne6⟩)
    rw [← hW3, ← hg6]
    clear hb3 hk3 hg6 hW3 hne6
    go_wp2_with fail
    refine (WsReadRef_calls A0 c0 l mask _ (Kd.C_below HI.out.1 H3.out.1) HI.out.2.1 HI.out.2.2 (by have := HL.out; omega)).mono ?_
    rintro e w4 ⟨f2, k2, y2, v4, rfl, hF2, ho4, hb4⟩
    rw [HF.out] at hF2
    simp only [Prod.mk.injEq] at hF2
    obtain ⟨rfl, rfl, rfl⟩ := hF2
    obtain ⟨A4, c4, rfl, hc4, hr4⟩ := ho4.reads
    have hr4 : Rd w4 A4 ld.length ld := hr4
    rw [← HN.out] at hr4
    have H4 := Lib.hid (show Below w.heap.size w w4 ∧ Below w1.heap.size w1 w4 ∧ Own w1 w4 (.slice A2 n c2) ld ∧ Whole w4 g6 26 #[.bool ff, .int .i64 fo, .slice A2 n c2] ∧ Rd w4 A4 n ld from ⟨below_step H3.out.1 hb4, below_step H3.out.2.1 hb4, H3.out.2.2.1.below hb4, H3.out.2.2.2.1.below hb4 H3.out.2.2.2.1.lt, hr4⟩)
    have hln : (Frm.mk ff fo ld).load.length = n := HN.out.symm
    rw [hln]
    clear ho4 hb4 hc4 hr4 hln
    go_upto_region 6 with (fail)
    obtain ⟨g9, hg9⟩ : ∃ g, g = w4.heap.size := ⟨_, rfl⟩
    obtain ⟨W5, hW5⟩ : ∃ W, W = w4.alloc (.cells #[.bool ff, .int .i64 fo, .slice A4 n c4] 26) := ⟨_, rfl⟩
    have hb5 : Below w4.heap.size w4 W5 := by rw [hW5]; exact below_alloc (Below.refl _ _) _
    have hk5 : Whole W5 g9 26 #[.bool ff, .int .i64 fo, .slice A4 n c4] := by rw [hW5, hg9]; exact Whole.new w4 _ _
    have H5 := Lib.hid (show Below w.heap.size w W5 ∧ Below w1.heap.size w1 W5 ∧ Own w1 W5 (.slice A2 n c2) ld ∧ Whole W5 g6 26 #[.bool ff, .int .i64 fo, .slice A2 n c2] ∧ Rd W5 A4 n ld ∧ Rd W5 A2 n ld from ⟨below_step H4.out.1 hb5, below_step H4.out.2.1 hb5, H4.out.2.2.1.below hb5, H4.out.2.2.2.1.below hb5 H4.out.2.2.2.1.lt, Kd.C_below H4.out.2.2.2.2 hb5, by have h := Kd.R_reads' (H4.out.2.2.1.below hb5); rw [HN.out]; exact h.2.2⟩)
    have x0 := H5.out.2.2.2.1.cell 0 _ rfl
    have x1 := H5.out.2.2.2.1.cell 1 _ rfl
    have x2 := H5.out.2.2.2.1.cell 2 _ rfl
    have y0 := hk5.cell 0 _ rfl
    have y1 := hk5.cell 1 _ rfl
    have y2 := hk5.cell 2 _ rfl
    have e1 : (k == k) = true := by simp
    have e2 : (why == why) = true := by simp
    rw [← hW5, ← hg9]
    clear hb5 hk5 hg9 hW5
    go_wp2_with fail
    refine (SameFrame_true ff fo A2 c2 ld A4 c4 _ H5.out.2.2.2.2.2 H5.out.2.2.2.2.1).mono ?_
    rintro e w6 ⟨rfl, hb6⟩
    have H6 := Lib.hid (show Below w1.heap.size w1 w6 ∧ Own w1 w6 (.slice A2 n c2) ld ∧ Whole w6 g6 26 #[.bool ff, .int .i64 fo, .slice A2 n c2] ∧ ld.length = n from ⟨below_step H5.out.2.1 hb6, H5.out.2.2.1.below hb6, H5.out.2.2.2.1.below hb6 H5.out.2.2.2.1.lt, HN.out.symm⟩)
    clear hb6 x0 x1 x2 y0 y1 y2
    have x2 := H6.out.2.2.1.cell 2 _ rfl
    have hn9 : n ≤ 9223372036854775807 := by have h := Kd.C_max (Kd.R_reads' H6.out.2.1).2.2; rw [HN.out]; exact h
    have HN9 := Lib.hid hn9
    clear hn9
    go_wp2_with fail
    clear x2
    go_loopw [50] (fun i wr => ∃ j : Nat, i = .int .i64 j ∧ j ≤ n ∧ Hid (∃ row, Below w1.heap.size w1 wr ∧ Own w1 wr (.slice A2 n c2) row ∧ Whole wr g6 26 #[.bool ff, .int .i64 fo, .slice A2 n c2] ∧ row.length = n)) (fun i _ => n - (intOf i).toNat)
    case atStart => exact ⟨0, rfl, by omega, Lib.hid ⟨ld, H6.out⟩⟩
    case round =>
      obtain ⟨j, rfl, hj, HA⟩ := hrel
      obtain ⟨row, hA⟩ := HA.out
      have HA := Lib.hid hA
      clear hA
      by_cases hjn : j < n
      · have hoo := HA.out.2.1
        obtain ⟨g, cap, e, _, hg, _⟩ := Own.form (show Own w1 wr (.slice A2 row.length c2) row by rw [HA.out.2.2.2]; exact hoo) (by rw [HA.out.2.2.2]; omega)
        rw [HA.out.2.2.2] at e
        injection e with ea eb ec
        subst ea
        have HG := Lib.hid (show w1.heap.size ≤ g ∧ g ≠ g6 from ⟨hg, H3.out.2.2.2.2.2 g rfl⟩)
        obtain ⟨hx, hf⟩ := Own.cell HA.out.2.1 j hjn
        obtain ⟨x, hxe⟩ : ∃ x, x = rd row (j : Nat) := ⟨_, rfl⟩
        rw [← hxe] at hx
        have djn : decide (j < n) = true := decide_eq_true hjn
        have djn' : decide ((j : Int) < n) = true := decide_eq_true (by omega)
        have ijn : (j : Int) < n := by omega
        have wj : IntKind.i64.wrap ((j : Int) + 1) = j + 1 := wrap_id (by omega) (by have := HN9.out; omega)
        have x2 := HA.out.2.2.1.cell 2 _ rfl
        have HK := Lib.hid (show ∃ r2, Below w1.heap.size w1 (wr.setCell ⟨g, j, none⟩ (.int .u8 (bits .xor .u8 x 255))) ∧ Own w1 (wr.setCell ⟨g, j, none⟩ (.int .u8 (bits .xor .u8 x 255))) (.slice (some ⟨g, 0, none⟩) n c2) r2 ∧ Whole (wr.setCell ⟨g, j, none⟩ (.int .u8 (bits .xor .u8 x 255))) g6 26 #[.bool ff, .int .i64 fo, .slice (some ⟨g, 0, none⟩) n c2] ∧ r2.length = n from
          ⟨row.set j (bits .xor .u8 x 255), HA.out.1.setCell (p := ⟨g, j, none⟩) HG.out.1 _, HA.out.2.1.put j _, HA.out.2.2.1.other (p := ⟨g, j, none⟩) HG.out.2 _, by rw [List.length_set]; exact HA.out.2.2.2⟩)
        clear hoo hg hxe eb ec
        go_wp2
        go_roundw
        case rel => exact ⟨j + 1, by go_num, by omega, HK⟩
        case measure => simp [intOf]; omega
      · obtain rfl : j = n := by omega
        have djn : decide (j < j) = false := decide_eq_false (by omega)
        have HR := Lib.hid (show Rd wr A1 l.length l ∧ Rd wr A0 l.length l ∧ Below w.heap.size w wr from ⟨Kd.C_below H1.out.2.1 HA.out.1, Kd.C_below HI.out.1 (below_step H1.out.1 HA.out.1), below_step H1.out.1 HA.out.1⟩)
        go_wp2_with fail
        refine (Equal_true A1 c1 l A0 c0 l _ HR.out.1 HR.out.2.1 HI.out.2.2 rfl).mono ?_
        rintro e w7 ⟨rfl, hd7⟩
        have H7 := Lib.hid (below_step HR.out.2.2 hd7.below)
        clear hd7
        go_wp2_with fail
        refine (wsAwake_calls _).mono ?_
        rintro e w8 ⟨rfl, hb8⟩
        have H8 := Lib.hid (below_step H7.out hb8)
        clear hb8
        go_wp2
        go_ret
        exact ⟨rfl, H8.out⟩
end Go.Proofs.YtcfbfmgckaehdaaDoor
