/- The texts WsLen, QuietTail in one. -/
import Derived.Test.YtcfbfmgckaehdaaDoorG01
import Derived.Test.YtcfbfmgckaehdaaDoorG02
import Derived.StillTail
namespace Go.Proofs.YtcfbfmgckaehdaaDoor
open Go.RowKit Go.Proofs.YtcfbfmgckaehdaaDoorW.PrintWords
theorem or_u64n (a b : Nat) (ha : a < 18446744073709551616) (hb : b < 18446744073709551616) : bits .or .u64 a b = ((a ||| b : Nat) : Int) := (bits_nat .u64 64 (by decide) (fun n h0 h1 => by rw [IntKind.wrap_u64]; omega) a b ha hb).2
theorem or_byte64 (x d : Int) (x0 : 0 ≤ x) (x1 : x < 72057594037927936) (d0 : 0 ≤ d) (d1 : d < 256) : bits .or .u64 (x * 256) d = 256 * x + d := by
  obtain ⟨m, rfl⟩ := Int.eq_ofNat_of_zero_le x0
  obtain ⟨k, rfl⟩ := Int.eq_ofNat_of_zero_le d0
  rw [show (m : Int) * 256 = ((m * 256 : Nat) : Int) by omega, or_u64n _ _ (by omega) (by omega), show m * 256 = m <<< 8 by rw [Nat.shiftLeft_eq], ← Nat.shiftLeft_add_eq_or_of_lt (by omega), Nat.shiftLeft_eq]
  omega
theorem pow256n (j : Nat) (h : j ≤ 7) : ((256 ^ j : Nat) : Int) ≤ 72057594037927936 := by
  have : j = 0 ∨ j = 1 ∨ j = 2 ∨ j = 3 ∨ j = 4 ∨ j = 5 ∨ j = 6 ∨ j = 7 := by omega
  rcases this with rfl | rfl | rfl | rfl | rfl | rfl | rfl | rfl <;> decide
/-- One of length's answers. -/
def Len3 (l : List Int) (n t why : Int) : Prop := lenR l = (n, t, why)
set_option maxHeartbeats 1600000 in
theorem length_2 {n : Nat} (A0 : Option Addr) (c0 : Nat) (l : List Int) (w : World) (hr : Rd w A0 n l) (hc0 : n ≤ c0) (hb : Bytes l) (hn : 2 ≤ n) (hq : rd l 1 % 128 = 126) :
    Calls Tryd.prog 40 #[.slice A0 n c0] w fun e w' => (∃ x y z, e = .returned (.tuple #[.int .i64 x, .int .i64 y, .int .i64 z]) ∧ Len3 l x y z) ∧ w' = w := by
  have hlen := Kd.C_len hr
  have hmax := Kd.C_max hr
  obtain ⟨ad, rfl, hcell⟩ := Rd.cells hr (by omega)
  have x1 : w.cell? ⟨ad.block, ad.off + 1, none⟩ = some (.int .u8 (rd l 1)) := Rd.lit hcell 0 (by omega)
  have r1 : 0 ≤ rd l 1 ∧ rd l 1 < 256 := bytes_rd hb 1 (by omega)
  obtain ⟨_, b127, _, _⟩ := byte_bits (rd l 1) r1
  rw [hq] at b127
  have hU : lenR l = if l.length < 4 then (0, 0, 1) else if numL ((l.drop 2).take 2) ≤ 125 then (0, 0, 1002) else if 16384 < numL ((l.drop 2).take 2) then (0, 0, 1009) else (numL ((l.drop 2).take 2), 4, 0) := by
    unfold lenR
    rw [hq]
    rfl
  obtain ⟨d, hd⟩ : ∃ d, d = rd l 1 := ⟨_, rfl⟩
  rw [← hd] at x1 b127
  have i1 : (1 : Int) < n := by omega
  have n1 : 1 < n := by omega
  by_cases hsh : n < 4
  · have dsh : decide ((n : Int) < 4) = true := decide_eq_true (by omega)
    have HU := Lib.hid (show lenR l = (0, 0, 1) by rw [hU, if_pos (by omega)])
    clear hU hd r1 hq hb hr hcell hlen hmax hsh hn
    go_enter Tryd.func40, Tryd.ntmps40
    go_wp2
    go_ret3
    exact ⟨⟨_, _, _, rfl, HU.out⟩, rfl⟩
  · have dsh : decide ((n : Int) < 4) = false := decide_eq_false (by omega)
    obtain ⟨t, ht⟩ : ∃ t, t = (l.drop 2).take 2 := ⟨_, rfl⟩
    have htl : t.length = 2 := by rw [ht, List.length_take, List.length_drop]; omega
    have htb : Bytes t := by rw [ht]; exact (hb.dp 2).tk 2
    have ht0 : rd t 0 = rd l 2 := by rw [ht]; unfold rd; rw [show (0 : Int).toNat = 0 from rfl, show (2 : Int).toNat = 2 from rfl, List.getD_eq_getElem?_getD, List.getD_eq_getElem?_getD, List.getElem?_take, if_pos (by decide), List.getElem?_drop]
    have hrow : Rd w (some ⟨ad.block, ad.off + 2, none⟩) 2 t := by
      have hq := Rd.mid (x := ⟨ad.block, ad.off + 2, none⟩) hr 2 4 (by omega) (by omega) (fun _ => by show _ = (if 2 = 0 then _ else _); rw [if_neg (by omega)])
      rwa [List.drop_take, ← ht] at hq
    obtain ⟨bd, hbd⟩ : ∃ bd : Addr, bd = ⟨ad.block, ad.off + 2, none⟩ := ⟨_, rfl⟩
    rw [← hbd] at hrow
    rw [if_neg (by omega), ← ht] at hU
    have HU := Lib.hid (And.intro hU (And.intro htb (And.intro htl ht0)))
    have HROW := Lib.hid hrow
    have HBD := Lib.hid hbd
    have g1 : (2 : Int) ≤ c0 := by omega
    have g2 : (4 : Int) ≤ c0 := by omega
    have g3 : 2 ≤ c0 := by omega
    have g4 : 4 ≤ c0 := by omega
    have g5 : ¬ c0 = 2 := by omega
    clear hU hd r1 hq hb hr hcell hlen hsh hn ht htl htb ht0 hrow hbd
    go_enter Tryd.func40, Tryd.ntmps40
    go_wp2_with fail
    rw [← HBD.out]
    clear x1 b127 g1 g2 g3 g4 g5
    go_loopw [8, 31] (fun v i wr => ∃ (j : Nat) (y : Int), j ≤ 2 ∧ i = .int .i64 j ∧ v = .int .u64 y ∧ Hid (y = numL (t.take j)) ∧ w = wr) (fun _ i _ => 2 - (intOf i).toNat)
    case atStart => exact ⟨0, 0, by omega, rfl, rfl, Lib.hid rfl, rfl⟩
    case round =>
      obtain ⟨j, y, hj, rfl, rfl, HY, rfl⟩ := hrel
      by_cases hjm : j < 2
      · have djm : decide (j < 2) = true := decide_eq_true hjm
        have djm' : decide ((j : Int) < 2) = true := decide_eq_true (by omega)
        have ijm : (j : Int) < 2 := by omega
        obtain ⟨ad', e, hxs⟩ := Rd.cells HROW.out (by decide)
        cases e
        have hx := hxs j hjm
        clear hxs
        have hjt : j < t.length := by rw [HU.out.2.2.1]; exact hjm
        obtain ⟨d0, d1⟩ := bytes_rd HU.out.2.1 j hjt
        have hstep := numL_take t j hjt
        rw [← HY.out] at hstep
        have hyr := numL_range t HU.out.2.1 j (by omega)
        rw [← HY.out] at hyr
        have hp := pow256n j (by omega)
        obtain ⟨y0, y1'⟩ := hyr
        have y1 : y < 72057594037927936 := Int.lt_of_lt_of_le y1' hp
        obtain ⟨x, hxe⟩ : ∃ x, x = rd t j := ⟨_, rfl⟩
        rw [← hxe] at hx d0 d1 hstep
        have HST := Lib.hid hstep
        have hor := or_byte64 y x y0 y1 d0 d1
        have hwx : IntKind.u64.wrap x = x := by rw [IntKind.wrap_u64]; omega
        have hwy : IntKind.u64.wrap (y * 256) = y * 256 := by rw [IntKind.wrap_u64]; omega
        have wj : IntKind.i64.wrap ((j : Int) + 1) = j + 1 := wrap_id (by omega) (by omega)
        clear hstep hxe hp y1' hjt
        go_wp2
        go_roundw
        case rel => exact ⟨j + 1, 256 * y + x, by omega, by go_num, by first | rfl | (rw [hor]), Lib.hid HST.out.symm, by first | rfl | trivial⟩
        case measure => simp [intOf]; omega
      · obtain rfl : j = 2 := by omega
        have hy : y = numL t := by rw [HY.out, List.take_of_length_le (by rw [HU.out.2.2.1]; exact Nat.le_refl _)]
        have hyr := numL_range t HU.out.2.1 2 (by rw [HU.out.2.2.1]; exact Nat.le_refl _)
        rw [← HY.out, show ((256 ^ 2 : Nat) : Int) = 65536 from rfl] at hyr
        have hU := HU.out.1
        rw [← hy] at hU
        clear hy
        have d3 : (y / 9223372036854775808 != 0) = false := by rw [show y / 9223372036854775808 = 0 by omega]; rfl
        by_cases h1 : y ≤ 125
        · have e1 : decide (y ≤ 125) = true := decide_eq_true h1
          have HV := Lib.hid (show lenR l = (0, 0, 1002) by rw [hU, if_pos h1])
          clear hU h1
          go_wp2
          go_ret3
          exact ⟨⟨_, _, _, rfl, HV.out⟩, rfl⟩
        · have e1 : decide (y ≤ 125) = false := decide_eq_false h1
          by_cases h2 : 16384 < y
          · have e2 : decide (16384 < y) = true := decide_eq_true h2
            have HV := Lib.hid (show lenR l = (0, 0, 1009) by rw [hU, if_neg h1, if_pos h2])
            clear hU h1 h2
            go_wp2
            go_ret3
            exact ⟨⟨_, _, _, rfl, HV.out⟩, rfl⟩
          · have e2 : decide (16384 < y) = false := decide_eq_false h2
            have HV := Lib.hid (show lenR l = (y, 4, 0) by rw [hU, if_neg h1, if_neg h2])
            have wy : IntKind.i64.wrap y = y := wrap_id (by omega) (by omega)
            clear hU h1 h2
            go_wp2
            go_ret3
            exact ⟨⟨_, _, _, rfl, HV.out⟩, rfl⟩
set_option maxHeartbeats 1600000 in
theorem length_8 {n : Nat} (A0 : Option Addr) (c0 : Nat) (l : List Int) (w : World) (hr : Rd w A0 n l) (hc0 : n ≤ c0) (hb : Bytes l) (hn : 2 ≤ n) (hq : rd l 1 % 128 = 127) :
    Calls Tryd.prog 40 #[.slice A0 n c0] w fun e w' => (∃ x y z, e = .returned (.tuple #[.int .i64 x, .int .i64 y, .int .i64 z]) ∧ Len3 l x y z) ∧ w' = w := by
  have hlen := Kd.C_len hr
  have hmax := Kd.C_max hr
  obtain ⟨ad, rfl, hcell⟩ := Rd.cells hr (by omega)
  have x1 : w.cell? ⟨ad.block, ad.off + 1, none⟩ = some (.int .u8 (rd l 1)) := Rd.lit hcell 0 (by omega)
  have r1 : 0 ≤ rd l 1 ∧ rd l 1 < 256 := bytes_rd hb 1 (by omega)
  obtain ⟨_, b127, _, _⟩ := byte_bits (rd l 1) r1
  rw [hq] at b127
  have hU : lenR l = if l.length < 10 then (0, 0, 1) else if 128 ≤ rd l 2 ∨ numL ((l.drop 2).take 8) ≤ 65535 then (0, 0, 1002) else (0, 0, 1009) := by
    unfold lenR
    rw [hq]
    rfl
  obtain ⟨d, hd⟩ : ∃ d, d = rd l 1 := ⟨_, rfl⟩
  rw [← hd] at x1 b127
  have i1 : (1 : Int) < n := by omega
  have n1 : 1 < n := by omega
  by_cases hsh : n < 10
  · have dsh : decide ((n : Int) < 10) = true := decide_eq_true (by omega)
    have HU := Lib.hid (show lenR l = (0, 0, 1) by rw [hU, if_pos (by omega)])
    clear hU hd r1 hq hb hr hcell hlen hmax hsh hn
    go_enter Tryd.func40, Tryd.ntmps40
    go_wp2
    go_ret3
    exact ⟨⟨_, _, _, rfl, HU.out⟩, rfl⟩
  · have dsh : decide ((n : Int) < 10) = false := decide_eq_false (by omega)
    obtain ⟨t, ht⟩ : ∃ t, t = (l.drop 2).take 8 := ⟨_, rfl⟩
    have htl : t.length = 8 := by rw [ht, List.length_take, List.length_drop]; omega
    have htb : Bytes t := by rw [ht]; exact (hb.dp 2).tk 8
    have ht0 : rd t 0 = rd l 2 := by rw [ht]; unfold rd; rw [show (0 : Int).toNat = 0 from rfl, show (2 : Int).toNat = 2 from rfl, List.getD_eq_getElem?_getD, List.getD_eq_getElem?_getD, List.getElem?_take, if_pos (by decide), List.getElem?_drop]
    have hrow : Rd w (some ⟨ad.block, ad.off + 2, none⟩) 8 t := by
      have hq := Rd.mid (x := ⟨ad.block, ad.off + 2, none⟩) hr 2 10 (by omega) (by omega) (fun _ => by show _ = (if 2 = 0 then _ else _); rw [if_neg (by omega)])
      rwa [List.drop_take, ← ht] at hq
    obtain ⟨bd, hbd⟩ : ∃ bd : Addr, bd = ⟨ad.block, ad.off + 2, none⟩ := ⟨_, rfl⟩
    rw [← hbd] at hrow
    rw [if_neg (by omega), ← ht] at hU
    have HU := Lib.hid (And.intro hU (And.intro htb (And.intro htl ht0)))
    have HROW := Lib.hid hrow
    have HBD := Lib.hid hbd
    have g1 : (2 : Int) ≤ c0 := by omega
    have g2 : (10 : Int) ≤ c0 := by omega
    have g3 : 2 ≤ c0 := by omega
    have g4 : 10 ≤ c0 := by omega
    have g5 : ¬ c0 = 2 := by omega
    clear hU hd r1 hq hb hr hcell hlen hsh hn ht htl htb ht0 hrow hbd
    go_enter Tryd.func40, Tryd.ntmps40
    go_wp2_with fail
    rw [← HBD.out]
    clear x1 b127 g1 g2 g3 g4 g5
    go_loopw [8, 31] (fun v i wr => ∃ (j : Nat) (y : Int), j ≤ 8 ∧ i = .int .i64 j ∧ v = .int .u64 y ∧ Hid (y = numL (t.take j)) ∧ w = wr) (fun _ i _ => 8 - (intOf i).toNat)
    case atStart => exact ⟨0, 0, by omega, rfl, rfl, Lib.hid rfl, rfl⟩
    case round =>
      obtain ⟨j, y, hj, rfl, rfl, HY, rfl⟩ := hrel
      by_cases hjm : j < 8
      · have djm : decide (j < 8) = true := decide_eq_true hjm
        have djm' : decide ((j : Int) < 8) = true := decide_eq_true (by omega)
        have ijm : (j : Int) < 8 := by omega
        obtain ⟨ad', e, hxs⟩ := Rd.cells HROW.out (by decide)
        cases e
        have hx := hxs j hjm
        clear hxs
        have hjt : j < t.length := by rw [HU.out.2.2.1]; exact hjm
        obtain ⟨d0, d1⟩ := bytes_rd HU.out.2.1 j hjt
        have hstep := numL_take t j hjt
        rw [← HY.out] at hstep
        have hyr := numL_range t HU.out.2.1 j (by omega)
        rw [← HY.out] at hyr
        have hp := pow256n j (by omega)
        obtain ⟨y0, y1'⟩ := hyr
        have y1 : y < 72057594037927936 := Int.lt_of_lt_of_le y1' hp
        obtain ⟨x, hxe⟩ : ∃ x, x = rd t j := ⟨_, rfl⟩
        rw [← hxe] at hx d0 d1 hstep
        have HST := Lib.hid hstep
        have hor := or_byte64 y x y0 y1 d0 d1
        have hwx : IntKind.u64.wrap x = x := by rw [IntKind.wrap_u64]; omega
        have hwy : IntKind.u64.wrap (y * 256) = y * 256 := by rw [IntKind.wrap_u64]; omega
        have wj : IntKind.i64.wrap ((j : Int) + 1) = j + 1 := wrap_id (by omega) (by omega)
        clear hstep hxe hp y1' hjt
        go_wp2
        go_roundw
        case rel => exact ⟨j + 1, 256 * y + x, by omega, by go_num, by first | rfl | (rw [hor]), Lib.hid HST.out.symm, by first | rfl | trivial⟩
        case measure => simp [intOf]; omega
      · obtain rfl : j = 8 := by omega
        have hy : y = numL t := by rw [HY.out, List.take_of_length_le (by rw [HU.out.2.2.1]; exact Nat.le_refl _)]
        have hyr := numL_range t HU.out.2.1 8 (by rw [HU.out.2.2.1]; exact Nat.le_refl _)
        rw [← HY.out, show ((256 ^ 8 : Nat) : Int) = 18446744073709551616 from rfl] at hyr
        have hU := HU.out.1
        rw [← hy] at hU
        clear hy
        have hh := numL_high t HU.out.2.1 7 (by rw [HU.out.2.2.1]; decide)
        rw [← HY.out, HU.out.2.2.2, show ((256 ^ 7 : Nat) : Int) = 72057594037927936 from rfl] at hh
        by_cases h0 : 128 ≤ rd l 2
        · have d3 : (y / 9223372036854775808 != 0) = true := by unfold bne; rw [beq_eq_false_iff_ne.2 (show y / 9223372036854775808 ≠ 0 by omega)]; rfl
          have HV := Lib.hid (show lenR l = (0, 0, 1002) by rw [hU, if_pos (.inl h0)])
          clear hU h0 hh
          go_wp2
          go_ret3
          exact ⟨⟨_, _, _, rfl, HV.out⟩, rfl⟩
        · have d3 : (y / 9223372036854775808 != 0) = false := by rw [show y / 9223372036854775808 = 0 by omega]; rfl
          by_cases h1 : y ≤ 65535
          · have e1 : decide (y ≤ 65535) = true := decide_eq_true h1
            have HV := Lib.hid (show lenR l = (0, 0, 1002) by rw [hU, if_pos (.inr h1)])
            clear hU h0 h1 hh
            go_wp2
            go_ret3
            exact ⟨⟨_, _, _, rfl, HV.out⟩, rfl⟩
          · have e1 : decide (y ≤ 65535) = false := decide_eq_false h1
            have e2 : decide (16384 < y) = true := decide_eq_true (by omega)
            have HV := Lib.hid (show lenR l = (0, 0, 1009) by rw [hU, if_neg (by omega)])
            clear hU h0 h1 hh
            go_wp2
            go_ret3
            exact ⟨⟨_, _, _, rfl, HV.out⟩, rfl⟩
theorem length_small {n : Nat} (A0 : Option Addr) (c0 : Nat) (l : List Int) (w : World) (hr : Rd w A0 n l) (hb : Bytes l) (hn : 2 ≤ n) (hq : rd l 1 % 128 ≤ 125) :
    Calls Tryd.prog 40 #[.slice A0 n c0] w fun e w' => (∃ x y z, e = .returned (.tuple #[.int .i64 x, .int .i64 y, .int .i64 z]) ∧ Len3 l x y z) ∧ w' = w := by
  have hlen := Kd.C_len hr
  obtain ⟨ad, rfl, hcell⟩ := Rd.cells hr (by omega)
  have x1 : w.cell? ⟨ad.block, ad.off + 1, none⟩ = some (.int .u8 (rd l 1)) := Rd.lit hcell 0 (by omega)
  have r1 : 0 ≤ rd l 1 ∧ rd l 1 < 256 := bytes_rd hb 1 (by omega)
  obtain ⟨_, b127, _, _⟩ := byte_bits (rd l 1) r1
  have HU := Lib.hid (show lenR l = (rd l 1 % 128, 2, 0) by unfold lenR; rw [if_pos hq])
  obtain ⟨q, hqe⟩ : ∃ q, q = rd l 1 % 128 := ⟨_, rfl⟩
  obtain ⟨d, hd⟩ : ∃ d, d = rd l 1 := ⟨_, rfl⟩
  have wq : IntKind.i64.wrap q = q := wrap_id (by omega) (by omega)
  rw [← hqe] at b127 HU hq
  rw [← hd] at x1 b127
  have i1 : (1 : Int) < n := by omega
  have n1 : 1 < n := by omega
  have dq : decide (q ≤ 125) = true := decide_eq_true hq
  clear hd hqe hcell hr hb hlen r1 hq hn
  go_enter Tryd.func40, Tryd.ntmps40
  go_wp2
  go_ret3
  exact ⟨⟨_, _, _, rfl, HU.out⟩, rfl⟩
theorem length_calls {n : Nat} (A0 : Option Addr) (c0 : Nat) (l : List Int) (w : World) (hr : Rd w A0 n l) (hc0 : n ≤ c0) (hb : Bytes l) (hn : 2 ≤ n) :
    Calls Tryd.prog 40 #[.slice A0 n c0] w fun e w' => (∃ x y z, e = .returned (.tuple #[.int .i64 x, .int .i64 y, .int .i64 z]) ∧ Len3 l x y z) ∧ w' = w := by
  by_cases h1 : rd l 1 % 128 ≤ 125
  · exact length_small A0 c0 l w hr hb hn h1
  · by_cases h2 : rd l 1 % 128 = 126
    · exact length_2 A0 c0 l w hr hc0 hb hn h2
    · exact length_8 A0 c0 l w hr hc0 hb hn (by omega)
/-- What length may answer. -/
theorem Len3.ok {l : List Int} {n t why : Int} (h : Len3 l n t why) (hb : Bytes l) (hn : 2 ≤ l.length) : (why ≠ 0 ∧ (why = 1 ∨ why = 1002 ∨ why = 1009)) ∨ (why = 0 ∧ ∃ N T : Nat, n = N ∧ t = T ∧ N ≤ 16384 ∧ (T = 2 ∨ T = 4) ∧ T ≤ l.length) := by
  unfold Len3 lenR at h
  have r1 := bytes_rd hb 1 (by omega)
  have e1 : rd l ((1 : Nat) : Int) = rd l 1 := rfl
  rw [e1] at r1
  split at h
  · simp only [Prod.mk.injEq] at h
    obtain ⟨rfl, rfl, rfl⟩ := h
    exact .inr ⟨rfl, (rd l 1 % 128).toNat, 2, by omega, rfl, by omega, .inl rfl, hn⟩
  split at h
  · split at h
    · simp only [Prod.mk.injEq] at h
      obtain ⟨rfl, rfl, rfl⟩ := h
      exact .inl ⟨by decide, .inl rfl⟩
    split at h
    · simp only [Prod.mk.injEq] at h
      obtain ⟨rfl, rfl, rfl⟩ := h
      exact .inl ⟨by decide, .inr (.inl rfl)⟩
    split at h
    · simp only [Prod.mk.injEq] at h
      obtain ⟨rfl, rfl, rfl⟩ := h
      exact .inl ⟨by decide, .inr (.inr rfl)⟩
    · simp only [Prod.mk.injEq] at h
      obtain ⟨rfl, rfl, rfl⟩ := h
      exact .inr ⟨rfl, (numL ((l.drop 2).take 2)).toNat, 4, by omega, rfl, by omega, .inr rfl, by omega⟩
  · split at h
    · simp only [Prod.mk.injEq] at h
      obtain ⟨rfl, rfl, rfl⟩ := h
      exact .inl ⟨by decide, .inl rfl⟩
    split at h
    · simp only [Prod.mk.injEq] at h
      obtain ⟨rfl, rfl, rfl⟩ := h
      exact .inl ⟨by decide, .inr (.inl rfl)⟩
    · simp only [Prod.mk.injEq] at h
      obtain ⟨rfl, rfl, rfl⟩ := h
      exact .inl ⟨by decide, .inr (.inr rfl)⟩
end Go.Proofs.YtcfbfmgckaehdaaDoor
namespace Go.Proofs.YtcfbfmgckaehdaaDoor
open Go
section
variable {P : Program} {hd tl : List Oper} {C : World → Prop}
/-- The operations ahead ask for what stands ahead of them alone, and have no guard; those behind wait for each of them. -/
def headB (hd tl : List Oper) : Bool :=
  ((List.range hd.length).all fun i => match hd[i]? with
    | some o => o.guard.isNone && o.after.all fun e => decide (e.on < i)
    | none => false) &&
  tl.all fun o => (List.range hd.length).all fun i => o.after.any fun e => Region.binds .any e && e.on == i
theorem headB_head (h : headB hd tl = true) (i : Nat) (o : Oper) (hi : hd[i]? = some o) : o.guard = none ∧ ∀ e ∈ o.after, e.on < i := by
  unfold headB at h
  rw [Bool.and_eq_true] at h
  have h1 := List.all_eq_true.1 h.1 i (List.mem_range.2 (List.getElem?_eq_some_iff.1 hi).1)
  rw [hi] at h1
  simp only [Bool.and_eq_true, Option.isNone_iff_eq_none] at h1
  exact ⟨h1.1, fun e he => by simpa using Array.all_eq_true_iff_forall_mem.1 h1.2 e he⟩
theorem headB_tail (h : headB hd tl = true) (o : Oper) (ho : o ∈ tl) (i : Nat) (hi : i < hd.length) : ∃ e ∈ o.after, Region.binds .any e = true ∧ e.on = i := by
  unfold headB at h
  rw [Bool.and_eq_true] at h
  have h1 := List.all_eq_true.1 (List.all_eq_true.1 h.2 o ho) i (List.mem_range.2 hi)
  obtain ⟨e, he, hb⟩ := Array.any_eq_true'.1 h1
  rw [Bool.and_eq_true, beq_iff_eq] at hb
  exact ⟨e, he, hb.1, hb.2⟩
def falses (g : Nat) : Array Bool := Array.replicate g false
theorem getD_head (L : Array Bool) (g j : Nat) (d : Bool) (hj : j < L.size) : (L ++ falses g).getD j d = L.getD j d := by
  simp [falses, Array.getElem?_append, hj]
theorem set_head (L : Array Bool) (g i : Nat) (hi : i < L.size) : (L ++ falses g).setIfInBounds i true = L.setIfInBounds i true ++ falses g := by
  apply Array.ext_getElem?
  intro j
  by_cases hij : i = j
  · subst hij
    have h2 : i < (L ++ falses g).size := by simp; omega
    rw [Array.getElem?_setIfInBounds_self_of_lt h2, Array.getElem?_append, if_pos (by simpa using hi), Array.getElem?_setIfInBounds_self_of_lt hi]
  · rw [Array.getElem?_setIfInBounds_ne hij, Array.getElem?_append, Array.getElem?_append]
    simp only [Array.size_setIfInBounds, Array.getElem?_setIfInBounds_ne hij]
theorem wanted_none {o : Oper} (h : o.guard = none) (f : Nat → Option Bool) : Region.wanted o f = true := by
  unfold Region.wanted
  rw [h]
/-- While one of the head is open, what is ready is of the head. -/
theorem ready_head (hB : headB hd tl = true) (L : Array Bool) (hL : L.size = hd.length) (i0 : Nat) (hi0 : i0 < L.size) (h0 : L.getD i0 false = false) (j : Nat) :
    j ∈ Region.ready .any (hd ++ tl).toArray (L ++ falses tl.length) ↔ j ∈ Region.ready .any hd.toArray L := by
  rw [mem_ready, mem_ready]
  by_cases hj : j < hd.length
  · have e1 : (hd ++ tl).toArray[j]? = hd.toArray[j]? := by simp [List.getElem?_append_left hj]
    rw [getD_head _ _ _ _ (by omega), e1]
    refine and_congr_right fun _ => exists_congr fun o => and_congr_right fun ho => ?_
    have := (headB_head hB j o (by simpa using ho)).2
    refine forall_congr' fun e => forall_congr' fun he => ?_
    rw [getD_head _ _ _ _ (by have := this e he; omega)]
  · constructor
    · rintro ⟨h1, o, ho, hall⟩
      have hjt : j < hd.length + tl.length := by have := (Array.getElem?_eq_some_iff.1 ho).1; simpa using this
      have hmem : o ∈ tl := by
        have h2 : (hd ++ tl)[j]? = some o := by simpa using ho
        rw [List.getElem?_append_right (by omega)] at h2
        exact List.mem_of_getElem? h2
      obtain ⟨e, he, hb, hon⟩ := headB_tail hB o hmem i0 (by omega)
      have := hall e he hb
      rw [hon, getD_head _ _ _ _ hi0, h0] at this
      cases this
    · rintro ⟨_, o, ho, _⟩
      have := (Array.getElem?_eq_some_iff.1 ho).1
      exact absurd (by simpa using this) hj
theorem ready_one (hB : headB hd tl = true) (L : Array Bool) (hL : L.size = hd.length) : ∀ (i0 : Nat), i0 < L.size → L.getD i0 false = false → Region.ready .any hd.toArray L ≠ [] := by
  intro i0
  induction i0 using Nat.strongRecOn with
  | _ i0 ih =>
    intro hi0 h0 he
    have hlt : i0 < hd.length := by omega
    by_cases hr : i0 ∈ Region.ready .any hd.toArray L
    · rw [he] at hr; cases hr
    · refine hr (mem_ready.2 ⟨getD_in hi0 h0, hd[i0], by simp [hlt], fun e hem _ => ?_⟩)
      have hon := (headB_head hB i0 _ (by simp [hlt])).2 e hem
      cases hv : L.getD e.on false with
      | true => rfl
      | false => exact absurd he (ih e.on hon (by omega) hv)
theorem count_set (L : Array Bool) (i : Nat) (hi : i < L.size) (h0 : L.getD i true = false) : (L.setIfInBounds i true).toList.count false + 1 = L.toList.count false := by
  have h1 : L[i] = false := by simpa [hi] using h0
  rw [Array.toList_setIfInBounds]
  have hl : i < L.toList.length := by simpa using hi
  have h2 := List.count_set (a := true) (b := false) (h := hl)
  have h3 : L.toList[i] = false := by simpa using h1
  have h4 : 0 < L.toList.count false := List.count_pos_iff.2 (h3 ▸ List.getElem_mem hl)
  rw [h2, if_pos (by rw [h3]; rfl), if_neg (by decide)]
  omega
theorem tail_of_head (hB : headB hd tl = true) {Q1 : Act → Prop} {Q' : Exit → Act → World → Prop}
    (hQ : ∀ a w, C w → Q1 a → wpAny P .any (hd ++ tl).toArray Q' tl.length (Array.replicate hd.length true ++ falses tl.length) a w) :
    ∀ (f : Nat) (L : Array Bool) (a : Act) (w : World), C w → L.size = hd.length → L.toList.count false = f → wpAnyQ P .any hd.toArray C Q1 f L a →
      wpAny P .any (hd ++ tl).toArray Q' (f + tl.length) (L ++ falses tl.length) a w
  | 0, L, a, w, hw, hs, hc, h => by
    have hE : L = Array.replicate hd.length true := by
      have h1 : ∀ b ∈ L.toList, b = true := by
        intro b hb
        cases b with
        | true => rfl
        | false => exact absurd (List.count_pos_iff.2 hb) (by omega)
      apply Array.ext_getElem?
      intro j
      by_cases hj : j < L.size
      · have := h1 L[j] (by simp)
        simp [hj, this, ← hs]
      · simp [Array.getElem?_eq_none (Nat.le_of_not_lt hj)]
        omega
    rw [hE, Nat.zero_add]
    exact hQ a w hw h.2
  | f + 1, L, a, w, hw, hs, hc, h => by
    obtain ⟨i0, hi0, h0⟩ : ∃ i0, i0 < L.size ∧ L.getD i0 false = false := by
      have : false ∈ L.toList := List.count_pos_iff.1 (by omega)
      obtain ⟨i, hi, e⟩ := List.mem_iff_getElem.1 this
      have hi' : i < L.size := by simpa using hi
      exact ⟨i, hi', by simpa [hi'] using e⟩
    have hrd := ready_head (tl := tl) hB L hs i0 hi0 h0
    have hne := ready_one hB L hs i0 hi0 h0
    rw [show f + 1 + tl.length = (f + tl.length) + 1 by omega]
    refine ⟨fun he => ?_, fun i hi => ?_⟩
    · obtain ⟨j, hj⟩ := List.exists_mem_of_ne_nil _ hne
      have := (hrd j).2 hj
      rw [he] at this
      cases this
    · have hi' := (hrd i).1 hi
      obtain ⟨hu, o, ho, _⟩ := mem_ready.1 hi'
      have hin : i < hd.length := by have := (Array.getElem?_eq_some_iff.1 ho).1; simpa using this
      have hg := (headB_head hB i o (by simpa using ho)).1
      have hq := h.2 i hi'
      have ho2 : (hd ++ tl).toArray[i]? = some o := by rw [← ho]; simp [List.getElem?_append_left hin]
      have hq2 : qOp P (hd ++ tl).toArray C i (wpAnyQ P .any hd.toArray C Q1 f (L.setIfInBounds i true)) a := by
        unfold qOp at hq ⊢
        simp only [ho] at hq
        simp only [ho2]
        rw [wanted_none hg] at hq ⊢
        exact hq
      have hc' := count_set L i (by omega) hu
      rw [set_head L _ i (by omega)]
      exact wpOp_of_qOp hw (fun a' w' hw' h' => tail_of_head hB hQ f _ a' w' hw' (by simpa using hs) (by omega) h') hq2
/-- A region that draws its order: the head by one quiet walk, the tail in its order. -/
theorem wp_region_quiet_tail {id : Nat} {Q : Exit → Act → World → Prop} {a : Act} {w : World} (hd tl : List Oper) (hm : P.follows .mixedOrders = true) (hB : headB hd tl = true) (hH : Region.lexB .any hd.toArray = true)
    (hT : Region.seqB .any (hd ++ tl).toArray tl.length hd.length (Array.replicate hd.length true ++ falses tl.length) = true)
    (h : wpQuiet P hd.toArray (fun w' => ∃ n, w' = w.drewN n) (fun a' => ∀ w', (∃ n, w' = w.drewN n) → wpList P (hd ++ tl).toArray Q tl a' w') hd a) : (Code.region id (hd ++ tl).toArray true).wp P Q a w := by
  simp only [Region.lexB, Bool.and_eq_true] at hH
  have h1 := wpAnyQ_lex (P := P) (C := fun w' => ∃ n, w' = w.drewN n) (md := .any) hH.1 hd 0 (Array.replicate hd.length false) a (by simp) (by simpa using hH.2) h
  have h2 := tail_of_head (P := P) (C := fun w' => ∃ n, w' = w.drewN n) (Q' := Q) hB (fun a' w' hw' hq => wpAny_of_seq (md := .any) tl hd.length _ a' w' (fun j => by simp [List.getElem?_append_right]) hT (hq w' hw')) hd.length (Array.replicate hd.length false) a { w with drawn := w.drawn + 1 } ⟨1, rfl⟩ (by simp) (by simp) h1
  refine wp_region_any hm ?_
  have e : Array.replicate (hd ++ tl).toArray.size false = Array.replicate hd.length false ++ falses tl.length := by
    apply Array.ext_getElem?
    intro j
    simp [falses, Array.getElem?_replicate]
  rw [e, show (hd ++ tl).toArray.size = hd.length + tl.length by simp]
  exact h2
/-- The same for a region that is written out. -/
theorem wp_region_quiet_tail_at {id : Nat} {Q : Exit → Act → World → Prop} {a : Act} {w : World} {l : List Oper} (n : Nat) (hm : P.follows .mixedOrders = true) (hB : headB (l.take n) (l.drop n) = true) (hH : Region.lexB .any (l.take n).toArray = true)
    (hT : Region.seqB .any l.toArray (l.drop n).length (l.take n).length (Array.replicate (l.take n).length true ++ falses (l.drop n).length) = true)
    (h : wpQuiet P (l.take n).toArray (fun w' => ∃ n, w' = w.drewN n) (fun a' => ∀ w', (∃ n, w' = w.drewN n) → wpList P l.toArray Q (l.drop n) a' w') (l.take n) a) : (Code.region id l.toArray true).wp P Q a w := by
  have e := List.take_append_drop n l
  have := wp_region_quiet_tail (P := P) (id := id) (Q := Q) (a := a) (w := w) (l.take n) (l.drop n) hm hB hH
  rw [e] at this
  exact this hT h
end
end Go.Proofs.YtcfbfmgckaehdaaDoor
