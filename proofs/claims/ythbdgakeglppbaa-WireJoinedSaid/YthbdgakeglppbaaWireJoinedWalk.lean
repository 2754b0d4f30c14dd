/- WireJoined: the walk of the law. -/
import Derived.Test.YthbdgakeglppbaaJoinedLaw
import Derived.Test.YthbdgakeglppbaaConcat
import Derived.Test.YthbdgakeglppbaaFrames1
import Derived.Lib.SmallJoins
namespace Go.Proofs.Ythbdgakeglppbaa
open Go.RowKit Go.Proofs.YthbdgakeglppbaaW.PrintWords
theorem joined_ff : charsOf [255] = 0 := by
  unfold charsOf
  rw [charsFrom, dif_pos (by decide), if_pos (by decide)]
  rfl
theorem joined_a : charsOf [97] = -1 := by
  unfold charsOf
  rw [charsFrom, dif_pos (by decide), if_neg (by decide), charsFrom, dif_neg (by decide)]
set_option maxHeartbeats 800000 in
theorem WireJoined_early (A0 : Option Addr) (n0 c0 : Nat) (A1 : Option Addr) (n1 c1 : Nat) (w : World) (hbig : 262144 < n0 ∨ 262144 < n1) :
    Calls Try.prog 12 #[.slice A0 n0 c0, .slice A1 n1 c1] w fun e w' => e = .returned (.bool true) ∧ Below w.heap.size w w' := by
  by_cases h1 : 262144 < n0
  case' pos =>
    have hd : decide (262144 < n0) = true := decide_eq_true h1
  case' neg =>
    have hd : decide (262144 < n0) = false := decide_eq_false h1
    have hd2 : decide (262144 < n1) = true := decide_eq_true (by omega)
  all_goals
    go_enter Try.func12, Try.ntmps12
    go_wp2_with fail
    obtain ⟨A, c, e, hc, hrd⟩ := (lit_one (Below.refl w.heap.size w) 255).reads
    cases e
    refine (Chars_calls _ _ [255] _ hrd (Bytes.con (by omega) (by omega) Bytes.nil)).mono ?_
    rintro e w1 ⟨rfl, hd1⟩
    rw [joined_ff]
    have HB1 := Lib.hid (below_step (below_alloc (Below.refl w.heap.size w) _) hd1.below)
    clear hd1
    go_wp2
    go_ret
    exact ⟨rfl, HB1.out⟩
set_option maxHeartbeats 1600000 in
theorem WireJoined_main (A0 : Option Addr) (n0 c0 : Nat) (l0 : List Int) (A1 : Option Addr) (n1 c1 : Nat) (l1 : List Int) (w : World) (hr0 : Rd w A0 n0 l0) (hb0 : Bytes l0) (hl0 : n0 ≤ 262144) (hr1 : Rd w A1 n1 l1) (hb1 : Bytes l1) (hl1 : n1 ≤ 262144) :
    Calls Try.prog 12 #[.slice A0 n0 c0, .slice A1 n1 c1] w fun e w' => e = .returned (.bool true) ∧ Below w.heap.size w w' := by
  have hd : decide (262144 < n0) = false := decide_eq_false (by omega)
  have hd2 : decide (262144 < n1) = false := decide_eq_false (by omega)
  have hk0 := Kd.C_len hr0
  have hk1 := Kd.C_len hr1
  have HJ1 := Lib.hid (joined_first l0 l1)
  have HJ2 := Lib.hid (joined_whole l0 l1)
  have HR0 := Lib.hid (chars_range l0)
  have HR1 := Lib.hid (chars_range l1)
  obtain ⟨ch, hch⟩ : ∃ x, x = charsOf l0 := ⟨_, rfl⟩
  obtain ⟨dh, hdh⟩ : ∃ x, x = charsOf l1 := ⟨_, rfl⟩
  obtain ⟨lb, hlb⟩ : ∃ x, x = l0 ++ l1 := ⟨_, rfl⟩
  obtain ⟨bh, hbh⟩ : ∃ x, x = charsOf lb := ⟨_, rfl⟩
  rw [← hlb, ← hbh, ← hch, hk0] at HJ1
  rw [← hlb, ← hbh, ← hch, ← hdh, hk0] at HJ2
  rw [← hch, hk0] at HR0
  rw [← hdh, hk1] at HR1
  have HY := Lib.hid (show Bytes lb from hlb ▸ Bytes.app hb0 hb1)
  have HCH := Lib.hid hch
  have HDH := Lib.hid hdh
  have HLB := Lib.hid hlb
  have HBH := Lib.hid hbh
  have HY0 := Lib.hid hb0
  have HY1 := Lib.hid hb1
  clear hb0 hb1 hch hdh hlb hbh hk0 hk1
  have Hp_0 := Lib.hid (hr0)
  have Hb_0 := Lib.hid (hr1)
  have Hall_0 := Lib.hid (Below.refl w.heap.size w)
  clear hr0 hr1
  have kc := fun (w : World) (C : Array Value) (n c g : Nat) (hg : g = w.heap.size) => Joins.run_convert_bytes_const_at (P := Try.prog) w 22 5 C n c g hg Try.underlying22 Try.underlying5
  go_enter Try.func12, Try.ntmps12
  go_wp2_with fail
  refine (Chars_calls _ _ [97] _ (C_const w 5 [97] (1, 2) (by decide)) (Bytes.con (by omega) (by omega) Bytes.nil)).mono ?_
  rintro e w1 ⟨rfl, hd1⟩
  rw [joined_a]
  have hq1 : Below w.heap.size w w1 := below_step (below_alloc (Below.refl w.heap.size w) _) hd1.below
  have Hp_1 := Lib.hid (Kd.C_below Hp_0.out hq1)
  have Hb_1 := Lib.hid (Kd.C_below Hb_0.out hq1)
  have Hall_1 := Lib.hid (below_step Hall_0.out hq1)
  clear Hp_0 Hb_0 Hall_0
  clear hd1 hq1 kc
  go_wp2_with fail
  refine (Chars_calls A0 c0 l0 _ Hp_1.out HY0.out).mono ?_
  rintro e w2 ⟨rfl, hd2⟩
  have Hp_2 := Lib.hid (Kd.C_below Hp_1.out hd2.below)
  have Hb_2 := Lib.hid (Kd.C_below Hb_1.out hd2.below)
  have Hall_2 := Lib.hid (below_step Hall_1.out hd2.below)
  clear Hp_1 Hb_1 Hall_1
  rw [← HCH.out]
  clear hd2
  go_wp2_with fail
  refine (Chars_calls A1 c1 l1 _ Hb_2.out HY1.out).mono ?_
  rintro e w3 ⟨rfl, hd3⟩
  have Hp_3 := Lib.hid (Kd.C_below Hp_2.out hd3.below)
  have Hb_3 := Lib.hid (Kd.C_below Hb_2.out hd3.below)
  have Hall_3 := Lib.hid (below_step Hall_2.out hd3.below)
  clear Hp_2 Hb_2 Hall_2
  rw [← HDH.out]
  clear hd3
  go_wp2_with fail
  have hq4 : Below w3.heap.size w3 (w3.alloc (.cells #[.slice A0 n0 c0, .slice A1 n1 c1] 22)) := below_alloc (Below.refl _ _) _
  refine (Concat_calls (n0 := n0) (n1 := n1) A0 c0 l0 A1 c1 l1 _ _ (Kd.C_below Hp_3.out hq4) (Kd.C_below Hb_3.out hq4) ?_ ?_ (by omega)).mono ?_
  · go_simp
  · go_simp
  rintro e w4 ⟨v4, rfl, ho4, hb4⟩
  rw [← HLB.out] at ho4
  obtain ⟨A4, c4, rfl, hc4, hrd⟩ := ho4.reads
  have hq5 : Below w3.heap.size w3 w4 := below_step hq4 hb4
  have Hp_4 := Lib.hid (Kd.C_below Hp_3.out hq5)
  have Hb_4 := Lib.hid (Kd.C_below Hb_3.out hq5)
  have Hall_4 := Lib.hid (below_step Hall_3.out hq5)
  clear Hp_3 Hb_3 Hall_3
  have Hc_4 := Lib.hid (hrd)
  clear ho4 hb4 hq4 hq5 hrd
  go_wp2_with fail
  refine (Chars_calls A4 c4 lb _ Hc_4.out HY.out).mono ?_
  rintro e w5 ⟨rfl, hd5⟩
  have Hp_5 := Lib.hid (Kd.C_below Hp_4.out hd5.below)
  have Hb_5 := Lib.hid (Kd.C_below Hb_4.out hd5.below)
  have Hall_5 := Lib.hid (below_step Hall_4.out hd5.below)
  have Hc_5 := Lib.hid (Kd.C_below Hc_4.out hd5.below)
  clear Hp_4 Hb_4 Hall_4 Hc_4
  rw [← HBH.out]
  clear hd5
  by_cases hx : 0 ≤ ch
  · obtain ⟨j1, j2⟩ := HJ1.out hx
    have e0 : decide (0 ≤ ch) = true := decide_eq_true hx
    have e1 : decide (ch < n0) = true := decide_eq_true j1
    by_cases hq : bh = ch
    · have e2 : (bh == ch) = true := by simp [hq]
      go_wp2
      go_ret
      exact ⟨rfl, Hall_5.out⟩
    · have e2 : (bh == ch) = false := beq_eq_false_iff_ne.2 hq
      have e3 : decide ((n0 : Int) - 3 ≤ ch) = true := decide_eq_true (by omega)
      by_cases hz : bh < 0
      · have e4 : decide (bh < 0) = true := decide_eq_true hz
        go_wp2
        go_ret
        exact ⟨rfl, Hall_5.out⟩
      · have e4 : decide (bh < 0) = false := decide_eq_false hz
        have e5 : decide (ch < bh) = true := decide_eq_true (by omega)
        go_wp2
        go_ret
        exact ⟨rfl, Hall_5.out⟩
  · have e0 : decide (0 ≤ ch) = false := decide_eq_false hx
    have j := HJ2.out (by omega)
    by_cases hy : dh < 0
    · have r1 := HR1.out
      rw [if_pos (by omega)] at j
      have e1 : decide (dh < 0) = true := decide_eq_true hy
      have e2 : (bh == -1) = true := by simp [j]
      clear j r1
      go_wp2
      go_ret
      exact ⟨rfl, Hall_5.out⟩
    · have r1 := HR1.out
      rw [if_neg (by omega)] at j
      have e1 : decide (dh < 0) = false := decide_eq_false hy
      have e2 : decide (dh < n1) = true := decide_eq_true (by omega)
      have e3 : IntKind.i64.wrap ((n0 : Int) + dh) = n0 + dh := wrap_id (by omega) (by omega)
      have e4 : (bh == (n0 : Int) + dh) = true := by simp [j]
      clear j r1
      go_wp2
      go_ret
      exact ⟨rfl, Hall_5.out⟩
theorem WireJoined_walk (A0 : Option Addr) (c0 : Nat) (l0 : List Int) (A1 : Option Addr) (c1 : Nat) (l1 : List Int) (w : World) (hr0 : Rd w A0 l0.length l0) (_hc0 : l0.length ≤ c0) (_hs0 : l0.length ≤ 140737488351232) (hb0 : Bytes l0) (hr1 : Rd w A1 l1.length l1) (_hc1 : l1.length ≤ c1) (_hs1 : l1.length ≤ 140737488351232) (hb1 : Bytes l1) :
    Calls Try.prog 12 #[.slice A0 l0.length c0, .slice A1 l1.length c1] w fun e w' => e = .returned (.bool true) ∧ Below w.heap.size w w' := by
  by_cases hbig : 262144 < l0.length ∨ 262144 < l1.length
  · exact WireJoined_early A0 _ c0 A1 _ c1 w hbig
  · exact WireJoined_main A0 _ c0 l0 A1 _ c1 l1 w hr0 hb0 (by omega) hr1 hb1 (by omega)
end Go.Proofs.Ythbdgakeglppbaa
