/- blotterref01.high, blotterref01.Frame. -/
import Derived.Test.YthbdgakeglppbaaFrame
import Derived.Test.YthbdgakeglppbaaFormRef
namespace Go.Proofs.Ythbdgakeglppbaa
open Go.RowKit Go.Proofs.YthbdgakeglppbaaW.PrintWords
set_option maxHeartbeats 800000 in
theorem high_calls (x : Int) (k : Nat) (w : World) (h0 : 0 ≤ x) (h1 : x ≤ 4294967295) (hk : k ≤ 4) :
    Calls Try.prog 56 #[.int .i64 x, .int .i64 k] w fun e w' => ∃ v0_ : Value, e = .returned (v0_) ∧ Own w w' v0_ (beBytes k x) ∧ Below w.heap.size w w' := by
  go_enter Try.func56, Try.ntmps56
  go_wp2
  go_loopw [5, 6] (fun v i wr => ∃ j : Nat, j ≤ k ∧ i = .int .i64 ((j : Int) - 1) ∧ Hid (Own w wr v ((beBytes k x).take (k - j))) ∧ Hid (Below w.heap.size w wr)) (fun _ i _ => (intOf i + 1).toNat)
  case atStart => exact ⟨k, Nat.le_refl _, rfl, Lib.hid (by rw [Nat.sub_self]; exact Own.nil _ _), Lib.hid (Below.refl _ _)⟩
  case round =>
    obtain ⟨j, hj, rfl, HO, HB⟩ := hrel
    by_cases hj0 : j = 0
    · subst hj0
      go_wp2
      go_ret
      exact ⟨_, rfl, HO.out.cast (by rw [List.take_of_length_le (by rw [beBytes_length]; omega)]), HB.out⟩
    · have HS := Lib.hid (beBytes_take k (k - j) x (by omega))
      have hj4 : j = 1 ∨ j = 2 ∨ j = 3 ∨ j = 4 := by omega
      rcases hj4 with rfl | rfl | rfl | rfl
      all_goals
        go_wp2_with (at_builtin; refine app_one HO.out HB.out (by simp only [List.length_take, beBytes_length]; omega) rfl rfl rfl rfl ?_)
        intro v3 w3 ho3 hb3 _ _
        have HB3 := Lib.hid hb3
        clear hb3 HB
      · have HO3 := Lib.hid (show Own w w3 v3 ((beBytes k x).take (k - 0)) from ho3.cast (by rw [show k - 0 = k - 1 + 1 by omega, HS.out, show k - 1 - (k - 1) = 0 by omega]; first | (simp; done) | (simp; left; omega)))
        clear ho3 HO
        go_wp2
        go_roundw
        case rel => exact ⟨0, by omega, rfl, HO3, HB3⟩
        case measure => simp [intOf]
      · have HO3 := Lib.hid (show Own w w3 v3 ((beBytes k x).take (k - 1)) from ho3.cast (by rw [show k - 1 = k - 2 + 1 by omega, HS.out, show k - 1 - (k - 2) = 1 by omega]; first | (simp; done) | (simp; left; omega)))
        clear ho3 HO
        go_wp2
        go_roundw
        case rel => exact ⟨1, by omega, rfl, HO3, HB3⟩
        case measure => simp [intOf]
      · have HO3 := Lib.hid (show Own w w3 v3 ((beBytes k x).take (k - 2)) from ho3.cast (by rw [show k - 2 = k - 3 + 1 by omega, HS.out, show k - 1 - (k - 3) = 2 by omega]; first | (simp; done) | (simp; left; omega)))
        clear ho3 HO
        go_wp2
        go_roundw
        case rel => exact ⟨2, by omega, rfl, HO3, HB3⟩
        case measure => simp [intOf]
      · have HO3 := Lib.hid (show Own w w3 v3 ((beBytes k x).take (k - 3)) from ho3.cast (by rw [show k - 3 = k - 4 + 1 by omega, HS.out, show k - 1 - (k - 4) = 3 by omega]; first | (simp; done) | (simp; left; omega)))
        clear ho3 HO
        go_wp2
        go_roundw
        case rel => exact ⟨3, by omega, rfl, HO3, HB3⟩
        case measure => simp [intOf]
theorem beBytes_three (n : Int) : beBytes 3 n = frameHead n := by
  simp [beBytes, frameHead, List.range_succ]
theorem beBytes_four (x : Int) (h0 : 0 ≤ x) (h1 : x ≤ 4294967295) : beBytes 4 x = wordBytes x := by
  simp [beBytes, wordBytes, List.range_succ]
  omega
set_option maxHeartbeats 800000 in
theorem FrameRef_long {n : Nat} (A0 : Option Addr) (c0 : Nat) (w : World) (hs0 : n ≤ 140737488351232) (hbig : 65536 < n) :
    Calls Try.prog 30 #[.slice A0 n c0] w fun e w' => e = .returned (.tuple #[.slice none 0 0, .int .i64 4]) ∧ Below w.heap.size w w' := by
  have hd : decide (65536 < n) = true := decide_eq_true (by omega)
  go_enter Try.func30, Try.ntmps30
  go_wp2
  go_ret2
  exact ⟨rfl, Below.refl _ _⟩
set_option maxHeartbeats 800000 in
theorem FrameRef_ok {n : Nat} (A0 : Option Addr) (c0 : Nat) (l0 : List Int) (w : World) (hr0 : Rd w A0 n l0) (hb0 : Bytes l0) (hbig : n ≤ 65536) :
    Calls Try.prog 30 #[.slice A0 n c0] w fun e w' => ∃ v0_ : Value, e = .returned (.tuple #[v0_, .int .i64 0]) ∧ Own w w' v0_ (frameOf l0) ∧ Below w.heap.size w w' := by
  have hlen := Kd.C_len hr0
  have hd : decide (65536 < n) = false := decide_eq_false (by omega)
  obtain ⟨lh, hlh⟩ : ∃ lh, lh = frameHead n ++ l0 := ⟨_, rfl⟩
  have hlh2 : lh.length = n + 3 := by rw [hlh, List.length_append, hlen, Nat.add_comm]; rfl
  have hby : Bytes lh := by
    rw [hlh]
    exact Bytes.app (Bytes.con (by omega) (by omega) (Bytes.con (by omega) (by omega) (Bytes.con (by omega) (by omega) Bytes.nil))) hb0
  have hrange := wireSum_range lh
  obtain ⟨sm, hsm⟩ : ∃ sm, sm = wireSum lh := ⟨_, rfl⟩
  rw [← hsm] at hrange
  have HS := Lib.hid hsm
  have HBY := Lib.hid hby
  have HF := Lib.hid (show frameOf l0 = lh ++ wordBytes sm by rw [hsm, hlh, ← hlen]; rfl)
  have HL := Lib.hid hlh
  have HR := Lib.hid hr0
  have HL2 := Lib.hid hlh2
  have hlh0 : 0 < lh.length := by omega
  clear hlh hsm hr0 hlh2 hlen hby hb0
  go_enter Try.func30, Try.ntmps30
  go_wp2_with fail
  refine (high_calls n 3 _ (by omega) (by omega) (by omega)).mono ?_
  rintro e w1 ⟨v1, rfl, ho1, hb1⟩
  have HO1 := Lib.hid ho1
  have HB1 := Lib.hid hb1
  clear ho1 hb1
  go_wp2_with (at_builtin; refine app_row HO1.out (Kd.C_below HR.out HB1.out) HB1.out (by rw [beBytes_length]; omega) rfl rfl rfl rfl ?_)
  intro v2 w2 ho2 hb2 _ _
  have ho2' := ho2.cast (show _ = lh by rw [HL.out, beBytes_three])
  obtain ⟨g2, c2, rfl, hc2, hg2, hg2'⟩ := ho2'.form hlh0
  have HO2 := Lib.hid ho2'
  have HB2 := Lib.hid hb2
  clear ho2 ho2' hb2 HO1
  go_wp2_with fail
  refine (SumRef_calls _ _ lh _ (Kd.R_reads' HO2.out).2.2 HBY.out).mono ?_
  rintro e w3 ⟨rfl, hd3⟩
  rw [← HS.out]
  have HO3 := Lib.hid (HO2.out.below hd3.below)
  have HB3 := Lib.hid (below_step HB2.out hd3.below)
  clear hd3 HO2
  go_wp2_with fail
  refine (high_calls sm 4 _ (by omega) (by omega) (by omega)).mono ?_
  rintro e w4 ⟨v4, rfl, ho4, hb4⟩
  rw [beBytes_four sm hrange.1 hrange.2] at ho4
  obtain ⟨A4, c4, rfl, hc4, hrd4⟩ := ho4.reads
  have HO4 := Lib.hid (HO3.out.below hb4)
  have HB4 := Lib.hid (below_step HB3.out hb4)
  have HR4 := Lib.hid hrd4
  clear ho4 hb4 hrd4 HO3
  go_wp2_with (at_builtin; refine app_row HO4.out HR4.out HB4.out (by have := HL2.out; simp only [wordBytes, List.length_cons, List.length_nil]; omega) rfl rfl rfl rfl ?_)
  intro v5 w5 ho5 hb5 _ _
  go_wp2
  go_ret2
  exact ⟨_, rfl, ho5.cast HF.out.symm, hb5⟩
end Go.Proofs.Ythbdgakeglppbaa
