/- wire.Unspell: what letters spell. -/
import Derived.Test.YthbdgakeglppbaaSpell
namespace Go.Proofs.Ythbdgakeglppbaa
open Go.RowKit Go.Proofs.YthbdgakeglppbaaW.PrintWords
theorem or_shl6 (x d : Int) (x0 : 0 ≤ x) (x1 : x < 36028797018963968) (d0 : 0 ≤ d) (d1 : d < 64) : bits .or .i64 (x * 64) d = x * 64 + d :=
  bits_join .i64 63 (by decide) wraps_i64 6 (x * 64) d (by omega) (by omega) (by omega) (by omega) (by omega) (by omega)
theorem and_mask (j : Nat) (hj : j ≤ 32) (x : Int) (h0 : 0 ≤ x) (h1 : x < 9223372036854775808) (m : Int) (hm : m = 2 ^ j - 1) : bits .and .i64 x m = x % 2 ^ j := by
  obtain ⟨k, rfl⟩ := Int.eq_ofNat_of_zero_le h0
  have h2 : (2 : Nat) ^ j ≤ 2 ^ 32 := Nat.pow_le_pow_right (by decide) hj
  have h3 : 1 ≤ (2 : Nat) ^ j := Nat.one_le_two_pow
  have h := and_i64 k (2 ^ j - 1) (by omega) (by omega)
  rw [Nat.and_two_pow_sub_one_eq_mod] at h
  have e : m = ((2 ^ j - 1 : Nat) : Int) := by rw [hm, Int.ofNat_sub h3]; simp
  rw [e, h]
  simp
theorem str_reads (W : World) (s : ByteArray) (hs : s.size ≤ 9223372036854775807) : Rd (Lib.bytesWorld W 5 s) (some ⟨W.heap.size, 0, none⟩) s.size (bytesOf s) :=
  Kd.C_of_reads (d := (0 : Int)) (h1 := fun _ => rfl) (bytes_reads W 5 s hs)
set_option maxHeartbeats 1600000 in
theorem Unspell_calls (s : ByteArray) (w : World) (hs : s.size ≤ 35184372088832) :
    Calls Try.prog 35 #[.string s] w fun e w' => ∃ v0_ : Value, e = .returned (.tuple #[v0_, .bool (unRun (bytesOf s) 0 0 []).isSome]) ∧ Own w w' v0_ ((unRun (bytesOf s) 0 0 []).getD []) ∧ Below w.heap.size w w' := by
  obtain ⟨R, hR⟩ : ∃ R, R = unRun (bytesOf s) 0 0 [] := ⟨_, rfl⟩
  rw [← hR]
  have HRR := Lib.hid hR
  have HY := Lib.hid (Bytes_bytesOf s)
  have HL := Lib.hid (bytesOf_length s)
  clear hR
  have kb := fun W => print_bytes (P := Try.prog) 9 22 5 Try.underlying9 Try.underlying22 Try.underlying5 s W
  go_enter Try.func35, Try.ntmps35
  go_wp2
  have hr0 := str_reads w s (by omega)
  have hb0 : Below w.heap.size w (Lib.bytesWorld w 5 s) := bytes_below (Below.refl _ _) (Nat.le_refl _) _ _
  obtain ⟨c0, hc0⟩ : ∃ c0, c0 = grownCap w s.size 0 5 := ⟨_, rfl⟩
  rw [← hc0]
  obtain ⟨w0, hw0⟩ : ∃ w0, w0 = Lib.bytesWorld w 5 s := ⟨_, rfl⟩
  rw [← hw0] at hr0 hb0 ⊢
  have HR := Lib.hid hr0
  have HB0 := Lib.hid hb0
  obtain ⟨ad, had⟩ : ∃ ad : Addr, ad = ⟨w.heap.size, 0, none⟩ := ⟨_, rfl⟩
  rw [← had] at HR ⊢
  clear hc0 hr0 hb0 kb had hw0
  go_loopw [4, 5, 6, 13] (fun v hd mn i wr => ∃ (k : Nat) (h : Int) (m : Nat) (O : List Int), k ≤ s.size ∧ i = .int .i64 k ∧ hd = .int .i64 h ∧ mn = .int .i64 m ∧ (m = 0 ∨ m = 2 ∨ m = 4 ∨ m = 6) ∧ ((m = 0 → h = 0) ∧ (m = 2 → h < 4) ∧ (m = 4 → h < 16) ∧ 0 ≤ h ∧ h < 64) ∧ Hid (unRun ((bytesOf s).drop k) h m O = R) ∧ Hid (Own w0 wr v O) ∧ Hid (Below w0.heap.size w0 wr) ∧ O.length ≤ k) (fun _ _ _ i _ => s.size - (intOf i).toNat)
  case atStart => exact ⟨0, 0, 0, [], by omega, rfl, rfl, rfl, by omega, by omega, Lib.hid (by rw [List.drop_zero, HRR.out]), Lib.hid (Own.nil w0 w0), Lib.hid (Below.refl _ _), by simp⟩
  case round =>
    obtain ⟨k, h, m, O, hk, rfl, rfl, rfl, hm, hh, HS, HO, HB, hOl⟩ := hrel
    by_cases hkn : k < s.size
    · have dkn : decide ((k : Int) < s.size) = true := decide_eq_true (by omega)
      obtain ⟨x, hx⟩ : ∃ x, x = rd (bytesOf s) k := ⟨_, rfl⟩
      obtain ⟨x0, x1⟩ := bytes_rd HY.out k (by rw [HL.out]; exact hkn)
      rw [← hx] at x0 x1
      have HDR := Lib.hid (show (bytesOf s).drop k = x :: (bytesOf s).drop (k + 1) by rw [hx]; exact drop_cons _ k (by rw [HL.out]; exact hkn))
      obtain ⟨ad', e, hcell⟩ := Rd.cells (Kd.C_below HR.out HB.out) (by omega)
      cases e
      have hxc := hcell k hkn
      rw [← hx] at hxc
      clear hcell hx
      have hx6 : sixOf x < 64 := by
        by_cases h6 : 0 ≤ sixOf x
        · exact (alpha_sixOf x x0 x1 h6).2
        · omega
      obtain ⟨y, hy⟩ : ∃ y, y = sixOf x := ⟨_, rfl⟩
      rw [← hy] at hx6
      have HYE := Lib.hid hy
      clear hy
      by_cases hy0 : y < 0
      · have dy : decide (y < 0) = true := decide_eq_true hy0
        have HE := Lib.hid (show R = none by rw [← HS.out, HDR.out, unRun, if_pos (by rw [← HYE.out]; exact hy0)])
        go_wp2_with fail
        refine (six_calls x _ x0 x1).mono ?_
        rintro e w1 ⟨rfl, hd1⟩
        have HB1 := Lib.hid (below_step HB.out hd1.below)
        rw [← HYE.out]
        clear hd1
        go_wp2
        go_ret2
        exact ⟨_, by rw [HE.out]; rfl, by rw [HE.out]; exact Own.nil _ _, below_step HB0.out HB1.out⟩
      · have dy : decide (y < 0) = false := decide_eq_false hy0
        have y0 : 0 ≤ y := by omega
        have y1 := hx6
        rcases hm with rfl | rfl | rfl | rfl
        · obtain rfl : h = 0 := hh.1 rfl
          have hor : bits .or .i64 0 y = y := by have := or_shl6 0 y (by omega) (by omega) y0 y1; rwa [Int.zero_mul, Int.zero_add] at this
          have HS2 := Lib.hid (show unRun ((bytesOf s).drop (k + 1)) y 6 O = R by rw [← HS.out, HDR.out, unRun, if_neg (by rw [← HYE.out]; omega), if_neg (by omega), ← HYE.out]; simp)
          go_wp2_with fail
          refine (six_calls x _ x0 x1).mono ?_
          rintro e w1 ⟨rfl, hd1⟩
          have HB1 := Lib.hid (below_step HB.out hd1.below)
          have HO1 := Lib.hid (HO.out.below hd1.below)
          rw [← HYE.out]
          clear hd1
          go_wp2
          go_roundw
          case rel => exact ⟨k + 1, y, 6, O, by omega, by go_num, by go_num, rfl, by omega, by omega, HS2, HO1, HB1, by omega⟩
          case measure => simp [intOf]; omega
        · have hor : bits .or .i64 (h * 64) y = h * 64 + y := or_shl6 h y (by omega) (by omega) y0 y1
          have hwh : IntKind.i64.wrap (h * 64) = h * 64 := wrap_id (by omega) (by omega)
          obtain ⟨Hh, hH⟩ : ∃ Hh, Hh = h * 64 + y := ⟨_, rfl⟩
          rw [← hH] at hor
          have hH0 : 0 ≤ Hh ∧ Hh < 4096 := by omega
          have hand : bits .and .i64 Hh 0 = Hh % 1 := and_mask 0 (by omega) Hh (by omega) (by omega) 0 (by decide)
          have hu8 : IntKind.u8.wrap (Hh) = Hh % 256 := by rw [IntKind.wrap_u8]
          have HS2 := Lib.hid (show unRun ((bytesOf s).drop (k + 1)) (Hh % 1) 0 (O ++ [Hh % 256]) = R by rw [← HS.out, HDR.out, unRun, if_neg (by rw [← HYE.out]; omega), if_pos (by omega), ← HYE.out, ← hH]; simp)
          clear hH
          go_wp2_with fail
          refine (six_calls x _ x0 x1).mono ?_
          rintro e w1 ⟨rfl, hd1⟩
          have HB1 := Lib.hid (below_step HB.out hd1.below)
          have HO1 := Lib.hid (HO.out.below hd1.below)
          rw [← HYE.out]
          clear hd1
          go_wp2_with (at_builtin; refine app_one HO1.out HB1.out (by omega) rfl rfl rfl rfl ?_)
          intro v3 w3 ho3 hb3 _ _
          have HO3 := Lib.hid (ho3.cast (show _ = O ++ [Hh % 256] from by first | rfl | rw [hu8]))
          have HB3 := Lib.hid hb3
          clear ho3 hb3
          go_wp2
          go_roundw
          case rel => exact ⟨k + 1, Hh % 1, 0, O ++ [Hh % 256], by omega, by go_num, by first | rfl | go_num, rfl, by omega, by omega, HS2, HO3, HB3, by simp; omega⟩
          case measure => simp [intOf]; omega
        · have hor : bits .or .i64 (h * 64) y = h * 64 + y := or_shl6 h y (by omega) (by omega) y0 y1
          have hwh : IntKind.i64.wrap (h * 64) = h * 64 := wrap_id (by omega) (by omega)
          obtain ⟨Hh, hH⟩ : ∃ Hh, Hh = h * 64 + y := ⟨_, rfl⟩
          rw [← hH] at hor
          have hH0 : 0 ≤ Hh ∧ Hh < 4096 := by omega
          have hand : bits .and .i64 Hh 3 = Hh % 4 := and_mask 2 (by omega) Hh (by omega) (by omega) 3 (by decide)
          have hu8 : IntKind.u8.wrap (Hh / 4) = Hh / 4 % 256 := by rw [IntKind.wrap_u8]
          have HS2 := Lib.hid (show unRun ((bytesOf s).drop (k + 1)) (Hh % 4) 2 (O ++ [Hh / 4 % 256]) = R by rw [← HS.out, HDR.out, unRun, if_neg (by rw [← HYE.out]; omega), if_pos (by omega), ← HYE.out, ← hH]; simp)
          clear hH
          go_wp2_with fail
          refine (six_calls x _ x0 x1).mono ?_
          rintro e w1 ⟨rfl, hd1⟩
          have HB1 := Lib.hid (below_step HB.out hd1.below)
          have HO1 := Lib.hid (HO.out.below hd1.below)
          rw [← HYE.out]
          clear hd1
          go_wp2_with (at_builtin; refine app_one HO1.out HB1.out (by omega) rfl rfl rfl rfl ?_)
          intro v3 w3 ho3 hb3 _ _
          have HO3 := Lib.hid (ho3.cast (show _ = O ++ [Hh / 4 % 256] from by first | rfl | rw [hu8]))
          have HB3 := Lib.hid hb3
          clear ho3 hb3
          go_wp2
          go_roundw
          case rel => exact ⟨k + 1, Hh % 4, 2, O ++ [Hh / 4 % 256], by omega, by go_num, by first | rfl | go_num, rfl, by omega, by omega, HS2, HO3, HB3, by simp; omega⟩
          case measure => simp [intOf]; omega
        · have hor : bits .or .i64 (h * 64) y = h * 64 + y := or_shl6 h y (by omega) (by omega) y0 y1
          have hwh : IntKind.i64.wrap (h * 64) = h * 64 := wrap_id (by omega) (by omega)
          obtain ⟨Hh, hH⟩ : ∃ Hh, Hh = h * 64 + y := ⟨_, rfl⟩
          rw [← hH] at hor
          have hH0 : 0 ≤ Hh ∧ Hh < 4096 := by omega
          have hand : bits .and .i64 Hh 15 = Hh % 16 := and_mask 4 (by omega) Hh (by omega) (by omega) 15 (by decide)
          have hu8 : IntKind.u8.wrap (Hh / 16) = Hh / 16 % 256 := by rw [IntKind.wrap_u8]
          have HS2 := Lib.hid (show unRun ((bytesOf s).drop (k + 1)) (Hh % 16) 4 (O ++ [Hh / 16 % 256]) = R by rw [← HS.out, HDR.out, unRun, if_neg (by rw [← HYE.out]; omega), if_pos (by omega), ← HYE.out, ← hH]; simp)
          clear hH
          go_wp2_with fail
          refine (six_calls x _ x0 x1).mono ?_
          rintro e w1 ⟨rfl, hd1⟩
          have HB1 := Lib.hid (below_step HB.out hd1.below)
          have HO1 := Lib.hid (HO.out.below hd1.below)
          rw [← HYE.out]
          clear hd1
          go_wp2_with (at_builtin; refine app_one HO1.out HB1.out (by omega) rfl rfl rfl rfl ?_)
          intro v3 w3 ho3 hb3 _ _
          have HO3 := Lib.hid (ho3.cast (show _ = O ++ [Hh / 16 % 256] from by first | rfl | rw [hu8]))
          have HB3 := Lib.hid hb3
          clear ho3 hb3
          go_wp2
          go_roundw
          case rel => exact ⟨k + 1, Hh % 16, 4, O ++ [Hh / 16 % 256], by omega, by go_num, by first | rfl | go_num, rfl, by omega, by omega, HS2, HO3, HB3, by simp; omega⟩
          case measure => simp [intOf]; omega
    · obtain rfl : k = s.size := by omega
      have dkn : decide ((s.size : Int) < s.size) = false := decide_eq_false (by omega)
      have HD := Lib.hid (show (bytesOf s).drop s.size = [] from List.drop_of_length_le (by rw [HL.out]; exact Nat.le_refl _))
      by_cases hne : m = 6 ∨ h ≠ 0
      · have HE := Lib.hid (show R = none by rw [← HS.out, HD.out, unRun, if_pos hne])
        by_cases h6 : m = 6
        case' pos =>
          have d6 : ((m : Int) == 6) = true := beq_iff_eq.2 (by omega)
        case' neg =>
          have d6 : ((m : Int) == 6) = false := beq_eq_false_iff_ne.2 (by omega)
          have d7 : (h == 0) = false := beq_eq_false_iff_ne.2 (by omega)
          have d8 : (h != 0) = true := by rw [bne, d7]; rfl
        all_goals
          clear hm hh hne h6
          go_wp2
          go_ret2
          exact ⟨_, by rw [HE.out]; rfl, by rw [HE.out]; exact Own.nil _ _, below_step HB0.out HB.out⟩
      · have HE := Lib.hid (show R = some O by rw [← HS.out, HD.out, unRun, if_neg hne])
        have d6 : ((m : Int) == 6) = false := beq_eq_false_iff_ne.2 (by omega)
        obtain rfl : h = 0 := by omega
        clear hm hh hne
        go_wp2
        go_ret2
        exact ⟨_, by rw [HE.out]; rfl, by rw [HE.out]; exact HO.out.lower HB0.out.size, below_step HB0.out HB.out⟩
end Go.Proofs.Ythbdgakeglppbaa
