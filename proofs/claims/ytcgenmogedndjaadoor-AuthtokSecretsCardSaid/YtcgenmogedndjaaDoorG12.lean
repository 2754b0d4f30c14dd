/- The texts Spell, Unspell, AuthSigned in one. -/
import Derived.Test.YtcgenmogedndjaaDoorG01
import Derived.Test.YtcgenmogedndjaaDoorG03
import Derived.Test.YtcgenmogedndjaaDoorG04
import Derived.Test.YtcgenmogedndjaaDoorG10
import Derived.Test.YtcgenmogedndjaaDoorG11
import Derived.Laws.MakeOwn
namespace Go.Proofs.YtcgenmogedndjaaDoor
open Go.RowKit Go.Proofs.YtcgenmogedndjaaDoorW.PrintWords
theorem own_made {w0 W : World} (h : w0.heap.size ≤ W.heap.size) (c : Nat) (hc : c ≤ maxLen) : Own w0 (W.alloc (.cells (madeCells #[.int .u8 0] c) 5)) (.slice (some ⟨W.heap.size, 0, none⟩) 0 c) [] :=
  ⟨fun _ _ => trivial, [], World.ownsRow_made W _ c h hc (by rw [size_madeCells]; exact (Nat.mul_one c).symm), Reps.none _ _⟩
theorem and_63 (x : Int) (h0 : 0 ≤ x) (h1 : x < 9223372036854775808) : bits .and .i64 x 63 = x % 64 := by
  obtain ⟨k, rfl⟩ := Int.eq_ofNat_of_zero_le h0
  have h := and_i64 k 63 (by omega) (by omega)
  have e : k &&& 63 = k % 64 := Nat.and_two_pow_sub_one_eq_mod k 6
  rw [e] at h
  exact h.trans (by omega)
theorem or_shl8 (x d : Int) (x0 : 0 ≤ x) (x1 : x < 36028797018963968) (d0 : 0 ≤ d) (d1 : d < 256) : bits .or .i64 (x * 256) d = x * 256 + d :=
  bits_join .i64 63 (by decide) wraps_i64 8 (x * 256) d (by omega) (by omega) (by omega) (by omega) (by omega) (by omega)
set_option maxHeartbeats 1600000 in
theorem Spell_calls {n : Nat} (A0 : Option Addr) (c0 : Nat) (l0 : List Int) (w : World) (hr0 : Rd w A0 n l0) (hb0 : Bytes l0) (hs : n ≤ 35184372088832) :
    Calls Tryd.prog 46 #[.slice A0 n c0] w fun e w' => e = .returned (.string (strOfNums (sp3 l0))) ∧ Below w.heap.size w w' := by
  have HR := Lib.hid hr0
  have HY := Lib.hid hb0
  have HL := Lib.hid (Kd.C_len hr0)
  clear hr0 hb0
  obtain ⟨i0, hi, hzz⟩ := Option.map_eq_some_iff.1 (show (Tryd.prog.info? 5).map (fun i => (i.zero, i.size, i.bytes)) = some (some (.int .u8 0), 1, 1) from info_u8)
  simp only [Prod.mk.injEq] at hzz
  obtain ⟨hz0, hz1, hz2⟩ := hzz
  have hmk := run_make (P := Tryd.prog) w 34 5 i0 (.int .u8 0) Tryd.underlying34 hi hz0 .i64 .i64 0 ((n : Int) + (n : Int) / 2 + 2) (by omega) (by omega) (by rw [hz2]; omega) (by omega)
  rw [hz1, Nat.mul_one, show ((n : Int) + (n : Int) / 2 + 2).toNat = n + n / 2 + 2 by omega, Int.toNat_zero] at hmk
  have hOm := own_made (w0 := w) (W := w) (Nat.le_refl _) (n + n / 2 + 2) (by simp [maxLen]; omega)
  have hBm : Below w.heap.size w (w.alloc (.cells (madeCells #[.int .u8 0] (n + n / 2 + 2)) 5)) := below_alloc (Below.refl _ _) _
  have HOm := Lib.hid hOm
  have HBm := Lib.hid hBm
  clear hi hz0 hz1 hz2 hOm hBm
  go_enter Tryd.func46, Tryd.ntmps46
  go_wp2
  go_loopw [3, 4, 5, 18] (fun v hd mn i wr => ∃ (k : Nat) (h : Int) (m : Nat) (O : List Int), k ≤ n ∧ i = .int .i64 k ∧ hd = .int .i64 h ∧ mn = .int .i64 m ∧ (m = 0 ∨ m = 2 ∨ m = 4) ∧ 0 ≤ h ∧ h < 64 ∧ Hid (spRun (l0.drop k) h m O = sp3 l0) ∧ Hid (Own w wr v O) ∧ Hid (Below w.heap.size w wr) ∧ O.length ≤ 2 * k) (fun _ _ _ i _ => n - (intOf i).toNat)
  case atStart => exact ⟨0, 0, 0, [], by omega, rfl, rfl, rfl, by omega, by omega, by omega, Lib.hid (by rw [List.drop_zero, spRun_sp3 _ _ _ HY.out]; rfl), HOm, HBm, by simp⟩
  case round =>
    obtain ⟨k, h, m, O, hk, rfl, rfl, rfl, hm, h0, h1, HS, HO, HB, hOl⟩ := hrel
    by_cases hkn : k < n
    · have dkn : decide ((k : Int) < n) = true := decide_eq_true (by omega)
      obtain ⟨x, hx⟩ : ∃ x, x = rd l0 k := ⟨_, rfl⟩
      obtain ⟨x0, x1⟩ := bytes_rd HY.out k (by rw [HL.out]; exact hkn)
      rw [← hx] at x0 x1
      have HDR := Lib.hid (show l0.drop k = x :: l0.drop (k + 1) by rw [hx]; exact drop_cons l0 k (by rw [HL.out]; exact hkn))
      obtain ⟨ad, rfl, hcell⟩ := Rd.cells (Kd.C_below HR.out HB.out) (by omega)
      have hxc := hcell k hkn
      rw [← hx] at hxc
      clear hcell
      obtain ⟨Hh, hH⟩ : ∃ Hh, Hh = h * 256 + x := ⟨_, rfl⟩
      have hH0 : 0 ≤ Hh ∧ Hh < 16384 := by omega
      have hor : bits .or .i64 (h * 256) x = Hh := by rw [or_shl8 h x h0 (by omega) x0 x1, hH]
      have hwh : IntKind.i64.wrap (h * 256) = h * 256 := wrap_id (by omega) (by omega)
      have hwx : IntKind.i64.wrap x = x := wrap_id (by omega) (by omega)
      have hwm : IntKind.i64.wrap ((m : Int) + 8) = ((m + 8 : Nat) : Int) := by rw [wrap_id (by omega) (by omega)]; omega
      have HHH := Lib.hid hH
      obtain ⟨D, hD⟩ : ∃ D, D = drain Hh (m + 8) O := ⟨_, rfl⟩
      have HDD := Lib.hid hD
      clear hx hH hD
      go_wp2
      go_loopw [3, 5] (fun v mn wr => ∃ (M : Nat) (Oi : List Int), mn = .int .i64 M ∧ Hid (Own w wr v Oi) ∧ Hid (Below w.heap.size w wr) ∧ Hid (drain Hh M Oi = D) ∧ (M = 0 ∨ M = 2 ∨ M = 4 ∨ M = 6 ∨ M = 8 ∨ M = 10 ∨ M = 12) ∧ Oi.length * 6 + M ≤ O.length * 6 + 12) (fun _ mn _ => (intOf mn).toNat)
      case atStart => exact ⟨m + 8, O, rfl, HO, HB, Lib.hid HDD.out.symm, by omega, by omega⟩
      case round =>
        obtain ⟨M, Oi, rfl, HOi, HBi, HDi, hM, hOl2⟩ := hrel
        rcases hM with rfl | rfl | rfl | rfl | rfl | rfl | rfl
        · have HD2 := Lib.hid (show D = (0, Oi) from HDi.out.symm)
          have hA : bits .and .i64 Hh 63 = Hh % 64 := and_63 _ (by omega) (by omega)
          have HS2 := Lib.hid (show spRun (l0.drop (k + 1)) (Hh % 64) 0 Oi = sp3 l0 by rw [← HS.out, HDR.out, spRun, ← HHH.out, ← HDD.out, HD2.out])
          go_wp2
          go_roundw
          case rel => exact ⟨k + 1, Hh % 64, 0, Oi, by omega, by go_num, by go_num, by go_num, by omega, by omega, by omega, HS2, HOi, HBi, by omega⟩
          case measure => simp [intOf]; omega
        · have HD2 := Lib.hid (show D = (2, Oi) from HDi.out.symm)
          have hA : bits .and .i64 Hh 63 = Hh % 64 := and_63 _ (by omega) (by omega)
          have HS2 := Lib.hid (show spRun (l0.drop (k + 1)) (Hh % 64) 2 Oi = sp3 l0 by rw [← HS.out, HDR.out, spRun, ← HHH.out, ← HDD.out, HD2.out])
          go_wp2
          go_roundw
          case rel => exact ⟨k + 1, Hh % 64, 2, Oi, by omega, by go_num, by go_num, by go_num, by omega, by omega, by omega, HS2, HOi, HBi, by omega⟩
          case measure => simp [intOf]; omega
        · have HD2 := Lib.hid (show D = (4, Oi) from HDi.out.symm)
          have hA : bits .and .i64 Hh 63 = Hh % 64 := and_63 _ (by omega) (by omega)
          have HS2 := Lib.hid (show spRun (l0.drop (k + 1)) (Hh % 64) 4 Oi = sp3 l0 by rw [← HS.out, HDR.out, spRun, ← HHH.out, ← HDD.out, HD2.out])
          go_wp2
          go_roundw
          case rel => exact ⟨k + 1, Hh % 64, 4, Oi, by omega, by go_num, by go_num, by go_num, by omega, by omega, by omega, HS2, HOi, HBi, by omega⟩
          case measure => simp [intOf]; omega
        · obtain ⟨N, hN⟩ : ∃ N, N = Hh % 64 := ⟨_, rfl⟩
          have hA : bits .and .i64 (Hh) 63 = N := by rw [and_63 _ (by omega) (by omega), hN]
          have N0 : 0 ≤ N := by omega
          have N1 : N < 64 := by omega
          have hbn : N.toNat < alphaS.size := by show N.toNat < 64; omega
          have HA := Lib.hid (bt_at alphaS N hbn)
          have HD2 := Lib.hid (show drain Hh 0 (Oi ++ [alpha N]) = D by rw [← HDi.out, hN]; simp [drain])
          clear hN
          go_wp2_with (at_builtin; refine app_one HOi.out HBi.out (by omega) rfl rfl rfl rfl ?_)
          intro v3 w3 ho3 hb3 _ _
          have HO3 := Lib.hid (ho3.cast (show _ = Oi ++ [alpha N] from congrArg (fun x => Oi ++ [x]) HA.out))
          have HB3 := Lib.hid hb3
          clear ho3 hb3
          go_wp2
          go_roundw
          case rel => exact ⟨0, _, by go_num, HO3, HB3, HD2, by omega, by simp; omega⟩
          case measure => simp [intOf]
        · obtain ⟨N, hN⟩ : ∃ N, N = Hh / 4 % 64 := ⟨_, rfl⟩
          have hA : bits .and .i64 (Hh / 4) 63 = N := by rw [and_63 _ (by omega) (by omega), hN]
          have N0 : 0 ≤ N := by omega
          have N1 : N < 64 := by omega
          have hbn : N.toNat < alphaS.size := by show N.toNat < 64; omega
          have HA := Lib.hid (bt_at alphaS N hbn)
          have HD2 := Lib.hid (show drain Hh 2 (Oi ++ [alpha N]) = D by rw [← HDi.out, hN]; simp [drain])
          clear hN
          go_wp2_with (at_builtin; refine app_one HOi.out HBi.out (by omega) rfl rfl rfl rfl ?_)
          intro v3 w3 ho3 hb3 _ _
          have HO3 := Lib.hid (ho3.cast (show _ = Oi ++ [alpha N] from congrArg (fun x => Oi ++ [x]) HA.out))
          have HB3 := Lib.hid hb3
          clear ho3 hb3
          go_wp2
          go_roundw
          case rel => exact ⟨2, _, by go_num, HO3, HB3, HD2, by omega, by simp; omega⟩
          case measure => simp [intOf]
        · obtain ⟨N, hN⟩ : ∃ N, N = Hh / 16 % 64 := ⟨_, rfl⟩
          have hA : bits .and .i64 (Hh / 16) 63 = N := by rw [and_63 _ (by omega) (by omega), hN]
          have N0 : 0 ≤ N := by omega
          have N1 : N < 64 := by omega
          have hbn : N.toNat < alphaS.size := by show N.toNat < 64; omega
          have HA := Lib.hid (bt_at alphaS N hbn)
          have HD2 := Lib.hid (show drain Hh 4 (Oi ++ [alpha N]) = D by rw [← HDi.out, hN]; simp [drain])
          clear hN
          go_wp2_with (at_builtin; refine app_one HOi.out HBi.out (by omega) rfl rfl rfl rfl ?_)
          intro v3 w3 ho3 hb3 _ _
          have HO3 := Lib.hid (ho3.cast (show _ = Oi ++ [alpha N] from congrArg (fun x => Oi ++ [x]) HA.out))
          have HB3 := Lib.hid hb3
          clear ho3 hb3
          go_wp2
          go_roundw
          case rel => exact ⟨4, _, by go_num, HO3, HB3, HD2, by omega, by simp; omega⟩
          case measure => simp [intOf]
        · obtain ⟨N, hN⟩ : ∃ N, N = Hh / 64 % 64 := ⟨_, rfl⟩
          have hA : bits .and .i64 (Hh / 64) 63 = N := by rw [and_63 _ (by omega) (by omega), hN]
          have N0 : 0 ≤ N := by omega
          have N1 : N < 64 := by omega
          have hbn : N.toNat < alphaS.size := by show N.toNat < 64; omega
          have HA := Lib.hid (bt_at alphaS N hbn)
          have HD2 := Lib.hid (show drain Hh 6 (Oi ++ [alpha N]) = D by rw [← HDi.out, hN]; simp [drain])
          clear hN
          go_wp2_with (at_builtin; refine app_one HOi.out HBi.out (by omega) rfl rfl rfl rfl ?_)
          intro v3 w3 ho3 hb3 _ _
          have HO3 := Lib.hid (ho3.cast (show _ = Oi ++ [alpha N] from congrArg (fun x => Oi ++ [x]) HA.out))
          have HB3 := Lib.hid hb3
          clear ho3 hb3
          go_wp2
          go_roundw
          case rel => exact ⟨6, _, by go_num, HO3, HB3, HD2, by omega, by simp; omega⟩
          case measure => simp [intOf]
    · obtain rfl : k = n := by omega
      have dkn : decide ((k : Int) < k) = false := decide_eq_false (by omega)
      have HD := Lib.hid (show l0.drop k = [] from List.drop_of_length_le (by rw [HL.out]; exact Nat.le_refl _))
      rcases hm with rfl | rfl | rfl
      · have HE := Lib.hid (show O = sp3 l0 by rw [← HS.out, HD.out]; rfl)
        obtain ⟨A4, c4, rfl, hc4, hrd4⟩ := HO.out.reads
        have ks := fun a => Kd.C_string (P := Tryd.prog) (src := 34) (dst := 9) (e := 5) Tryd.underlying34 Tryd.underlying5 Tryd.underlying9 (c := c4) (Kd.C_drewN hrd4 a)
        have ks0 := Kd.C_string (P := Tryd.prog) (src := 34) (dst := 9) (e := 5) Tryd.underlying34 Tryd.underlying5 Tryd.underlying9 (c := c4) hrd4
        clear hrd4
        go_wp2
        go_ret
        exact ⟨congrArg (fun x => Ending.returned (Value.string (strOfNums x))) HE.out, HB.out⟩
      · obtain ⟨N, hN⟩ : ∃ N, N = h * 16 % 64 := ⟨_, rfl⟩
        have hA : bits .and .i64 (h * 16) 63 = N := by rw [and_63 _ (by omega) (by omega), hN]
        have hwq : IntKind.i64.wrap (h * 16) = h * 16 := wrap_id (by omega) (by omega)
        have N0 : 0 ≤ N := by omega
        have N1 : N < 64 := by omega
        have hbn : N.toNat < alphaS.size := by show N.toNat < 64; omega
        have HA := Lib.hid (bt_at alphaS N hbn)
        have HE := Lib.hid (show O ++ [alpha N] = sp3 l0 by rw [← HS.out, HD.out, hN]; rfl)
        clear hN
        go_wp2_with (at_builtin; refine app_one HO.out HB.out (by omega) rfl rfl rfl rfl ?_)
        intro v3 w3 ho3 hb3 _ _
        replace ho3 := ho3.cast (show _ = sp3 l0 from (congrArg (fun x => O ++ [x]) HA.out).trans HE.out)
        obtain ⟨A4, c4, rfl, hc4, hrd4⟩ := ho3.reads
        have HB3 := Lib.hid hb3
        have ks := fun a => Kd.C_string (P := Tryd.prog) (src := 34) (dst := 9) (e := 5) Tryd.underlying34 Tryd.underlying5 Tryd.underlying9 (c := c4) (Kd.C_drewN hrd4 a)
        have ks0 := Kd.C_string (P := Tryd.prog) (src := 34) (dst := 9) (e := 5) Tryd.underlying34 Tryd.underlying5 Tryd.underlying9 (c := c4) hrd4
        clear hrd4 ho3 hb3
        go_wp2
        go_ret
        exact ⟨rfl, HB3.out⟩
      · obtain ⟨N, hN⟩ : ∃ N, N = h * 4 % 64 := ⟨_, rfl⟩
        have hA : bits .and .i64 (h * 4) 63 = N := by rw [and_63 _ (by omega) (by omega), hN]
        have hwq : IntKind.i64.wrap (h * 4) = h * 4 := wrap_id (by omega) (by omega)
        have N0 : 0 ≤ N := by omega
        have N1 : N < 64 := by omega
        have hbn : N.toNat < alphaS.size := by show N.toNat < 64; omega
        have HA := Lib.hid (bt_at alphaS N hbn)
        have HE := Lib.hid (show O ++ [alpha N] = sp3 l0 by rw [← HS.out, HD.out, hN]; rfl)
        clear hN
        go_wp2_with (at_builtin; refine app_one HO.out HB.out (by omega) rfl rfl rfl rfl ?_)
        intro v3 w3 ho3 hb3 _ _
        replace ho3 := ho3.cast (show _ = sp3 l0 from (congrArg (fun x => O ++ [x]) HA.out).trans HE.out)
        obtain ⟨A4, c4, rfl, hc4, hrd4⟩ := ho3.reads
        have HB3 := Lib.hid hb3
        have ks := fun a => Kd.C_string (P := Tryd.prog) (src := 34) (dst := 9) (e := 5) Tryd.underlying34 Tryd.underlying5 Tryd.underlying9 (c := c4) (Kd.C_drewN hrd4 a)
        have ks0 := Kd.C_string (P := Tryd.prog) (src := 34) (dst := 9) (e := 5) Tryd.underlying34 Tryd.underlying5 Tryd.underlying9 (c := c4) hrd4
        clear hrd4 ho3 hb3
        go_wp2
        go_ret
        exact ⟨rfl, HB3.out⟩
end Go.Proofs.YtcgenmogedndjaaDoor
namespace Go.Proofs.YtcgenmogedndjaaDoor
open Go.RowKit Go.Proofs.YtcgenmogedndjaaDoorW.PrintWords
theorem or_shl6 (x d : Int) (x0 : 0 ≤ x) (x1 : x < 36028797018963968) (d0 : 0 ≤ d) (d1 : d < 64) : bits .or .i64 (x * 64) d = x * 64 + d :=
  bits_join .i64 63 (by decide) wraps_i64 6 (x * 64) d (by omega) (by omega) (by omega) (by omega) (by omega) (by omega)
theorem and_mask (j : Nat) (hj : j ≤ 32) (x : Int) (h0 : 0 ≤ x) (h1 : x < 9223372036854775808) (m : Int) (hm : m = 2 ^ j - 1) : bits .and .i64 x m = x % 2 ^ j := by
  obtain ⟨k, rfl⟩ := Int.eq_ofNat_of_zero_le h0
  have h2 : (2 : Nat) ^ j ≤ 2 ^ 32 := Nat.pow_le_pow_right (by decide) hj
  have h3 : 1 ≤ (2 : Nat) ^ j := Nat.one_le_two_pow
  have h := and_i64 k (2 ^ j - 1) (by omega) (by omega)
  rw [Nat.and_two_pow_sub_one_eq_mod] at h
  have e : m = ((2 ^ j - 1 : Nat) : Int) := by rw [hm, Int.ofNat_sub h3]; simp
  rw [e, h]
  simp
theorem str_reads (W : World) (s : ByteArray) (hs : s.size ≤ 9223372036854775807) : Rd (Lib.bytesWorld W 5 s) (some ⟨W.heap.size, 0, none⟩) s.size (bytesOf s) :=
  Kd.C_of_reads (d := (0 : Int)) (h1 := fun _ => rfl) (bytes_reads W 5 s hs)
set_option maxHeartbeats 1600000 in
theorem Unspell_calls (s : ByteArray) (w : World) (hs : s.size ≤ 35184372088832) :
    Calls Tryd.prog 30 #[.string s] w fun e w' => ∃ v0_ : Value, e = .returned (.tuple #[v0_, .bool (unRun (bytesOf s) 0 0 []).isSome]) ∧ Own w w' v0_ ((unRun (bytesOf s) 0 0 []).getD []) ∧ Below w.heap.size w w' := by
  obtain ⟨R, hR⟩ : ∃ R, R = unRun (bytesOf s) 0 0 [] := ⟨_, rfl⟩
  rw [← hR]
  have HRR := Lib.hid hR
  have HY := Lib.hid (Bytes_bytesOf s)
  have HL := Lib.hid (bytesOf_length s)
  clear hR
  have kb := fun W => print_bytes (P := Tryd.prog) 9 34 5 Tryd.underlying9 Tryd.underlying34 Tryd.underlying5 s W
  go_enter Tryd.func30, Tryd.ntmps30
  go_wp2
  have hr0 := str_reads w s (by omega)
  have hb0 : Below w.heap.size w (Lib.bytesWorld w 5 s) := bytes_below (Below.refl _ _) (Nat.le_refl _) _ _
  obtain ⟨c0, hc0⟩ : ∃ c0, c0 = grownCap w s.size 0 5 := ⟨_, rfl⟩
  rw [← hc0]
  obtain ⟨w0, hw0⟩ : ∃ w0, w0 = Lib.bytesWorld w 5 s := ⟨_, rfl⟩
  rw [← hw0] at hr0 hb0 ⊢
  have HR := Lib.hid hr0
  have HB0 := Lib.hid hb0
  obtain ⟨ad, had⟩ : ∃ ad : Addr, ad = ⟨w.heap.size, 0, none⟩ := ⟨_, rfl⟩
  rw [← had] at HR ⊢
  clear hc0 hr0 hb0 kb had hw0
  go_loopw [4, 5, 6, 13] (fun v hd mn i wr => ∃ (k : Nat) (h : Int) (m : Nat) (O : List Int), k ≤ s.size ∧ i = .int .i64 k ∧ hd = .int .i64 h ∧ mn = .int .i64 m ∧ (m = 0 ∨ m = 2 ∨ m = 4 ∨ m = 6) ∧ ((m = 0 → h = 0) ∧ (m = 2 → h < 4) ∧ (m = 4 → h < 16) ∧ 0 ≤ h ∧ h < 64) ∧ Hid (unRun ((bytesOf s).drop k) h m O = R) ∧ Hid (Own w0 wr v O) ∧ Hid (Below w0.heap.size w0 wr) ∧ O.length ≤ k) (fun _ _ _ i _ => s.size - (intOf i).toNat)
  case atStart => exact ⟨0, 0, 0, [], by omega, rfl, rfl, rfl, by omega, by omega, Lib.hid (by rw [List.drop_zero, HRR.out]), Lib.hid (Own.nil w0 w0), Lib.hid (Below.refl _ _), by simp⟩
  case round =>
    obtain ⟨k, h, m, O, hk, rfl, rfl, rfl, hm, hh, HS, HO, HB, hOl⟩ := hrel
    by_cases hkn : k < s.size
    · have dkn : decide ((k : Int) < s.size) = true := decide_eq_true (by omega)
      obtain ⟨x, hx⟩ : ∃ x, x = rd (bytesOf s) k := ⟨_, rfl⟩
      obtain ⟨x0, x1⟩ := bytes_rd HY.out k (by rw [HL.out]; exact hkn)
      rw [← hx] at x0 x1
      have HDR := Lib.hid (show (bytesOf s).drop k = x :: (bytesOf s).drop (k + 1) by rw [hx]; exact drop_cons _ k (by rw [HL.out]; exact hkn))
      obtain ⟨ad', e, hcell⟩ := Rd.cells (Kd.C_below HR.out HB.out) (by omega)
      cases e
      have hxc := hcell k hkn
      rw [← hx] at hxc
      clear hcell hx
      have hx6 : sixOf x < 64 := by
        by_cases h6 : 0 ≤ sixOf x
        · exact (alpha_sixOf x x0 x1 h6).2
        · omega
      obtain ⟨y, hy⟩ : ∃ y, y = sixOf x := ⟨_, rfl⟩
      rw [← hy] at hx6
      have HYE := Lib.hid hy
      clear hy
      by_cases hy0 : y < 0
      · have dy : decide (y < 0) = true := decide_eq_true hy0
        have HE := Lib.hid (show R = none by rw [← HS.out, HDR.out, unRun, if_pos (by rw [← HYE.out]; exact hy0)])
        go_wp2_with fail
        refine (six_calls x _ x0 x1).mono ?_
        rintro e w1 ⟨rfl, hd1⟩
        have HB1 := Lib.hid (below_step HB.out hd1.below)
        rw [← HYE.out]
        clear hd1
        go_wp2
        go_ret2
        exact ⟨_, by rw [HE.out]; rfl, by rw [HE.out]; exact Own.nil _ _, below_step HB0.out HB1.out⟩
      · have dy : decide (y < 0) = false := decide_eq_false hy0
        have y0 : 0 ≤ y := by omega
        have y1 := hx6
        rcases hm with rfl | rfl | rfl | rfl
        · obtain rfl : h = 0 := hh.1 rfl
          have hor : bits .or .i64 0 y = y := by have := or_shl6 0 y (by omega) (by omega) y0 y1; rwa [Int.zero_mul, Int.zero_add] at this
          have HS2 := Lib.hid (show unRun ((bytesOf s).drop (k + 1)) y 6 O = R by rw [← HS.out, HDR.out, unRun, if_neg (by rw [← HYE.out]; omega), if_neg (by omega), ← HYE.out]; simp)
          go_wp2_with fail
          refine (six_calls x _ x0 x1).mono ?_
          rintro e w1 ⟨rfl, hd1⟩
          have HB1 := Lib.hid (below_step HB.out hd1.below)
          have HO1 := Lib.hid (HO.out.below hd1.below)
          rw [← HYE.out]
          clear hd1
          go_wp2
          go_roundw
          case rel => exact ⟨k + 1, y, 6, O, by omega, by go_num, by go_num, rfl, by omega, by omega, HS2, HO1, HB1, by omega⟩
          case measure => simp [intOf]; omega
        · have hor : bits .or .i64 (h * 64) y = h * 64 + y := or_shl6 h y (by omega) (by omega) y0 y1
          have hwh : IntKind.i64.wrap (h * 64) = h * 64 := wrap_id (by omega) (by omega)
          obtain ⟨Hh, hH⟩ : ∃ Hh, Hh = h * 64 + y := ⟨_, rfl⟩
          rw [← hH] at hor
          have hH0 : 0 ≤ Hh ∧ Hh < 4096 := by omega
          have hand : bits .and .i64 Hh 0 = Hh % 1 := and_mask 0 (by omega) Hh (by omega) (by omega) 0 (by decide)
          have hu8 : IntKind.u8.wrap (Hh) = Hh % 256 := by rw [IntKind.wrap_u8]
          have HS2 := Lib.hid (show unRun ((bytesOf s).drop (k + 1)) (Hh % 1) 0 (O ++ [Hh % 256]) = R by rw [← HS.out, HDR.out, unRun, if_neg (by rw [← HYE.out]; omega), if_pos (by omega), ← HYE.out, ← hH]; simp)
          clear hH
          go_wp2_with fail
          refine (six_calls x _ x0 x1).mono ?_
          rintro e w1 ⟨rfl, hd1⟩
          have HB1 := Lib.hid (below_step HB.out hd1.below)
          have HO1 := Lib.hid (HO.out.below hd1.below)
          rw [← HYE.out]
          clear hd1
          go_wp2_with (at_builtin; refine app_one HO1.out HB1.out (by omega) rfl rfl rfl rfl ?_)
          intro v3 w3 ho3 hb3 _ _
          have HO3 := Lib.hid (ho3.cast (show _ = O ++ [Hh % 256] from by first | rfl | rw [hu8]))
          have HB3 := Lib.hid hb3
          clear ho3 hb3
          go_wp2
          go_roundw
          case rel => exact ⟨k + 1, Hh % 1, 0, O ++ [Hh % 256], by omega, by go_num, by first | rfl | go_num, rfl, by omega, by omega, HS2, HO3, HB3, by simp; omega⟩
          case measure => simp [intOf]; omega
        · have hor : bits .or .i64 (h * 64) y = h * 64 + y := or_shl6 h y (by omega) (by omega) y0 y1
          have hwh : IntKind.i64.wrap (h * 64) = h * 64 := wrap_id (by omega) (by omega)
          obtain ⟨Hh, hH⟩ : ∃ Hh, Hh = h * 64 + y := ⟨_, rfl⟩
          rw [← hH] at hor
          have hH0 : 0 ≤ Hh ∧ Hh < 4096 := by omega
          have hand : bits .and .i64 Hh 3 = Hh % 4 := and_mask 2 (by omega) Hh (by omega) (by omega) 3 (by decide)
          have hu8 : IntKind.u8.wrap (Hh / 4) = Hh / 4 % 256 := by rw [IntKind.wrap_u8]
          have HS2 := Lib.hid (show unRun ((bytesOf s).drop (k + 1)) (Hh % 4) 2 (O ++ [Hh / 4 % 256]) = R by rw [← HS.out, HDR.out, unRun, if_neg (by rw [← HYE.out]; omega), if_pos (by omega), ← HYE.out, ← hH]; simp)
          clear hH
          go_wp2_with fail
          refine (six_calls x _ x0 x1).mono ?_
          rintro e w1 ⟨rfl, hd1⟩
          have HB1 := Lib.hid (below_step HB.out hd1.below)
          have HO1 := Lib.hid (HO.out.below hd1.below)
          rw [← HYE.out]
          clear hd1
          go_wp2_with (at_builtin; refine app_one HO1.out HB1.out (by omega) rfl rfl rfl rfl ?_)
          intro v3 w3 ho3 hb3 _ _
          have HO3 := Lib.hid (ho3.cast (show _ = O ++ [Hh / 4 % 256] from by first | rfl | rw [hu8]))
          have HB3 := Lib.hid hb3
          clear ho3 hb3
          go_wp2
          go_roundw
          case rel => exact ⟨k + 1, Hh % 4, 2, O ++ [Hh / 4 % 256], by omega, by go_num, by first | rfl | go_num, rfl, by omega, by omega, HS2, HO3, HB3, by simp; omega⟩
          case measure => simp [intOf]; omega
        · have hor : bits .or .i64 (h * 64) y = h * 64 + y := or_shl6 h y (by omega) (by omega) y0 y1
          have hwh : IntKind.i64.wrap (h * 64) = h * 64 := wrap_id (by omega) (by omega)
          obtain ⟨Hh, hH⟩ : ∃ Hh, Hh = h * 64 + y := ⟨_, rfl⟩
          rw [← hH] at hor
          have hH0 : 0 ≤ Hh ∧ Hh < 4096 := by omega
          have hand : bits .and .i64 Hh 15 = Hh % 16 := and_mask 4 (by omega) Hh (by omega) (by omega) 15 (by decide)
          have hu8 : IntKind.u8.wrap (Hh / 16) = Hh / 16 % 256 := by rw [IntKind.wrap_u8]
          have HS2 := Lib.hid (show unRun ((bytesOf s).drop (k + 1)) (Hh % 16) 4 (O ++ [Hh / 16 % 256]) = R by rw [← HS.out, HDR.out, unRun, if_neg (by rw [← HYE.out]; omega), if_pos (by omega), ← HYE.out, ← hH]; simp)
          clear hH
          go_wp2_with fail
          refine (six_calls x _ x0 x1).mono ?_
          rintro e w1 ⟨rfl, hd1⟩
          have HB1 := Lib.hid (below_step HB.out hd1.below)
          have HO1 := Lib.hid (HO.out.below hd1.below)
          rw [← HYE.out]
          clear hd1
          go_wp2_with (at_builtin; refine app_one HO1.out HB1.out (by omega) rfl rfl rfl rfl ?_)
          intro v3 w3 ho3 hb3 _ _
          have HO3 := Lib.hid (ho3.cast (show _ = O ++ [Hh / 16 % 256] from by first | rfl | rw [hu8]))
          have HB3 := Lib.hid hb3
          clear ho3 hb3
          go_wp2
          go_roundw
          case rel => exact ⟨k + 1, Hh % 16, 4, O ++ [Hh / 16 % 256], by omega, by go_num, by first | rfl | go_num, rfl, by omega, by omega, HS2, HO3, HB3, by simp; omega⟩
          case measure => simp [intOf]; omega
    · obtain rfl : k = s.size := by omega
      have dkn : decide ((s.size : Int) < s.size) = false := decide_eq_false (by omega)
      have HD := Lib.hid (show (bytesOf s).drop s.size = [] from List.drop_of_length_le (by rw [HL.out]; exact Nat.le_refl _))
      by_cases hne : m = 6 ∨ h ≠ 0
      · have HE := Lib.hid (show R = none by rw [← HS.out, HD.out, unRun, if_pos hne])
        by_cases h6 : m = 6
        case' pos =>
          have d6 : ((m : Int) == 6) = true := beq_iff_eq.2 (by omega)
        case' neg =>
          have d6 : ((m : Int) == 6) = false := beq_eq_false_iff_ne.2 (by omega)
          have d7 : (h == 0) = false := beq_eq_false_iff_ne.2 (by omega)
          have d8 : (h != 0) = true := by rw [bne, d7]; rfl
        all_goals
          clear hm hh hne h6
          go_wp2
          go_ret2
          exact ⟨_, by rw [HE.out]; rfl, by rw [HE.out]; exact Own.nil _ _, below_step HB0.out HB.out⟩
      · have HE := Lib.hid (show R = some O by rw [← HS.out, HD.out, unRun, if_neg hne])
        have d6 : ((m : Int) == 6) = false := beq_eq_false_iff_ne.2 (by omega)
        obtain rfl : h = 0 := by omega
        clear hm hh hne
        go_wp2
        go_ret2
        exact ⟨_, by rw [HE.out]; rfl, by rw [HE.out]; exact HO.out.lower HB0.out.size, below_step HB0.out HB.out⟩
end Go.Proofs.YtcgenmogedndjaaDoor
namespace Go.Proofs.YtcgenmogedndjaaDoor
open Go.RowKit Go.Proofs.YtcgenmogedndjaaDoorW.PrintWords
def tokS (s : Sec) (c : Clm) : ByteArray := strOfNums (sp3 (payL s.id c)) ++ ⟨#[46]⟩ ++ strOfNums (sp3 (mac s.key (payL s.id c)))
theorem strOf_size (l : List Int) : (strOfNums l).size = l.length := by
  have h := congrArg List.length (strOfNums_data l)
  rw [List.length_map, Array.length_toList] at h
  exact h
theorem run_add_ (P : Program) (a b : ByteArray) (w : World) (h : a.size + b.size ≤ 9223372036854775807) : (Op.stringOp .add a b).run P w = .ok (.string (a ++ b)) w := run_string_add_sum w a b h
theorem mac_length (k b : List Int) : (mac k b).length = 32 := rfl
theorem mac_Bytes (k b : List Int) : Bytes (mac k b) := sha2_Bytes _
set_option maxRecDepth 20000 in
set_option maxHeartbeats 1600000 in
theorem signed_calls {n : Nat} (id : Int) (A : Option Addr) (cA : Nat) (key : List Int) (a b : ByteArray) (u : Int) (w : World) (hr : Rd w A n key) (hk : Bytes key) (hcA : n ≤ cA) (hn : n ≤ 1099511627776) (hi : -9223372036854775808 ≤ id ∧ id ≤ 9223372036854775807) (ha : a.size ≤ 65536) (hb : b.size ≤ 65536) (hu : -9223372036854775808 ≤ u ∧ u ≤ 9223372036854775807) (hG : Laid w) :
    Calls Tryd.prog 28 #[.agg #[.int .i64 id, .slice A n cA], .agg #[.string a, .string b, .int .i64 u]] w fun e w' => e = .returned (.string (tokS ⟨id, key⟩ ⟨a, b, u⟩)) ∧ Below w.heap.size w w' := by
  obtain ⟨g1, hg1⟩ : ∃ g, g = w.heap.size := ⟨_, rfl⟩
  obtain ⟨g2, hg2⟩ : ∃ g, g = g1 + 1 := ⟨_, rfl⟩
  obtain ⟨W0, hW0⟩ : ∃ W0, W0 = w.alloc (.cells #[.int .i64 id, .slice A n cA] 42) := ⟨_, rfl⟩
  obtain ⟨W1, hW1⟩ : ∃ W1, W1 = W0.alloc (.cells #[.string a, .string b, .int .i64 u] 24) := ⟨_, rfl⟩
  have hz0 : W0.heap.size = g2 := by rw [hW0, size_alloc, hg2, hg1]
  have hb0 : Below w.heap.size w W0 := by rw [hW0]; exact below_alloc (Below.refl _ _) _
  have hb01 : Below W0.heap.size W0 W1 := by rw [hW1]; exact below_alloc (Below.refl _ _) _
  have hb1 := below_step hb0 hb01
  have hp0 : W0.heap[g1]? = some (.cells #[.int .i64 id, .slice A n cA] 42) := by rw [hW0, hg1]; exact heap_alloc_new w _
  have hp1 : W1.heap[g2]? = some (.cells #[.string a, .string b, .int .i64 u] 24) := by rw [hW1, ← hz0]; exact heap_alloc_new W0 _
  have x0 : W1.cell? ⟨g1, 0, none⟩ = some (.int .i64 id) := pw_cell_below hb01 (by simp [World.cell?, hp0])
  have x1 : W1.cell? ⟨g1, 1, none⟩ = some (.slice A n cA) := pw_cell_below hb01 (by simp [World.cell?, hp0])
  have y0 : W1.cell? ⟨g2, 0, none⟩ = some (.string a) := by simp [World.cell?, hp1]
  have y1 : W1.cell? ⟨g2, 1, none⟩ = some (.string b) := by simp [World.cell?, hp1]
  have y2 : W1.cell? ⟨g2, 2, none⟩ = some (.int .i64 u) := by simp [World.cell?, hp1]
  have HB1 := Lib.hid hb1
  have HS := Lib.hid (show g1 = w.heap.size ∧ g2 = g1 + 1 ∧ W0 = w.alloc _ ∧ W1 = W0.alloc _ from ⟨hg1, hg2, hW0, hW1⟩)
  have HX := Lib.hid x1
  obtain ⟨P, hP⟩ : ∃ P, P = payL id ⟨a, b, u⟩ := ⟨_, rfl⟩
  have hPl := payL_length id ⟨a, b, u⟩
  rw [← hP] at hPl
  obtain ⟨M, hM⟩ : ∃ M, M = mac key P := ⟨_, rfl⟩
  have HI := Lib.hid (show Rd W1 A n key ∧ Bytes key ∧ n ≤ cA ∧ n ≤ 1099511627776 ∧ Laid W1 ∧ P.length ≤ 131108 ∧ Bytes P from ⟨Kd.C_below hr hb1, hk, hcA, hn, hG.below hb1 hG.lt, by simp at hPl; omega, by rw [hP]; exact payL_Bytes _ _⟩)
  have HP := Lib.hid (show payL id ⟨a, b, u⟩ = P from hP.symm)
  have HM := Lib.hid (show mac key P = M ∧ M.length = 32 ∧ Bytes M from ⟨hM.symm, by rw [hM]; exact mac_length _ _, by rw [hM]; exact mac_Bytes _ _⟩)
  have HU := Lib.hid (show (-9223372036854775808 ≤ id ∧ id ≤ 9223372036854775807) ∧ a.size ≤ 1099511627776 ∧ b.size ≤ 1099511627776 ∧ (-9223372036854775808 ≤ u ∧ u ≤ 9223372036854775807) from ⟨hi, by omega, by omega, hu⟩)
  obtain ⟨S1, hS1⟩ : ∃ S, S = strOfNums (sp3 P) := ⟨_, rfl⟩
  obtain ⟨S2, hS2⟩ : ∃ S, S = strOfNums (sp3 M) := ⟨_, rfl⟩
  obtain ⟨S3, hS3⟩ : ∃ S, S = S1 ++ (⟨#[46]⟩ : ByteArray) := ⟨_, rfl⟩
  have z1 : S1.size ≤ 174812 := by rw [hS1, strOf_size, sp3_length]; simp at hPl; omega
  have z2 : S2.size ≤ 43 := by rw [hS2, strOf_size, sp3_length, HM.out.2.1]; decide
  have z3 : S3.size = S1.size + 1 := by rw [hS3, ByteArray.size_append]; rfl
  have add1 : ∀ W, (Op.stringOp .add S1 ⟨#[46]⟩).run Tryd.prog W = .ok (.string S3) W := fun W => by rw [hS3]; exact run_add_ _ _ _ _ (by show S1.size + 1 ≤ _; omega)
  have add2 : ∀ W, (Op.stringOp .add S3 S2).run Tryd.prog W = .ok (.string (S3 ++ S2)) W := fun W => run_add_ _ _ _ _ (by omega)
  have HSS := Lib.hid (show strOfNums (sp3 P) = S1 ∧ strOfNums (sp3 M) = S2 ∧ S3 ++ S2 = tokS ⟨id, key⟩ ⟨a, b, u⟩ from ⟨hS1.symm, hS2.symm, by rw [hS3, hS1, hS2, hM, hP]; rfl⟩)
  clear hS1 hS2 hS3 z1 z2 z3
  clear hr hk hcA hn hi ha hb hu hG hg1 hg2 hz0 hb0 hb01 hb1 hp0 hp1 hW0 hW1 hP hM hPl
  go_enter Tryd.func28, Tryd.ntmps28
  go_wp2_with fail
  rw [← HS.out.1, ← HS.out.2.2.1, ← HS.out.2.2.2, ← HS.out.2.1]
  refine (payload_calls id a b u _ HU.out.1 HU.out.2.1 HU.out.2.2.1 HU.out.2.2.2).mono ?_
  rintro e w2 ⟨v2, rfl, ho2, hb2⟩
  replace ho2 := ho2.cast HP.out
  obtain ⟨A2, c2, rfl, hc2, hr2⟩ := ho2.reads
  have HR2 := Lib.hid (show Rd w2 A2 P.length P ∧ Below w.heap.size w w2 ∧ Laid w2 ∧ Rd w2 A n key from ⟨hr2, below_step HB1.out hb2, HI.out.2.2.2.2.1.below hb2 HI.out.2.2.2.2.1.lt, Kd.C_below HI.out.1 hb2⟩)
  have z1 := pw_cell_below hb2 HX.out
  clear x0 x1 y0 y1 y2 ho2 hc2 hr2 hb2
  go_wp2_with fail
  refine (Mac_calls _ _ _ _ _ _ _ HR2.out.2.2.2 HI.out.2.1 HI.out.2.2.1 HI.out.2.2.2.1 HR2.out.1 HI.out.2.2.2.2.2.2 (by have := HI.out; omega) HR2.out.2.2.1).mono ?_
  rintro e w3 ⟨rfl, hb3⟩
  rw [HM.out.1]
  obtain ⟨g6, hg6⟩ : ∃ g6, g6 = w3.heap.size := ⟨_, rfl⟩
  obtain ⟨W4, hW4⟩ : ∃ W4, W4 = w3.alloc (.cells #[.int .u8 0, .int .u8 0, .int .u8 0, .int .u8 0, .int .u8 0, .int .u8 0, .int .u8 0, .int .u8 0, .int .u8 0, .int .u8 0, .int .u8 0, .int .u8 0, .int .u8 0, .int .u8 0, .int .u8 0, .int .u8 0, .int .u8 0, .int .u8 0, .int .u8 0, .int .u8 0, .int .u8 0, .int .u8 0, .int .u8 0, .int .u8 0, .int .u8 0, .int .u8 0, .int .u8 0, .int .u8 0, .int .u8 0, .int .u8 0, .int .u8 0, .int .u8 0] 66) := ⟨_, rfl⟩
  have hB4 : Below g6 w3 W4 := by rw [hW4, hg6]; exact below_alloc (Below.refl _ _) _
  have HL := Lib.hid (show Blk W4 g6 66 .u8 (List.replicate 32 0) ∧ Below w2.heap.size w2 W4 ∧ w2.heap.size ≤ g6 from ⟨by rw [hW4, hg6]; exact Blk.new w3 66 .u8 (List.replicate 32 0), hb3.trans (hB4.mono (by rw [hg6]; exact hb3.size)), by rw [hg6]; exact hb3.size⟩)
  have HS2 := Lib.hid (show g6 = w3.heap.size ∧ W4 = w3.alloc _ from ⟨hg6, hW4⟩)
  clear hB4 hg6 hW4 hb3 z1
  go_upto_region 3 with (refine gate_ (.store 66 (.tmp 6) (.tmp 14)) rfl ?_; rw [← HS2.out.1, ← HS2.out.2]; refine store_blk2 (m := M) rfl rfl rfl rfl rfl HL.out.1 (by rw [HM.out.2.1]; rfl) (by rw [HM.out.2.1]; kernel_rfl) ?_; intro w5 hk5 hb5 hf5; have HF := Lib.hid (show Rd w5.drew (some ⟨g6, 0, none⟩) 32 M ∧ Below w.heap.size w w5.drew ∧ Rd w5.drew A2 P.length P from ⟨Kd.C_below (by have hr := hk5.row (by rw [HM.out.2.1]; decide); rw [HM.out.2.1] at hr; exact hr) (below_drew (Below.refl _ _)), below_drew (below_step HR2.out.2.1 (hb5 _ _ HL.out.2.1 HL.out.2.2)), Kd.C_below HR2.out.1 (below_drew (hb5 _ _ HL.out.2.1 HL.out.2.2))⟩); clear hk5 hb5 hf5)
  go_region_with (first
    | (go_at_call 46; with_reducible refine (Spell_calls _ _ _ _ HR6.out.1 HM.out.2.2 (by decide)).mono ?_; rintro e w7 ⟨rfl, hb7⟩; rw [HSS.out.2.1]; have HB7 := Lib.hid (below_step HR6.out.2 hb7); clear hb7)
    | (go_at_call 46; with_reducible refine (Spell_calls _ _ _ _ HF.out.2.2 HI.out.2.2.2.2.2.2 (by have := HI.out; omega)).mono ?_; rintro e w6 ⟨rfl, hb6⟩; rw [HSS.out.1]; have HR6 := Lib.hid (show Rd w6 (some ⟨g6, 0, none⟩) 32 M ∧ Below w.heap.size w w6 from ⟨Kd.C_below HF.out.1 hb6, below_step HF.out.2.1 hb6⟩); clear hb6))
  all_goals
    go_wp2
    go_ret
    exact ⟨by rw [HSS.out.2.2]; rfl, HB7.out⟩
end Go.Proofs.YtcgenmogedndjaaDoor
