/- wire.Spell: bytes in letters. -/
import Derived.Test.YtfhnchabifklnaaDoorBase64
import Derived.Laws.MakeOwn
namespace Go.Proofs.YtfhnchabifklnaaDoor
open Go.RowKit Go.Proofs.YtfhnchabifklnaaDoorW.PrintWords
/-- The letters, in their order. -/
def alphaS : ByteArray := ⟨#[65, 66, 67, 68, 69, 70, 71, 72, 73, 74, 75, 76, 77, 78, 79, 80, 81, 82, 83, 84, 85, 86, 87, 88, 89, 90, 97, 98, 99, 100, 101, 102, 103, 104, 105, 106, 107, 108, 109, 110, 111, 112, 113, 114, 115, 116, 117, 118, 119, 120, 121, 122, 48, 49, 50, 51, 52, 53, 54, 55, 56, 57, 45, 95]⟩
def alpha (n : Int) : Int := bt alphaS n
/-- Bytes in letters, three bytes in four letters. -/
def sp3 : List Int → List Int
  | [] => []
  | [a] => [alpha (a / 4), alpha (a % 4 * 16)]
  | [a, b] => [alpha (a / 4), alpha (a % 4 * 16 + b / 16), alpha (b % 16 * 4)]
  | a :: b :: c :: t => alpha (a / 4) :: alpha (a % 4 * 16 + b / 16) :: alpha (b % 16 * 4 + c / 64) :: alpha (c % 64) :: sp3 t
/-- Letters out of held bits: at most two. -/
def drain (held : Int) : Nat → List Int → Nat × List Int
  | m + 6, O => drain held m (O ++ [alpha (held / 2 ^ m % 64)])
  | m, O => (m, O)
def spRun : List Int → Int → Nat → List Int → List Int
  | [], h, m, O => if 0 < m then O ++ [alpha (h * 2 ^ (6 - m) % 64)] else O
  | x :: t, h, m, O => spRun t ((h * 256 + x) % 64) (drain (h * 256 + x) (m + 8) O).1 (drain (h * 256 + x) (m + 8) O).2
theorem spRun_sp3 : ∀ (l : List Int) (O : List Int) (h : Int), Bytes l → spRun l h 0 O = O ++ sp3 l
  | [], O, h, _ => by simp [spRun, sp3]
  | [a], O, h, hb => by
    have ha := hb a (by simp)
    simp [spRun, sp3, drain]
    refine ⟨congrArg alpha (by omega), congrArg alpha (by omega)⟩
  | [a, b], O, h, hb => by
    have ha := hb a (by simp)
    have hb' := hb b (by simp)
    simp [spRun, sp3, drain]
    refine ⟨congrArg alpha (by omega), congrArg alpha (by omega), congrArg alpha (by omega)⟩
  | a :: b :: c :: t, O, h, hb => by
    have ha := hb a (by simp)
    have hb' := hb b (by simp)
    have hc := hb c (by simp)
    rw [spRun, spRun, spRun]
    simp only [drain]
    rw [spRun_sp3 t _ _ (fun x hx => hb x (by simp [hx]))]
    simp [sp3]
    refine ⟨congrArg alpha (by omega), congrArg alpha (by omega), congrArg alpha (by omega), congrArg alpha (by omega)⟩
theorem sp3_length : ∀ (l : List Int), (sp3 l).length = (4 * l.length + 2) / 3
  | [] => rfl
  | [a] => by simp [sp3]
  | [a, b] => by simp [sp3]
  | a :: b :: c :: t => by
    simp only [sp3, List.length_cons, sp3_length t]
    omega
theorem own_made {w0 W : World} (h : w0.heap.size ≤ W.heap.size) (c : Nat) (hc : c ≤ maxLen) : Own w0 (W.alloc (.cells (madeCells #[.int .u8 0] c) 5)) (.slice (some ⟨W.heap.size, 0, none⟩) 0 c) [] :=
  ⟨fun _ _ => trivial, [], World.ownsRow_made W _ c h hc (by rw [size_madeCells]; exact (Nat.mul_one c).symm), Reps.none _ _⟩
theorem and_63 (x : Int) (h0 : 0 ≤ x) (h1 : x < 9223372036854775808) : bits .and .i64 x 63 = x % 64 := by
  obtain ⟨k, rfl⟩ := Int.eq_ofNat_of_zero_le h0
  have h := and_i64 k 63 (by omega) (by omega)
  have e : k &&& 63 = k % 64 := Nat.and_two_pow_sub_one_eq_mod k 6
  rw [e] at h
  exact h.trans (by omega)
theorem or_shl8 (x d : Int) (x0 : 0 ≤ x) (x1 : x < 36028797018963968) (d0 : 0 ≤ d) (d1 : d < 256) : bits .or .i64 (x * 256) d = x * 256 + d :=
  bits_join .i64 63 (by decide) wraps_i64 8 (x * 256) d (by omega) (by omega) (by omega) (by omega) (by omega) (by omega)
set_option maxHeartbeats 1600000 in
theorem Spell_calls {n : Nat} (A0 : Option Addr) (c0 : Nat) (l0 : List Int) (w : World) (hr0 : Rd w A0 n l0) (hb0 : Bytes l0) (hs : n ≤ 35184372088832) :
    Calls Tryd.prog 20 #[.slice A0 n c0] w fun e w' => e = .returned (.string (strOfNums (sp3 l0))) ∧ Below w.heap.size w w' := by
  have HR := Lib.hid hr0
  have HY := Lib.hid hb0
  have HL := Lib.hid (Kd.C_len hr0)
  clear hr0 hb0
  obtain ⟨i0, hi, hzz⟩ := Option.map_eq_some_iff.1 (show (Tryd.prog.info? 5).map (fun i => (i.zero, i.size, i.bytes)) = some (some (.int .u8 0), 1, 1) from info_u8)
  simp only [Prod.mk.injEq] at hzz
  obtain ⟨hz0, hz1, hz2⟩ := hzz
  have hmk := run_make (P := Tryd.prog) w 22 5 i0 (.int .u8 0) Tryd.underlying22 hi hz0 .i64 .i64 0 ((n : Int) + (n : Int) / 2 + 2) (by omega) (by omega) (by rw [hz2]; omega) (by omega)
  rw [hz1, Nat.mul_one, show ((n : Int) + (n : Int) / 2 + 2).toNat = n + n / 2 + 2 by omega, Int.toNat_zero] at hmk
  have hOm := own_made (w0 := w) (W := w) (Nat.le_refl _) (n + n / 2 + 2) (by simp [maxLen]; omega)
  have hBm : Below w.heap.size w (w.alloc (.cells (madeCells #[.int .u8 0] (n + n / 2 + 2)) 5)) := below_alloc (Below.refl _ _) _
  have HOm := Lib.hid hOm
  have HBm := Lib.hid hBm
  clear hi hz0 hz1 hz2 hOm hBm
  go_enter Tryd.func20, Tryd.ntmps20
  go_wp2
  go_loopw [3, 4, 5, 18] (fun v hd mn i wr => ∃ (k : Nat) (h : Int) (m : Nat) (O : List Int), k ≤ n ∧ i = .int .i64 k ∧ hd = .int .i64 h ∧ mn = .int .i64 m ∧ (m = 0 ∨ m = 2 ∨ m = 4) ∧ 0 ≤ h ∧ h < 64 ∧ Hid (spRun (l0.drop k) h m O = sp3 l0) ∧ Hid (Own w wr v O) ∧ Hid (Below w.heap.size w wr) ∧ O.length ≤ 2 * k) (fun _ _ _ i _ => n - (intOf i).toNat)
  case atStart => exact ⟨0, 0, 0, [], by omega, rfl, rfl, rfl, by omega, by omega, by omega, Lib.hid (by rw [List.drop_zero, spRun_sp3 _ _ _ HY.out]; rfl), HOm, HBm, by simp⟩
  case round =>
    obtain ⟨k, h, m, O, hk, rfl, rfl, rfl, hm, h0, h1, HS, HO, HB, hOl⟩ := hrel
    by_cases hkn : k < n
    · have dkn : decide ((k : Int) < n) = true := decide_eq_true (by omega)
      obtain ⟨x, hx⟩ : ∃ x, x = rd l0 k := ⟨_, rfl⟩
      obtain ⟨x0, x1⟩ := bytes_rd HY.out k (by rw [HL.out]; exact hkn)
      rw [← hx] at x0 x1
      have HDR := Lib.hid (show l0.drop k = x :: l0.drop (k + 1) by rw [hx]; exact cons_drop l0 k (by rw [HL.out]; exact hkn))
      obtain ⟨ad, rfl, hcell⟩ := Rd.cells (Kd.C_below HR.out HB.out) (by omega)
      have hxc := hcell k hkn
      rw [← hx] at hxc
      clear hcell
      obtain ⟨Hh, hH⟩ : ∃ Hh, Hh = h * 256 + x := ⟨_, rfl⟩
      have hH0 : 0 ≤ Hh ∧ Hh < 16384 := by omega
      have hor : bits .or .i64 (h * 256) x = Hh := by rw [or_shl8 h x h0 (by omega) x0 x1, hH]
      have hwh : IntKind.i64.wrap (h * 256) = h * 256 := wrap_idn (by omega) (by omega)
      have hwx : IntKind.i64.wrap x = x := wrap_idn (by omega) (by omega)
      have hwm : IntKind.i64.wrap ((m : Int) + 8) = ((m + 8 : Nat) : Int) := by rw [wrap_idn (by omega) (by omega)]; omega
      have HHH := Lib.hid hH
      obtain ⟨D, hD⟩ : ∃ D, D = drain Hh (m + 8) O := ⟨_, rfl⟩
      have HDD := Lib.hid hD
      clear hx hH hD
      go_wp2
      go_loopw [3, 5] (fun v mn wr => ∃ (M : Nat) (Oi : List Int), mn = .int .i64 M ∧ Hid (Own w wr v Oi) ∧ Hid (Below w.heap.size w wr) ∧ Hid (drain Hh M Oi = D) ∧ (M = 0 ∨ M = 2 ∨ M = 4 ∨ M = 6 ∨ M = 8 ∨ M = 10 ∨ M = 12) ∧ Oi.length * 6 + M ≤ O.length * 6 + 12) (fun _ mn _ => (intOf mn).toNat)
      case atStart => exact ⟨m + 8, O, rfl, HO, HB, Lib.hid HDD.out.symm, by omega, by omega⟩
      case round =>
        obtain ⟨M, Oi, rfl, HOi, HBi, HDi, hM, hOl2⟩ := hrel
        rcases hM with rfl | rfl | rfl | rfl | rfl | rfl | rfl
        · have HD2 := Lib.hid (show D = (0, Oi) from HDi.out.symm)
          have hA : bits .and .i64 Hh 63 = Hh % 64 := and_63 _ (by omega) (by omega)
          have HS2 := Lib.hid (show spRun (l0.drop (k + 1)) (Hh % 64) 0 Oi = sp3 l0 by rw [← HS.out, HDR.out, spRun, ← HHH.out, ← HDD.out, HD2.out])
          go_wp2
          go_roundw
          case rel => exact ⟨k + 1, Hh % 64, 0, Oi, by omega, by go_num, by go_num, by go_num, by omega, by omega, by omega, HS2, HOi, HBi, by omega⟩
          case measure => simp [intOf]; omega
        · have HD2 := Lib.hid (show D = (2, Oi) from HDi.out.symm)
          have hA : bits .and .i64 Hh 63 = Hh % 64 := and_63 _ (by omega) (by omega)
          have HS2 := Lib.hid (show spRun (l0.drop (k + 1)) (Hh % 64) 2 Oi = sp3 l0 by rw [← HS.out, HDR.out, spRun, ← HHH.out, ← HDD.out, HD2.out])
          go_wp2
          go_roundw
          case rel => exact ⟨k + 1, Hh % 64, 2, Oi, by omega, by go_num, by go_num, by go_num, by omega, by omega, by omega, HS2, HOi, HBi, by omega⟩
          case measure => simp [intOf]; omega
        · have HD2 := Lib.hid (show D = (4, Oi) from HDi.out.symm)
          have hA : bits .and .i64 Hh 63 = Hh % 64 := and_63 _ (by omega) (by omega)
          have HS2 := Lib.hid (show spRun (l0.drop (k + 1)) (Hh % 64) 4 Oi = sp3 l0 by rw [← HS.out, HDR.out, spRun, ← HHH.out, ← HDD.out, HD2.out])
          go_wp2
          go_roundw
          case rel => exact ⟨k + 1, Hh % 64, 4, Oi, by omega, by go_num, by go_num, by go_num, by omega, by omega, by omega, HS2, HOi, HBi, by omega⟩
          case measure => simp [intOf]; omega
        · obtain ⟨N, hN⟩ : ∃ N, N = Hh % 64 := ⟨_, rfl⟩
          have hA : bits .and .i64 (Hh) 63 = N := by rw [and_63 _ (by omega) (by omega), hN]
          have N0 : 0 ≤ N := by omega
          have N1 : N < 64 := by omega
          have hbn : N.toNat < alphaS.size := by show N.toNat < 64; omega
          have HA := Lib.hid (bt_at alphaS N hbn)
          have HD2 := Lib.hid (show drain Hh 0 (Oi ++ [alpha N]) = D by rw [← HDi.out, hN]; simp [drain])
          clear hN
          go_wp2_with (at_builtin; refine app_one HOi.out HBi.out (by omega) rfl rfl rfl rfl ?_)
          intro v3 w3 ho3 hb3 _ _
          have HO3 := Lib.hid (ho3.cast (show _ = Oi ++ [alpha N] from congrArg (fun x => Oi ++ [x]) HA.out))
          have HB3 := Lib.hid hb3
          clear ho3 hb3
          go_wp2
          go_roundw
          case rel => exact ⟨0, _, by go_num, HO3, HB3, HD2, by omega, by simp; omega⟩
          case measure => simp [intOf]
        · obtain ⟨N, hN⟩ : ∃ N, N = Hh / 4 % 64 := ⟨_, rfl⟩
          have hA : bits .and .i64 (Hh / 4) 63 = N := by rw [and_63 _ (by omega) (by omega), hN]
          have N0 : 0 ≤ N := by omega
          have N1 : N < 64 := by omega
          have hbn : N.toNat < alphaS.size := by show N.toNat < 64; omega
          have HA := Lib.hid (bt_at alphaS N hbn)
          have HD2 := Lib.hid (show drain Hh 2 (Oi ++ [alpha N]) = D by rw [← HDi.out, hN]; simp [drain])
          clear hN
          go_wp2_with (at_builtin; refine app_one HOi.out HBi.out (by omega) rfl rfl rfl rfl ?_)
          intro v3 w3 ho3 hb3 _ _
          have HO3 := Lib.hid (ho3.cast (show _ = Oi ++ [alpha N] from congrArg (fun x => Oi ++ [x]) HA.out))
          have HB3 := Lib.hid hb3
          clear ho3 hb3
          go_wp2
          go_roundw
          case rel => exact ⟨2, _, by go_num, HO3, HB3, HD2, by omega, by simp; omega⟩
          case measure => simp [intOf]
        · obtain ⟨N, hN⟩ : ∃ N, N = Hh / 16 % 64 := ⟨_, rfl⟩
          have hA : bits .and .i64 (Hh / 16) 63 = N := by rw [and_63 _ (by omega) (by omega), hN]
          have N0 : 0 ≤ N := by omega
          have N1 : N < 64 := by omega
          have hbn : N.toNat < alphaS.size := by show N.toNat < 64; omega
          have HA := Lib.hid (bt_at alphaS N hbn)
          have HD2 := Lib.hid (show drain Hh 4 (Oi ++ [alpha N]) = D by rw [← HDi.out, hN]; simp [drain])
          clear hN
          go_wp2_with (at_builtin; refine app_one HOi.out HBi.out (by omega) rfl rfl rfl rfl ?_)
          intro v3 w3 ho3 hb3 _ _
          have HO3 := Lib.hid (ho3.cast (show _ = Oi ++ [alpha N] from congrArg (fun x => Oi ++ [x]) HA.out))
          have HB3 := Lib.hid hb3
          clear ho3 hb3
          go_wp2
          go_roundw
          case rel => exact ⟨4, _, by go_num, HO3, HB3, HD2, by omega, by simp; omega⟩
          case measure => simp [intOf]
        · obtain ⟨N, hN⟩ : ∃ N, N = Hh / 64 % 64 := ⟨_, rfl⟩
          have hA : bits .and .i64 (Hh / 64) 63 = N := by rw [and_63 _ (by omega) (by omega), hN]
          have N0 : 0 ≤ N := by omega
          have N1 : N < 64 := by omega
          have hbn : N.toNat < alphaS.size := by show N.toNat < 64; omega
          have HA := Lib.hid (bt_at alphaS N hbn)
          have HD2 := Lib.hid (show drain Hh 6 (Oi ++ [alpha N]) = D by rw [← HDi.out, hN]; simp [drain])
          clear hN
          go_wp2_with (at_builtin; refine app_one HOi.out HBi.out (by omega) rfl rfl rfl rfl ?_)
          intro v3 w3 ho3 hb3 _ _
          have HO3 := Lib.hid (ho3.cast (show _ = Oi ++ [alpha N] from congrArg (fun x => Oi ++ [x]) HA.out))
          have HB3 := Lib.hid hb3
          clear ho3 hb3
          go_wp2
          go_roundw
          case rel => exact ⟨6, _, by go_num, HO3, HB3, HD2, by omega, by simp; omega⟩
          case measure => simp [intOf]
    · obtain rfl : k = n := by omega
      have dkn : decide ((k : Int) < k) = false := decide_eq_false (by omega)
      have HD := Lib.hid (show l0.drop k = [] from List.drop_of_length_le (by rw [HL.out]; exact Nat.le_refl _))
      rcases hm with rfl | rfl | rfl
      · have HE := Lib.hid (show O = sp3 l0 by rw [← HS.out, HD.out]; rfl)
        obtain ⟨A4, c4, rfl, hc4, hrd4⟩ := HO.out.reads
        have ks := fun a => Kd.C_string (P := Tryd.prog) (src := 22) (dst := 9) (e := 5) Tryd.underlying22 Tryd.underlying5 Tryd.underlying9 (c := c4) (Kd.C_drewN hrd4 a)
        have ks0 := Kd.C_string (P := Tryd.prog) (src := 22) (dst := 9) (e := 5) Tryd.underlying22 Tryd.underlying5 Tryd.underlying9 (c := c4) hrd4
        clear hrd4
        go_wp2
        go_ret
        exact ⟨congrArg (fun x => Ending.returned (Value.string (strOfNums x))) HE.out, HB.out⟩
      · obtain ⟨N, hN⟩ : ∃ N, N = h * 16 % 64 := ⟨_, rfl⟩
        have hA : bits .and .i64 (h * 16) 63 = N := by rw [and_63 _ (by omega) (by omega), hN]
        have hwq : IntKind.i64.wrap (h * 16) = h * 16 := wrap_idn (by omega) (by omega)
        have N0 : 0 ≤ N := by omega
        have N1 : N < 64 := by omega
        have hbn : N.toNat < alphaS.size := by show N.toNat < 64; omega
        have HA := Lib.hid (bt_at alphaS N hbn)
        have HE := Lib.hid (show O ++ [alpha N] = sp3 l0 by rw [← HS.out, HD.out, hN]; rfl)
        clear hN
        go_wp2_with (at_builtin; refine app_one HO.out HB.out (by omega) rfl rfl rfl rfl ?_)
        intro v3 w3 ho3 hb3 _ _
        replace ho3 := ho3.cast (show _ = sp3 l0 from (congrArg (fun x => O ++ [x]) HA.out).trans HE.out)
        obtain ⟨A4, c4, rfl, hc4, hrd4⟩ := ho3.reads
        have HB3 := Lib.hid hb3
        have ks := fun a => Kd.C_string (P := Tryd.prog) (src := 22) (dst := 9) (e := 5) Tryd.underlying22 Tryd.underlying5 Tryd.underlying9 (c := c4) (Kd.C_drewN hrd4 a)
        have ks0 := Kd.C_string (P := Tryd.prog) (src := 22) (dst := 9) (e := 5) Tryd.underlying22 Tryd.underlying5 Tryd.underlying9 (c := c4) hrd4
        clear hrd4 ho3 hb3
        go_wp2
        go_ret
        exact ⟨rfl, HB3.out⟩
      · obtain ⟨N, hN⟩ : ∃ N, N = h * 4 % 64 := ⟨_, rfl⟩
        have hA : bits .and .i64 (h * 4) 63 = N := by rw [and_63 _ (by omega) (by omega), hN]
        have hwq : IntKind.i64.wrap (h * 4) = h * 4 := wrap_idn (by omega) (by omega)
        have N0 : 0 ≤ N := by omega
        have N1 : N < 64 := by omega
        have hbn : N.toNat < alphaS.size := by show N.toNat < 64; omega
        have HA := Lib.hid (bt_at alphaS N hbn)
        have HE := Lib.hid (show O ++ [alpha N] = sp3 l0 by rw [← HS.out, HD.out, hN]; rfl)
        clear hN
        go_wp2_with (at_builtin; refine app_one HO.out HB.out (by omega) rfl rfl rfl rfl ?_)
        intro v3 w3 ho3 hb3 _ _
        replace ho3 := ho3.cast (show _ = sp3 l0 from (congrArg (fun x => O ++ [x]) HA.out).trans HE.out)
        obtain ⟨A4, c4, rfl, hc4, hrd4⟩ := ho3.reads
        have HB3 := Lib.hid hb3
        have ks := fun a => Kd.C_string (P := Tryd.prog) (src := 22) (dst := 9) (e := 5) Tryd.underlying22 Tryd.underlying5 Tryd.underlying9 (c := c4) (Kd.C_drewN hrd4 a)
        have ks0 := Kd.C_string (P := Tryd.prog) (src := 22) (dst := 9) (e := 5) Tryd.underlying22 Tryd.underlying5 Tryd.underlying9 (c := c4) hrd4
        clear hrd4 ho3 hb3
        go_wp2
        go_ret
        exact ⟨rfl, HB3.out⟩
end Go.Proofs.YtfhnchabifklnaaDoor
