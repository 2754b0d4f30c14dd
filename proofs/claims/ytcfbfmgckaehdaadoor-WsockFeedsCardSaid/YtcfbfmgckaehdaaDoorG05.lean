/- The texts WordsWalk in one. -/
import Derived.Test.YtcfbfmgckaehdaaDoorG04
import Derived.Deep.RegionLaw
namespace Go.Proofs.YtcfbfmgckaehdaaDoor
open Go.RowKit Go.Proofs.YtcfbfmgckaehdaaDoorW.PrintWords
set_option maxHeartbeats 2000000 in
theorem words_calls (A0 : Option Addr) (c0 : Nat) (l0 : List Int) (f : FuncId) (F : List Int → Int) (m M : Nat) (hM : M = 16 + m) (w : World) (hr0 : Rd w A0 64 l0) (hc0 : 64 ≤ c0) (hb0 : Bytes l0) (hf : f = 66 ∨ f = 66) (hF : Makes f F) (hm : m ≤ 64) :
    Calls Tryd.prog 65 #[.slice A0 64 c0, .func (.func f) #[] #[], .int .i64 (M : Int)] w fun e w' => ∃ v', e = .returned v' ∧ OwnW w w' v' (extW F m (w32 l0)) ∧ Below w.heap.size w w' := by
  have HMM := Lib.hid hM
  clear hM
  have HR := Lib.hid hr0
  have HY := Lib.hid hb0
  have HL := Lib.hid (Kd.C_len hr0)
  have HF := Lib.hid hF
  clear hr0 hb0 hF
  go_enter Tryd.func65, Tryd.ntmps65
  go_wp2
  go_loopw [0, 7] (fun b v wr => ∃ (j : Nat) (A : Option Addr) (n c : Nat), n + 4 * j = 64 ∧ b = .slice A n c ∧ n ≤ c ∧ Hid (Rd w A n (l0.drop (4 * j))) ∧ Hid (OwnW w wr v (w32 (l0.take (4 * j)))) ∧ Hid (Below w.heap.size w wr)) (fun b _ _ => slenB b)
  case atStart => exact ⟨0, A0, 64, c0, by omega, rfl, hc0, HR, Lib.hid (OwnW.nil w w), Lib.hid (Below.refl _ _)⟩
  case round =>
    obtain ⟨j, A, n, c, hn, rfl, hnc, HA, HO, HB⟩ := hrel
    by_cases hn0 : 0 < n
    · have dn : decide (0 < (n : Int)) = true := decide_eq_true (by omega)
      have dn' : decide (0 < n) = true := decide_eq_true hn0
      have hl4 : (l0.drop (4 * j)).length = n := by rw [List.length_drop, HL.out]; omega
      have hn4 : 4 ≤ n := by omega
      have hrA := Kd.C_below HA.out HB.out
      obtain ⟨ad, rfl, hcell⟩ := Rd.cells hrA hn0
      have x0 := hcell 0 (by omega)
      rw [show ad.add 0 = ad by simp [Addr.add]] at x0
      have x1 := Rd.lit hcell 0 (by omega)
      have x2 := Rd.lit hcell 1 (by omega)
      have x3 := Rd.lit hcell 2 (by omega)
      have hrd : ∀ i : Nat, rd (l0.drop (4 * j)) (i : Int) = rd l0 ((4 * j + i : Nat) : Int) := fun i => rd_drop l0 (4 * j) i
      rw [hrd 0] at x0
      rw [hrd (0 + 1)] at x1
      rw [hrd (1 + 1)] at x2
      rw [hrd (2 + 1)] at x3
      have hr : ∀ i : Nat, i < 4 → 0 ≤ rd l0 ((4 * j + i : Nat) : Int) ∧ rd l0 ((4 * j + i : Nat) : Int) < 256 := fun i hi => bytes_rd HY.out (4 * j + i) (by rw [HL.out]; omega)
      have HSN := Lib.hid (w32_snoc l0 j (by rw [HL.out]; omega))
      obtain ⟨r00, r01⟩ := hr 0 (by omega)
      obtain ⟨r10, r11⟩ := hr 1 (by omega)
      obtain ⟨r20, r21⟩ := hr 2 (by omega)
      obtain ⟨r30, r31⟩ := hr 3 (by omega)
      rw [Nat.add_zero] at x0 r00 r01
      obtain ⟨b0, hb0⟩ : ∃ b0, b0 = rd l0 ((4 * j : Nat) : Int) := ⟨_, rfl⟩
      obtain ⟨b1, hb1⟩ : ∃ b1, b1 = rd l0 ((4 * j + 1 : Nat) : Int) := ⟨_, rfl⟩
      obtain ⟨b2, hb2⟩ : ∃ b2, b2 = rd l0 ((4 * j + 2 : Nat) : Int) := ⟨_, rfl⟩
      obtain ⟨b3, hb3⟩ : ∃ b3, b3 = rd l0 ((4 * j + 3 : Nat) : Int) := ⟨_, rfl⟩
      rw [← hb0] at x0 r00 r01 HSN
      rw [← hb1] at x1 r10 r11 HSN
      rw [← hb2] at x2 r20 r21 HSN
      rw [← hb3] at x3 r30 r31 HSN
      obtain ⟨V, hV⟩ : ∃ V, 16777216 * b0 + 65536 * b1 + 256 * b2 + b3 = V := ⟨_, rfl⟩
      have hO := or_four32 b0 b1 b2 b3 r00 r01 r10 r11 r20 r21 r30 r31
      rw [hV] at hO HSN
      have k0 : IntKind.u32.wrap b0 = b0 := by rw [IntKind.wrap_u32]; omega
      have k1 : IntKind.u32.wrap b1 = b1 := by rw [IntKind.wrap_u32]; omega
      have k2 : IntKind.u32.wrap b2 = b2 := by rw [IntKind.wrap_u32]; omega
      have k3 : IntKind.u32.wrap b3 = b3 := by rw [IntKind.wrap_u32]; omega
      have k4 : IntKind.u32.wrap (b0 * 16777216) = b0 * 16777216 := by rw [IntKind.wrap_u32]; omega
      have k5 : IntKind.u32.wrap (b1 * 65536) = b1 * 65536 := by rw [IntKind.wrap_u32]; omega
      have k6 : IntKind.u32.wrap (b2 * 256) = b2 * 256 := by rw [IntKind.wrap_u32]; omega
      have i1 : (1 : Int) < n := by omega
      have i2 : (2 : Int) < n := by omega
      have i3 : (3 : Int) < n := by omega
      have i0 : (0 : Int) < n := by omega
      have HDR := Lib.hid (show Rd w (if c = 4 then some ad else some (ad.add 4)) (n - 4) (l0.drop (4 * (j + 1))) by
        have h1 := HA.out
        rw [← hl4] at h1
        have := Kd.C_drop (k := Kd.int .u8) (m := 4) (c := c) h1 (by omega) (by omega)
        rw [show 4 * (Kd.int .u8).sz = 4 from rfl, List.length_drop, hl4, List.drop_drop] at this
        exact this)
      have hap : (w32 (l0.take (4 * j))).length + 1 ≤ 35184372088832 := by rw [w32_length, List.length_take, HL.out]; omega
      clear hr hrd hb0 hb1 hb2 hb3 hV hcell hrA r00 r01 r10 r11 r20 r21 r30 r31
      have HO' := Lib.hid (HO.out.below (below_drew (Below.refl wr.heap.size wr)))
      have HB' := Lib.hid (below_drew HB.out)
      go_wp2_with fail
      go_cut [7] (fun v wc => Hid (OwnW w wc v (w32 (l0.take (4 * (j + 1))))) ∧ Hid (Below w.heap.size w wc))
      case first =>
        go_region_law (refine appw_step HO'.out HB'.out hap (by rfl) rfl rfl rfl ?_; intro v3 w3 ho3 hb3 _ _; have HO3 := Lib.hid (OwnW.cast ho3 HSN.out.symm); have HB3 := Lib.hid hb3; clear ho3 hb3)
        all_goals
          go_wp2
          go_meet
          case rel => exact ⟨HO3, HB3⟩
      case rest =>
        obtain ⟨HO3, HB3⟩ := hcut
        by_cases hc4 : c = 4
        · subst hc4
          have hq : n = 4 := by omega
          subst hq
          have HD2 := Lib.hid (show Rd w (some ad) 0 (l0.drop (4 * (j + 1))) by have := HDR.out; rwa [if_pos rfl] at this)
          clear HDR
          go_wp2
          go_roundw
          case rel => exact ⟨j + 1, some ad, 0, 0, by omega, by first | rfl | go_num, by omega, HD2, HO3, HB3⟩
          case measure => simp [slenB]
        · have HD2 := Lib.hid (show Rd w (some (ad.add 4)) (n - 4) (l0.drop (4 * (j + 1))) by have := HDR.out; rwa [if_neg hc4] at this)
          clear HDR
          have g1 : (4 : Int) ≤ n := by omega
          have g2 : (n : Int) ≤ c := by omega
          have g3 : (4 : Int) ≤ c := by omega
          go_wp2
          go_roundw
          case rel => exact ⟨j + 1, some (ad.add 4), n - 4, c - 4, by omega, by first | rfl | go_num, by omega, HD2, HO3, HB3⟩
          case measure => simp [slenB]; omega
    · obtain rfl : n = 0 := by omega
      have HE := Lib.hid (show w32 (l0.take (4 * j)) = w32 l0 by rw [List.take_of_length_le (by rw [HL.out]; omega)])
      have HWL := Lib.hid (show (w32 l0).length = 16 by rw [w32_length, HL.out])
      have HO1 := Lib.hid (HO.out.cast HE.out)
      clear HO
      go_wp2
      go_loopw [7] (fun v wr => ∃ (k : Nat) (Aw : Option Addr) (cw : Nat), k ≤ m ∧ v = .slice Aw (16 + k) cw ∧ Hid (OwnW w wr v (extW F k (w32 l0))) ∧ Hid (Below w.heap.size w wr)) (fun v _ => 16 + m - slenB v)
      case atStart =>
        obtain ⟨Aw, cw, hv, _, _⟩ := HO1.out.reads
        refine ⟨0, Aw, cw, by omega, ?_, HO1, HB⟩
        rw [hv, HWL.out]
      case round =>
        clear HO1 HB
        obtain ⟨k, Aw, cw, hk, rfl, HO, HB⟩ := hrel
        have HXL := Lib.hid (show (extW F k (w32 l0)).length = 16 + k by rw [extW_length, HWL.out])
        by_cases hkm : k < m
        · obtain ⟨X, hX⟩ : ∃ X, X = extW F k (w32 l0) := ⟨_, rfl⟩
          have HXW := Lib.hid (show Ws X by rw [hX]; exact extW_Ws F (And.left HF.out) k _ (w32_Ws l0 HY.out) (by rw [HWL.out]; exact Nat.le_refl 16))
          rw [← hX] at HO HXL
          have HX1 := Lib.hid (show X ++ [F X] = extW F (k + 1) (w32 l0) by rw [extW_snoc, hX])
          clear hX
          have hrx := (Kd.R_reads' HO.out).2.2
          have HRX := Lib.hid (show RdW _ Aw X.length X from hrx)
          have hXl := HXL.out
          have hap : X.length + 1 ≤ 35184372088832 := by omega
          obtain ⟨xl, hxl⟩ : ∃ xl, xl = 16 + k := ⟨_, rfl⟩
          rw [← hxl] at HO hXl HXL ⊢
          have HXE := Lib.hid hxl
          have hcall := (And.right HF.out) _ Aw cw X hrx HXW.out (by omega) (by omega)
          rw [hXl] at hcall
          have HCALL := Lib.hid hcall
          have dk4 : decide ((xl : Int) < M) = true := decide_eq_true (by have := HMM.out; omega)
          have dk6 : decide (xl < M) = true := decide_eq_true (by have := HMM.out; omega)
          clear hcall hXl hrx hxl
          rcases hf with rfl | rfl
          all_goals
            go_wp2_with fail
            refine HCALL.out.mono ?_
            rintro e w1 ⟨rfl, hd1⟩
            have HO1 := Lib.hid (HO.out.below hd1.below)
            have HB1 := Lib.hid (below_step HB.out hd1.below)
            clear hd1 HO HB
            go_wp2_with (at_builtin; refine appw_one HO1.out HB1.out hap rfl rfl rfl rfl ?_)
            intro v3 w3 ho3 hb3 _ _
            have HO3 := Lib.hid (OwnW.cast ho3 HX1.out)
            have HB3 := Lib.hid hb3
            clear ho3 hb3
            obtain ⟨A3, c3, rfl, _, _⟩ := HO3.out.reads
            rw [show (extW F (k + 1) (w32 l0)).length = 16 + (k + 1) by rw [extW_length, HWL.out]] at HO3 ⊢
            go_wp2
            go_roundw
            case rel => exact ⟨k + 1, A3, c3, by omega, by first | rfl | go_num, HO3, HB3⟩
            case measure => have := HXE.out; simp [slenB]; omega
        · obtain rfl : k = m := by omega
          obtain ⟨xl, hxl⟩ : ∃ xl, xl = 16 + k := ⟨_, rfl⟩
          rw [← hxl] at HO ⊢
          have dk4 : decide ((xl : Int) < M) = false := decide_eq_false (by have := HMM.out; omega)
          have dk6 : decide (xl < M) = false := decide_eq_false (by have := HMM.out; omega)
          clear hxl
          go_wp2
          go_ret
          exact ⟨_, rfl, HO.out, HB.out⟩
end Go.Proofs.YtcfbfmgckaehdaaDoor
