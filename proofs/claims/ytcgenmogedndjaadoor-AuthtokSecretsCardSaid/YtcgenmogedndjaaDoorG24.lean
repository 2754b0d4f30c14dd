/- The texts Sha256Ref in one. -/
import Derived.Test.YtcgenmogedndjaaDoorG23
namespace Go.Proofs.YtcgenmogedndjaaDoor
open Go.RowKit Go.Proofs.YtcgenmogedndjaaDoorW.PrintWords
set_option maxRecDepth 20000 in
set_option maxHeartbeats 16000000 in
theorem Sha256Ref_calls {n : Nat} (A0 : Option Addr) (c0 : Nat) (l0 : List Int) (w : World) (hr0 : Rd w A0 n l0) (hb0 : Bytes l0) (hc0 : n ≤ c0) (hs : n ≤ 1099511627776) :
    Calls Tryd.prog 74 #[.slice A0 n c0] w fun e w' => ∃ v, e = .returned v ∧ Own w w' v (sha2 l0) ∧ Below w.heap.size w w' := by
  obtain ⟨g3, hg3⟩ : ∃ g3, g3 = w.heap.size := ⟨_, rfl⟩
  obtain ⟨W1, hW1⟩ : ∃ W1, W1 = w.alloc (.cells #[.int .u32 1779033703, .int .u32 3144134277, .int .u32 1013904242, .int .u32 2773480762, .int .u32 1359893119, .int .u32 2600822924, .int .u32 528734635, .int .u32 1541459225] 103) := ⟨_, rfl⟩
  obtain ⟨ad3, had3⟩ : ∃ ad, ad = (⟨g3, 0, none⟩ : Addr) := ⟨_, rfl⟩
  have hB1 : Below w.heap.size w W1 := by rw [hW1]; exact below_alloc (Below.refl _ _) _
  have hK3 : Blk W1 g3 103 .u32 init2.l := by rw [hW1, hg3]; exact Blk.new w 103 .u32 init2.l
  have hz1 : W1.heap.size = g3 + 1 := by rw [hW1, size_alloc, hg3]
  have HI := Lib.hid (show Rd w A0 n l0 ∧ Bytes l0 ∧ n ≤ c0 ∧ n ≤ 1099511627776 from ⟨hr0, hb0, hc0, hs⟩)
  have HS := Lib.hid (show g3 = w.heap.size ∧ W1 = w.alloc _ ∧ ad3 = (⟨g3, 0, none⟩ : Addr) ∧ Blk W1 g3 103 .u32 init2.l ∧ W1.heap.size = g3 + 1 ∧ Below w.heap.size w W1 from ⟨hg3, hW1, had3, hK3, hz1, hB1⟩)
  clear hr0 hb0 hB1 hK3 hg3 hW1 hc0 hs hz1 had3
  go_enter Tryd.func74, Tryd.ntmps74
  go_wp2_with fail
  rw [← HS.out.1, ← HS.out.2.1, ← HS.out.2.2.1]
  refine (constants_calls W1).mono ?_
  rintro e w1 ⟨rfl, hk4, hb1⟩
  obtain ⟨gk, hgk⟩ : ∃ gk, gk = W1.heap.size := ⟨_, rfl⟩
  obtain ⟨adk, hadk⟩ : ∃ ad, ad = (⟨gk, 0, none⟩ : Addr) := ⟨_, rfl⟩
  rw [← hgk] at hk4 ⊢
  rw [← hadk]
  have HK := Lib.hid (show Blk w1 gk 103 .u32 consts ∧ Blk w1 g3 103 .u32 init2.l ∧ Below w.heap.size w w1 ∧ gk = g3 + 1 ∧ adk = (⟨gk, 0, none⟩ : Addr) ∧ Rd w1 A0 n l0 from
    ⟨hk4, HS.out.2.2.2.1.below hb1 HS.out.2.2.2.1.lt, below_step HS.out.2.2.2.2.2 hb1, by rw [hgk, HS.out.2.2.2.2.1], hadk, Kd.C_below HI.out.1 (below_step HS.out.2.2.2.2.2 hb1)⟩)
  clear hk4 hb1 hgk hadk
  go_wp2_with fail
  refine (blocks_calls A0 c0 l0 w1 HK.out.2.2.2.2.2 HI.out.2.1 HI.out.2.2.1 HI.out.2.2.2).mono ?_
  rintro e w2 ⟨v2, rfl, ho2, hb2⟩
  obtain ⟨P, hP⟩ : ∃ P, P = padSha l0 := ⟨_, rfl⟩
  rw [← hP] at ho2
  obtain ⟨K, hK⟩ : ∃ K, K = P.length / 64 := ⟨_, rfl⟩
  have hPl : P.length = 64 * K := by have := padSha_mod l0; rw [hK, hP]; omega
  rw [← hK] at ho2
  obtain ⟨A2, c2, rfl, hc2, hr2⟩ := ho2.reads
  rw [rowsF_length] at hr2 hc2 ho2 ⊢
  obtain ⟨T, hT⟩ : ∃ T, blocks2 K init2 P = T := ⟨_, rfl⟩
  have HM := Lib.hid (show Bytes P ∧ P.length = 64 * K ∧ P = padSha l0 ∧ blocks2 K init2 P = T ∧ K ≤ 17179870000 ∧ g3 < w1.heap.size ∧ gk < w1.heap.size ∧ gk ≠ g3 ∧ w.heap.size ≤ g3 from ⟨by rw [hP]; exact padSha_bytes l0 HI.out.2.1, hPl, hP, hT, by
    have := Kd.C_len HI.out.1
    have h1 := padSha_length l0
    rw [← hP] at h1
    unfold padZ at h1
    have := HI.out.2.2.2
    omega, HK.out.2.1.lt, HK.out.1.lt, by have := HK.out.2.2.2.1; omega, by rw [HS.out.1]; exact Nat.le_refl _⟩)
  have HB := Lib.hid (show Blk w2 g3 103 .u32 init2.l ∧ Below w.heap.size w w2 ∧ OwnLW w1 w2 (.slice A2 K c2) (rowsF (w32 P) (16 * K) K) ∧ Blk w2 gk 103 .u32 consts ∧ blocks2 (K - 0) init2 (P.drop (64 * 0)) = T ∧ init2.ok from ⟨HK.out.2.1.below hb2 HK.out.2.1.lt, below_step HK.out.2.2.1 hb2, ho2, HK.out.1.below hb2 HK.out.1.lt, hT, by unfold St8.ok Ws init2 St8.l; decide⟩)
  clear hP hK hPl hT hr2 ho2 hb2 hc2
  go_wp2
  go_loopw [21] (fun v wi => ∃ (k : Nat) (h : St8), v = .int .i64 k ∧ k ≤ K ∧ Hid (Blk wi g3 103 .u32 h.l ∧ Below w.heap.size w wi ∧ OwnLW w1 wi (.slice A2 K c2) (rowsF (w32 P) (16 * K) K) ∧ Blk wi gk 103 .u32 consts ∧ blocks2 (K - k) h (P.drop (64 * k)) = T ∧ h.ok)) (fun v _ => K - (intOf v).toNat)
  case atStart => exact ⟨0, init2, rfl, by omega, HB⟩
  case round =>
    clear HB
    obtain ⟨k, h, rfl, hk, H⟩ := hrel
    by_cases hkK : k < K
    · have e1 : decide ((k : Int) < K) = true := decide_eq_true (by omega)
      have e1' : decide (k < K) = true := decide_eq_true hkK
      have kK : (k : Int) < K := by omega
      have hr2 : RdLW wr A2 K (rowsF (w32 P) (16 * K) K) := (Kd.S_reads' H.out.2.2.1).2.2 |> fun h => by rwa [rowsF_length] at h
      obtain ⟨ad, Ai, ci, rfl, hcell, hci, hrow⟩ := RdLW.at hr2 k hkK
      rw [rowsF_getD _ _ _ _ hkK, rowF_block P K k hkK] at hcell hci hrow
      obtain ⟨B, hB⟩ : ∃ B, B = (P.drop (64 * k)).take 64 := ⟨_, rfl⟩
      rw [← hB] at hcell hci hrow
      have hBl : B.length = 64 := by rw [hB, List.length_take, List.length_drop, HM.out.2.1]; omega
      have hBb : Bytes B := fun x hx => HM.out.1 x (List.mem_of_mem_drop (List.mem_of_mem_take (hB ▸ hx)))
      have hwl : (w32 B).length = 16 := by rw [w32_length, hBl]
      rw [hwl] at hcell hci hrow
      obtain ⟨R0, hR0⟩ : ∃ R, R = w32 B := ⟨_, rfl⟩
      rw [← hR0] at hrow hwl
      have HR0 := Lib.hid (show R0.length = 16 ∧ Ws R0 ∧ R0 = w32 B ∧ B = (P.drop (64 * k)).take 64 ∧ k < K from ⟨hwl, by rw [hR0]; exact w32_Ws B hBb, hR0, hB, hkK⟩)
      obtain ⟨w3, hw3⟩ : ∃ w3, w3 = wr := ⟨_, rfl⟩
      rw [← hw3] at H hcell hrow ⊢
      have HLIT := Lib.hid (show OwnW w3 (w3.alloc (.cells #[] 103)) (.slice (some ⟨w3.heap.size, 0, none⟩) 0 0) [] from litw_nil (Below.refl _ _))
      have HROW := Lib.hid (show RdW (w3.alloc (.cells #[] 103)) Ai 16 R0 from Kd.C_below hrow (below_alloc (Below.refl _ _) _))
      clear hw3 hrow hwl hR0 hB hBl hBb hci hr2
      go_wp2_with (at_builtin; refine appw_row HLIT.out HROW.out (below_alloc (Below.refl _ _) _) (by simp) rfl rfl rfl rfl ?_)
      intro v4 w4 ho4 hb4 _ _
      obtain ⟨A4, c4, rfl, _, _⟩ := (ho4.cast (List.nil_append R0)).reads
      rw [HR0.out.1] at ho4 ⊢
      have HO4 := Lib.hid (show OwnW w3 w4 (.slice A4 16 c4) (extW sch2 0 R0) ∧ Below w3.heap.size w3 w4 from ⟨ho4.cast (List.nil_append R0), hb4⟩)
      clear ho4 hb4 HLIT HROW hcell
      go_wp2
      go_loopw [7, 8] (fun v i wi => ∃ (j : Nat) (A : Option Addr) (c : Nat), j ≤ 48 ∧ i = .int .i64 ((16 + j : Nat) : Int) ∧ v = .slice A (16 + j) c ∧ Hid (OwnW w3 wi (.slice A (16 + j) c) (extW sch2 j R0) ∧ Below w3.heap.size w3 wi)) (fun _ i _ => 64 - (intOf i).toNat)
      case atStart => exact ⟨0, A4, c4, by omega, rfl, rfl, HO4⟩
      case round =>
        obtain ⟨j, A, c, hj, rfl, rfl, HO⟩ := hrel
        obtain ⟨l, hl⟩ : ∃ l, l = extW sch2 j R0 := ⟨_, rfl⟩
        have hll : l.length = 16 + j := by rw [hl, extW_length, HR0.out.1]
        have HLW := Lib.hid (show Ws l ∧ l = extW sch2 j R0 ∧ l.length = 16 + j from ⟨by rw [hl]; exact extW_Ws sch2 sch2_makes.1 j R0 HR0.out.2.1 (by rw [HR0.out.1]; omega), hl, hll⟩)
        rw [← hl] at HO
        obtain ⟨m, hm⟩ : ∃ m, m = 16 + j := ⟨_, rfl⟩
        have HMJ := Lib.hid hm
        rw [← hm] at HO hll ⊢
        by_cases hj64 : j < 48
        · have e2 : decide ((m : Int) < 64) = true := decide_eq_true (by omega)
          have e2' : decide (m < 64) = true := decide_eq_true (by omega)
          have hrl : RdW wr A m l := by have := (Kd.R_reads' HO.out.1).2.2; rwa [hll] at this
          obtain ⟨ad', rfl, hcell⟩ := RdW.cells hrl (by omega)
          have cell : ∀ q : Nat, q ≤ m → 1 ≤ q → wr.cell? (ad'.add (m - q)) = some (.int .u32 (rd l ((m : Int) - q))) := by
            intro q h1 h2
            have := hcell (m - q) (by omega)
            rwa [show ((m - q : Nat) : Int) = (m : Int) - q by omega] at this
          have hrg : ∀ q : Nat, q ≤ m → 1 ≤ q → 0 ≤ rd l ((m : Int) - q) ∧ rd l ((m : Int) - q) < 4294967296 := by
            intro q h1 h2
            have := HLW.out.1.rd (m - q) (by omega)
            rwa [show ((m - q : Nat) : Int) = (m : Int) - q by omega] at this
          have x15 := cell 15 (by omega) (by omega)
          have x2 := cell 2 (by omega) (by omega)
          have x16 := cell 16 (by omega) (by omega)
          have x7 := cell 7 (by omega) (by omega)
          have g15 := hrg 15 (by omega) (by omega)
          have g2 := hrg 2 (by omega) (by omega)
          obtain ⟨x, ex⟩ : ∃ y, y = rd l ((m : Int) - (15 : Nat)) := ⟨_, rfl⟩
          obtain ⟨y, ey⟩ : ∃ y, y = rd l ((m : Int) - (2 : Nat)) := ⟨_, rfl⟩
          obtain ⟨p, ep⟩ : ∃ y, y = rd l ((m : Int) - (16 : Nat)) := ⟨_, rfl⟩
          obtain ⟨q, eq⟩ : ∃ y, y = rd l ((m : Int) - (7 : Nat)) := ⟨_, rfl⟩
          have hE : sch2 l = ad_ (ad_ (ad_ p (xr (xr (rotl x 25) (rotl x 14)) (x / 8))) q) (xr (xr (rotl y 15) (rotl y 13)) (y / 1024)) := by
            rw [ex, ey, ep, eq]
            unfold sch2
            rw [hll]
            rfl
          rw [← ex] at x15 g15
          rw [← ey] at x2 g2
          rw [← ep] at x16
          rw [← eq] at x7
          obtain ⟨A1, eA1⟩ : ∃ A1, xr (xr (rotl x 25) (rotl x 14)) (x / 8) = A1 := ⟨_, rfl⟩
          rw [eA1] at hE
          obtain ⟨D1, eD1⟩ : ∃ D1, xr (xr (rotl y 15) (rotl y 13)) (y / 1024) = D1 := ⟨_, rfl⟩
          rw [eD1] at hE
          obtain ⟨B1, eB1⟩ : ∃ B1, ad_ p A1 = B1 := ⟨_, rfl⟩
          rw [eB1] at hE
          obtain ⟨C1, eC1⟩ : ∃ C1, ad_ B1 q = C1 := ⟨_, rfl⟩
          rw [eC1] at hE
          obtain ⟨E1, eE1⟩ : ∃ E1, ad_ C1 D1 = E1 := ⟨_, rfl⟩
          rw [eE1] at hE
          have HE := Lib.hid hE
          have hA1 : bits .xor .u32 (bits .xor .u32 (rotl x 25) (rotl x 14)) (x / 8) = A1 := eA1
          have hD1 : bits .xor .u32 (bits .xor .u32 (rotl y 15) (rotl y 13)) (y / 1024) = D1 := eD1
          have hB1 : IntKind.u32.wrap (p + A1) = B1 := by rw [IntKind.wrap_u32]; exact eB1
          have hC1 : IntKind.u32.wrap (B1 + q) = C1 := by rw [IntKind.wrap_u32]; exact eC1
          have hE1 : IntKind.u32.wrap (C1 + D1) = E1 := by rw [IntKind.wrap_u32]; exact eE1
          have GX := Lib.hid g15
          have GY := Lib.hid g2
          have hr7 := right_lit x 7 7 25 rfl rfl g15.1 g15.2 (by decide)
          have hr18 := right_lit x 18 18 14 rfl rfl g15.1 g15.2 (by decide)
          have hr17 := right_lit y 17 17 15 rfl rfl g2.1 g2.2 (by decide)
          have hr19 := right_lit y 19 19 13 rfl rfl g2.1 g2.2 (by decide)
          have HRX := Lib.hid (And.intro hr7 hr18)
          have HRY := Lib.hid (And.intro hr17 hr19)
          have w15 : IntKind.i64.wrap ((m : Int) - 15) = m - 15 := by rw [IntKind.wrap_i64]; omega
          have t15 : ((m : Int) - 15).toNat = m - 15 := by omega
          have l15 : (0 : Int) ≤ (m : Int) - 15 := by omega
          have l15' : (15 : Int) ≤ m := by omega
          have u15' : (m : Int) - 15 < m := by omega
          have w2' : IntKind.i64.wrap ((m : Int) - 2) = m - 2 := by rw [IntKind.wrap_i64]; omega
          have t2 : ((m : Int) - 2).toNat = m - 2 := by omega
          have l2 : (0 : Int) ≤ (m : Int) - 2 := by omega
          have l2' : (2 : Int) ≤ m := by omega
          have u2' : (m : Int) - 2 < m := by omega
          have w16 : IntKind.i64.wrap ((m : Int) - 16) = m - 16 := by rw [IntKind.wrap_i64]; omega
          have t16 : ((m : Int) - 16).toNat = m - 16 := by omega
          have l16 : (0 : Int) ≤ (m : Int) - 16 := by omega
          have l16' : (16 : Int) ≤ m := by omega
          have u16' : (m : Int) - 16 < m := by omega
          have w7 : IntKind.i64.wrap ((m : Int) - 7) = m - 7 := by rw [IntKind.wrap_i64]; omega
          have t7 : ((m : Int) - 7).toNat = m - 7 := by omega
          have l7 : (0 : Int) ≤ (m : Int) - 7 := by omega
          have l7' : (7 : Int) ≤ m := by omega
          have u7' : (m : Int) - 7 < m := by omega
          have HAP := Lib.hid (show l.length + 1 ≤ 35184372088832 by omega)
          have HNX := Lib.hid (show l ++ [E1] = extW sch2 (j + 1) R0 ∧ (extW sch2 (j + 1) R0).length = m + 1 ∧ j < 48 from ⟨by rw [← HE.out, extW_snoc, ← HLW.out.2.1], by rw [extW_length, HR0.out.1]; omega, hj64⟩)
          clear hcell cell ex ey ep eq eA1 eB1 eC1 eD1 eE1 hE hrg g15 g2 hr7 hr18 hr17 hr19 hrl hl hll hm hj hj64
          go_wp2_with fail
          go_quiet (first | (go_at_call 82; (first | with_reducible refine (HRX.out.1 _).mono ?_ | with_reducible refine (HRX.out.2 _).mono ?_); rintro e w' ⟨rfl, ⟨nd, rfl⟩⟩; exact ⟨rfl, _, World.drewN_drewN _ _ _⟩))
          have HO4b := Lib.hid (show OwnW w3 (wr.drewN nq) (.slice (some ad') m c) l ∧ Below w3.heap.size w3 (wr.drewN nq) from ⟨HO.out.1.below (below_drewN (Below.refl wr.heap.size wr) nq), below_drewN HO.out.2 nq⟩)
          have y2 : (wr.drewN nq).cell? (ad'.add (m - 2)) = some (.int .u32 y) := x2
          have y16 : (wr.drewN nq).cell? (ad'.add (m - 16)) = some (.int .u32 p) := x16
          have y7 : (wr.drewN nq).cell? (ad'.add (m - 7)) = some (.int .u32 q) := x7
          generalize wr.drewN nq = W4b at HO4b y2 y16 y7 ⊢
          clear x15 x2 x16 x7 HO hA1 w15 t15 l15 l15' u15'
          go_wp2_with fail
          go_quiet (first | (go_at_call 82; (first | with_reducible refine (HRY.out.1 _).mono ?_ | with_reducible refine (HRY.out.2 _).mono ?_); rintro e w' ⟨rfl, ⟨nd, rfl⟩⟩; exact ⟨rfl, _, World.drewN_drewN _ _ _⟩))
          have HO4c := Lib.hid (show OwnW w3 (W4b.drewN nq) (.slice (some ad') m c) l ∧ Below w3.heap.size w3 (W4b.drewN nq) from ⟨HO4b.out.1.below (below_drewN (Below.refl W4b.heap.size W4b) nq), below_drewN HO4b.out.2 nq⟩)
          have z16 : (W4b.drewN nq).cell? (ad'.add (m - 16)) = some (.int .u32 p) := y16
          have z7 : (W4b.drewN nq).cell? (ad'.add (m - 7)) = some (.int .u32 q) := y7
          generalize W4b.drewN nq = W4c at HO4c z16 z7 ⊢
          clear y2 y16 y7 HO4b hD1 w2' t2 l2 l2' u2'
          go_upto_region 12 with (fail)
          refine wp_region_any (by kernel_rfl) ?_
          refine wpAny_take (i := 0) (v := ?_) rfl (by kernel_rfl) (by kernel_rfl) (by kernel_rfl) (fun _ _ _ h => h) (Or.inl ⟨by rfl, ?_⟩) ?_
          rotate_left
          · intro w
            go_simp
            with_reducible rfl
          refine quiet_tail_from1 16 18 rfl (by decide) (by decide) (by kernel_rfl) (by kernel_rfl) (by kernel_rfl) ?_
          simp only [List.take_succ_cons, List.take_zero, List.drop_succ_cons, List.drop_zero]
          repeat (quiet_step (fail))
          refine wpQuiet_nil ?_
          intro _ hw'
          obtain ⟨nq, hw''⟩ := hw'
          subst hw''
          have HO5 := Lib.hid (show OwnW w3 (W4c.drewN nq) (.slice (some ad') m c) l ∧ Below w3.heap.size w3 (W4c.drewN nq) from ⟨HO4c.out.1.below (below_drewN (Below.refl W4c.heap.size W4c) nq), below_drewN HO4c.out.2 nq⟩)
          generalize W4c.drewN nq = W5 at HO5 ⊢
          clear z16 z7 w16 t16 l16 l16' u16' w7 t7 l7 l7' u7' hB1 hC1 hE1 HO4c
          go_wp2_with (at_builtin; refine appw_one HO5.out.1 HO5.out.2 HAP.out rfl rfl rfl rfl ?_)
          intro v6 w6 ho6 hb6 _ _
          have ho6' := ho6.cast HNX.out.1
          obtain ⟨A6, c6, rfl, _, _⟩ := ho6'.reads
          rw [HNX.out.2.1] at ho6' ⊢
          have HO6 := Lib.hid (show OwnW w3 w6 (.slice A6 (16 + (j + 1)) c6) (extW sch2 (j + 1) R0) ∧ Below w3.heap.size w3 w6 from ⟨by rw [show 16 + (j + 1) = m + 1 by have := HMJ.out; omega]; exact ho6', hb6⟩)
          have hw1 : IntKind.i64.wrap ((m : Int) + 1) = m + 1 := by have := HMJ.out; have := HNX.out; rw [IntKind.wrap_i64]; omega
          clear ho6 ho6' hb6
          go_wp2
          go_roundw
          case rel => exact ⟨j + 1, A6, c6, by have := HNX.out; omega, by have := HMJ.out; go_num, by have := HMJ.out; go_num, HO6⟩
          case measure => have := HMJ.out; have := HNX.out; simp [intOf]; omega
        · obtain rfl : j = 48 := by omega
          have hm80 : m = 64 := by omega
          subst hm80
          have hwr : RdW wr A 64 l := by have := (Kd.R_reads' HO.out.1).2.2; rwa [hll] at this
          have hkg : Blk wr g3 103 .u32 h.l := H.out.1.below HO.out.2 H.out.1.lt
          have hrh : RdW wr (some ad3) 8 h.l := by rw [HS.out.2.2.1]; exact hkg.rowW (by simp [St8.l])
          obtain ⟨S, hS⟩ : ∃ S, rounds2 l 0 h = S := ⟨_, rfl⟩
          have HQ := Lib.hid (show RdW wr A 64 l ∧ RdW wr (some ad3) 8 h.l ∧ Below w3.heap.size w3 wr ∧ rounds2 l 0 h = S ∧ l.length = 64 ∧ l = extW sch2 48 (w32 ((P.drop (64 * k)).take 64)) from ⟨hwr, hrh, HO.out.2, hS, hll, by rw [HLW.out.2.1, HR0.out.2.2.1, HR0.out.2.2.2.1]⟩)
          have HLIT := Lib.hid (show OwnW wr (wr.alloc (.cells #[] 103)) (.slice (some ⟨wr.heap.size, 0, none⟩) 0 0) [] from litw_nil (Below.refl _ _))
          have HROW := Lib.hid (show RdW (wr.alloc (.cells #[] 103)) (some ad3) 8 h.l from Kd.C_below hrh (below_alloc (Below.refl _ _) _))
          clear hwr hkg hrh hS hll hl hm hj HO HMJ
          go_wp2_with (at_builtin; refine appw_row HLIT.out HROW.out (below_alloc (Below.refl _ _) _) (by simp) rfl rfl rfl rfl ?_)
          intro v7 W7 ho7 hb7 _ _
          replace ho7 : OwnW wr W7 v7 h.l := ho7.cast (List.nil_append _)
          obtain ⟨A7, c7, rfl, _, _⟩ := ho7.reads
          rw [show h.l.length = 8 from rfl] at ho7 ⊢
          have HR := Lib.hid (show OwnW w3 W7 (.slice A7 8 c7) h.l ∧ Below w3.heap.size w3 W7 ∧ RdW W7 A 64 l ∧ rounds2 (l.drop 0) 0 h = S ∧ h.ok from ⟨Kd.R_lower ho7 HQ.out.2.2.1.size, below_step HQ.out.2.2.1 hb7, Kd.C_below HQ.out.1 hb7, HQ.out.2.2.2.1, H.out.2.2.2.2.2⟩)
          clear ho7 hb7 HLIT HROW
          go_wp2
          go_loopw [11, 93] (fun vs v wi => ∃ (t : Nat) (q : St8) (As : Option Addr) (cs : Nat), v = .int .i64 t ∧ t ≤ 64 ∧ vs = .slice As 8 cs ∧ Hid (OwnW w3 wi (.slice As 8 cs) q.l ∧ Below w3.heap.size w3 wi ∧ RdW wi A 64 l ∧ rounds2 (l.drop t) t q = S ∧ q.ok)) (fun _ v _ => 64 - (intOf v).toNat)
          case atStart => exact ⟨0, h, A7, c7, rfl, by omega, rfl, HR⟩
          case round =>
            clear HR
            obtain ⟨t, q, As, cs, rfl, ht, rfl, HR⟩ := hrel
            by_cases ht64 : t < 64
            · have HEX := Lib.hid (And.intro ht64 HK.out.2.2.2.2.1)
              clear ht64
              refine sha_round _ HEX.out.1 HQ.out.2.2.2.2.1 HEX.out.2 H.out.2.2.2.1 HR.out ?_
              intro e_ e_ e_ e_ e_ e_ e_ e_ e_ e_ e_ e_ e_ e_ e_ e_ e_ e_ e_ e_ e_ e_ e_ e_ e_ e_ e_ e_ e_ e_ e_ e_ e_ e_ e_ e_ e_ e_ e_ e_ e_ e_ e_ e_ e_ e_ e_ e_ e_ e_ e_ e_ e_ e_ e_ e_ e_ e_ e_ e_ e_ e_ e_ e_ e_ e_ e_ e_ e_ e_ e_ e_ e_ e_ e_ e_ e_ e_ e_ e_ e_ e_ e_ e_ e_ e_ e_ e_ e_ e_ e_ e_ e_ e_ e_ e_ e_ e_ e_ e_ e_ e_ e_ e_ e_ e_ e_ e_ e_ e_ e_ e_ e_ e_ e_ e_ g9 q' W' hf
              have HF := Lib.hid hf
              clear hf
              refine ⟨⟨_, _, _, _, _, _, _, _, _, _, _, _, _, _, _, _, _, _, _, _, _, _, _, _, _, _, _, _, _, _, _, _, _, _, _, _, _, _, _, _, _, _, _, _, _, _, _, _, _, _, _, _, _, _, _, _, _, _, _, _, _, _, _, _, _, _, _, _, _, _, _, _, _, _, _, _, _, _, _, _, _, _, _, _, _, _, _, _, _, _, _, _, _, _, _, _, _, _, _, _, _, _, _, _, _, _, _, _, _, _, _, _, _, _, _, _, _, _, ?relr, rfl⟩, ?measr⟩
              case relr => exact ⟨t + 1, q', some ⟨g9, 0, none⟩, 8, by go_num, by have := HEX.out.1; omega, rfl, HF⟩
              case measr => have := HEX.out.1; simp [intOf]; omega
            · obtain rfl : t = 64 := by omega
              have hqS : q = S := by have := HR.out.2.2.2.1; rw [List.drop_of_length_le (by rw [HQ.out.2.2.2.2.1]; exact Nat.le_refl _)] at this; exact this
              have HJ := Lib.hid (show Blk wr g3 103 .u32 (addUp h.l q.l 0) ∧ OwnW w3 wr (.slice As 8 cs) q.l ∧ Below w.heap.size w wr ∧ OwnLW w1 wr (.slice (some ad) K c2) (rowsF (w32 P) (16 * K) K) ∧ Blk wr gk 103 .u32 consts from
                ⟨by rw [addUp_zero]; exact H.out.1.below HR.out.2.1 H.out.1.lt, HR.out.1, below_step H.out.2.1 HR.out.2.1, H.out.2.2.1.below HR.out.2.1, H.out.2.2.2.1.below HR.out.2.1 H.out.2.2.2.1.lt⟩)
              have HQS := Lib.hid (show q = S ∧ g3 < w3.heap.size from ⟨hqS, H.out.1.lt⟩)
              clear hqS ht ht64 HR
              go_wp2
              go_loopw [207] (fun v wi => ∃ i : Nat, v = .int .i64 i ∧ i ≤ 8 ∧ Hid (Blk wi g3 103 .u32 (addUp h.l q.l i) ∧ OwnW w3 wi (.slice As 8 cs) q.l ∧ Below w.heap.size w wi ∧ OwnLW w1 wi (.slice (some ad) K c2) (rowsF (w32 P) (16 * K) K) ∧ Blk wi gk 103 .u32 consts)) (fun v _ => 8 - (intOf v).toNat)
              case atStart => exact ⟨0, rfl, by omega, HJ⟩
              case round =>
                clear HJ
                obtain ⟨i, rfl, hi, HJ⟩ := hrel
                by_cases hi8 : i < 8
                · have d1 : decide ((i : Int) < 8) = true := decide_eq_true (by omega)
                  have d1' : decide (i < 8) = true := decide_eq_true hi8
                  have i8 : (i : Int) < 8 := by omega
                  have hwi : IntKind.i64.wrap ((i : Int) + 1) = i + 1 := by rw [IntKind.wrap_i64]; omega
                  have hadd : ad3.add i = ⟨g3, i, none⟩ := by rw [HS.out.2.2.1, add_plain]
                  have HAD := Lib.hid hadd
                  have z1 : wr.cell? (ad3.add i) = some (.int .u32 (rd h.l (i : Int))) := by
                    rw [hadd]
                    have := HJ.out.1.cell i (by rw [addUp8_length]; exact hi8)
                    rwa [addUp8_at _ _ i hi8] at this
                  have hrs : RdW wr As 8 q.l := (Kd.R_reads' HJ.out.2.1).2.2
                  obtain ⟨ads, rfl, hsc⟩ := RdW.cells hrs (by decide)
                  have z2 := hsc i hi8
                  obtain ⟨z, hz⟩ : ∃ z, z = rd h.l (i : Int) := ⟨_, rfl⟩
                  obtain ⟨y, hy⟩ : ∃ y, y = rd q.l (i : Int) := ⟨_, rfl⟩
                  obtain ⟨s', hs'⟩ : ∃ s', s' = ad_ z y := ⟨_, rfl⟩
                  rw [← hz] at z1
                  rw [← hy] at z2
                  have wz : IntKind.u32.wrap (z + y) = s' := by rw [IntKind.wrap_u32, hs']
                  have HSE := Lib.hid (show (addUp h.l q.l i).set i s' = addUp h.l q.l (i + 1) ∧ i < 8 from ⟨by rw [hs', hz, hy]; exact addUp8_set _ _ i hi8, hi8⟩)
                  clear hz hy hs' hadd hrs hsc
                  go_upto_region 24 with (fail)
                  refine wp_region_quiet_tail_at 9 (by kernel_rfl) (by kernel_rfl) (by kernel_rfl) (by kernel_rfl) ?_
                  simp only [List.take_succ_cons, List.take_zero, List.drop_succ_cons, List.drop_zero]
                  repeat (quiet_step (fail))
                  refine wpQuiet_nil ?_
                  intro _ hw'
                  obtain ⟨nq, hw''⟩ := hw'
                  subst hw''
                  have HD := Lib.hid (show Blk (wr.drewN nq) g3 103 .u32 (addUp h.l q.l i) ∧ OwnW w3 (wr.drewN nq) (.slice (some ads) 8 cs) q.l ∧ Below w.heap.size w (wr.drewN nq) ∧ OwnLW w1 (wr.drewN nq) (.slice (some ad) K c2) (rowsF (w32 P) (16 * K) K) ∧ Blk (wr.drewN nq) gk 103 .u32 consts from
                    ⟨HJ.out.1, HJ.out.2.1.below (below_drewN (Below.refl wr.heap.size wr) nq), below_drewN HJ.out.2.2.1 nq, HJ.out.2.2.2.1.below (below_drewN (Below.refl wr.heap.size wr) nq), HJ.out.2.2.2.2⟩)
                  generalize wr.drewN nq = W6 at HD ⊢
                  have HJ2 := Lib.hid (show Blk (W6.setCell (ad3.add i) (.int .u32 s')) g3 103 .u32 (addUp h.l q.l (i + 1)) ∧ OwnW w3 (W6.setCell (ad3.add i) (.int .u32 s')) (.slice (some ads) 8 cs) q.l ∧ Below w.heap.size w (W6.setCell (ad3.add i) (.int .u32 s')) ∧ OwnLW w1 (W6.setCell (ad3.add i) (.int .u32 s')) (.slice (some ad) K c2) (rowsF (w32 P) (16 * K) K) ∧ Blk (W6.setCell (ad3.add i) (.int .u32 s')) gk 103 .u32 consts from by
                    rw [HAD.out]
                    have hks := HD.out.1.set i (by rw [addUp8_length]; exact HSE.out.2) s'
                    rw [HSE.out.1] at hks
                    exact ⟨hks, HD.out.2.1.far HQS.out.2 _, HD.out.2.2.1.setCell HM.out.2.2.2.2.2.2.2.2 _, HD.out.2.2.2.1.far HM.out.2.2.2.2.2.1 _, HD.out.2.2.2.2.far (p := ⟨g3, i, none⟩) HM.out.2.2.2.2.2.2.2.1 _⟩)
                  obtain ⟨c3, f3⟩ := HD.out.1.both i (by rw [addUp8_length]; exact HSE.out.2)
                  rw [← HAD.out] at c3 f3
                  clear z1 z2 hi8 hi
                  go_wp2
                  refine ⟨⟨_, _, _, _, _, _, _, _, _, _, _, _, _, _, _, ?rel, rfl⟩, ?measure⟩
                  case rel => exact ⟨i + 1, by go_num, by have := HSE.out.2; omega, HJ2⟩
                  case measure => have := HSE.out.2; simp [intOf]; omega
                · obtain rfl : i = 8 := by omega
                  have hbl : block2 h ((P.drop (64 * k)).take 64) = ⟨ad_ h.a q.a, ad_ h.b q.b, ad_ h.c q.c, ad_ h.d q.d, ad_ h.e q.e, ad_ h.f q.f, ad_ h.g q.g, ad_ h.h q.h⟩ := by
                    unfold block2
                    rw [← HQ.out.2.2.2.2.2, HQ.out.2.2.2.1, ← HQS.out.1]
                    rfl
                  obtain ⟨k', hk'⟩ : ∃ k', K - k = k' + 1 := ⟨K - k - 1, by have := HR0.out.2.2.2.2; omega⟩
                  have hT2 : blocks2 (K - (k + 1)) ⟨ad_ h.a q.a, ad_ h.b q.b, ad_ h.c q.c, ad_ h.d q.d, ad_ h.e q.e, ad_ h.f q.f, ad_ h.g q.g, ad_ h.h q.h⟩ (P.drop (64 * (k + 1))) = T := by
                    have := H.out.2.2.2.2.1
                    rw [hk', blocks2, List.drop_drop, hbl] at this
                    rw [show K - (k + 1) = k' by omega]
                    exact this
                  have hok : (St8.mk (ad_ h.a q.a) (ad_ h.b q.b) (ad_ h.c q.c) (ad_ h.d q.d) (ad_ h.e q.e) (ad_ h.f q.f) (ad_ h.g q.g) (ad_ h.h q.h)).ok := by
                    intro z hz
                    simp only [St8.l, List.mem_cons, List.not_mem_nil, or_false] at hz
                    rcases hz with rfl | rfl | rfl | rfl | rfl | rfl | rfl | rfl <;> exact ad_range _ _
                  have hg3 := HJ.out.1
                  rw [addUp8_all] at hg3
                  have HF := Lib.hid (show Blk wr g3 103 .u32 (St8.mk (ad_ h.a q.a) (ad_ h.b q.b) (ad_ h.c q.c) (ad_ h.d q.d) (ad_ h.e q.e) (ad_ h.f q.f) (ad_ h.g q.g) (ad_ h.h q.h)).l ∧ Below w.heap.size w wr ∧ OwnLW w1 wr (.slice (some ad) K c2) (rowsF (w32 P) (16 * K) K) ∧ Blk wr gk 103 .u32 consts ∧ blocks2 (K - (k + 1)) ⟨ad_ h.a q.a, ad_ h.b q.b, ad_ h.c q.c, ad_ h.d q.d, ad_ h.e q.e, ad_ h.f q.f, ad_ h.g q.g, ad_ h.h q.h⟩ (P.drop (64 * (k + 1))) = T ∧ (St8.mk (ad_ h.a q.a) (ad_ h.b q.b) (ad_ h.c q.c) (ad_ h.d q.d) (ad_ h.e q.e) (ad_ h.f q.f) (ad_ h.g q.g) (ad_ h.h q.h)).ok from
                    ⟨hg3, HJ.out.2.2.1, HJ.out.2.2.2.1, HJ.out.2.2.2.2, hT2, hok⟩)
                  have hwk : IntKind.i64.wrap ((k : Int) + 1) = k + 1 := by have := HM.out.2.2.2.2.1; have := HR0.out.2.2.2.2; rw [IntKind.wrap_i64]; omega
                  clear hbl hk' hT2 hok hg3 HJ hi
                  go_wp2
                  go_roundw
                  case rel => exact ⟨k + 1, _, by go_num, by have := HR0.out.2.2.2.2; omega, HF⟩
                  case measure => have := HR0.out.2.2.2.2; simp [intOf]; omega
    · obtain rfl : k = K := by omega
      have hT0 : h = T := by
        have := H.out.2.2.2.2.1
        rw [Nat.sub_self] at this
        exact this
      have hrh : RdW wr (some ad3) 8 h.l := by rw [HS.out.2.2.1]; exact H.out.1.rowW (by simp [St8.l])
      have HRH := Lib.hid hrh
      clear hrh
      go_wp2_with fail
      refine (bytes_calls _ _ _ _ HRH.out (by decide)).mono ?_
      rintro e w5 ⟨v5, rfl, ho5, hb5⟩
      have hsha : beAll h.l = sha2 l0 := by
        have e1 : sha2 l0 = (blocks2 ((padSha l0).length / 64) init2 (padSha l0)).l.flatMap be4 := by
          unfold sha2 init2
          simp [St8.l]
        rw [e1, ← HM.out.2.2.1, HM.out.2.1, Nat.mul_div_cancel_left _ (by decide : 0 < 64), HM.out.2.2.2.1, hT0]
        rfl
      have HO5 := Lib.hid (show Own w w5 v5 (sha2 l0) ∧ Below w.heap.size w w5 from ⟨(Own.lower ho5 H.out.2.1.size).cast hsha, below_step H.out.2.1 hb5⟩)
      clear ho5 hb5 hsha
      go_wp2
      go_ret
      exact ⟨_, rfl, HO5.out.1, HO5.out.2⟩
end Go.Proofs.YtcgenmogedndjaaDoor
