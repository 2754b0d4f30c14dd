/- blotterref07.Sha1: its walk. -/
import Derived.Test.YtfhnchabifklnaaDoorBlocks
import Derived.Test.YtfhnchabifklnaaDoorDigRef
import Derived.Test.YtfhnchabifklnaaDoorBitEq
import Derived.Test.YtfhnchabifklnaaDoorQuietTail3
namespace Go.Proofs.YtfhnchabifklnaaDoor
open Go.RowKit Go.Proofs.YtfhnchabifklnaaDoorW.PrintWords
theorem Blk.rowW {w : World} {g t : Nat} {l : List Int} (h : Blk w g t .u32 l) (hm : l.length ≤ 9223372036854775807) : RdW w (some ⟨g, 0, none⟩) l.length l := by
  refine Kd.C_of_reads (d := (0 : Int)) (h1 := fun _ => rfl) ⟨rfl, hm, fun _ => ⟨_, rfl, fun j hj => ?_⟩⟩
  rw [add_plain]
  have := h.cell j hj
  rw [this]
  simp [rd, hj]
theorem litw_nil {w0 W : World} (hB : Below w0.heap.size w0 W) : OwnW w0 (W.alloc (.cells #[] 39)) (.slice (some ⟨W.heap.size, 0, none⟩) 0 0) [] := R_laid W _ _ .u32 [] hB.size (by simp)
section
variable {ops : Array Oper} {rest : List Oper} {o : Oper} {a : Act} {Q : Exit → Act → World → Prop} {w0 W : World} {v : Value} {l ys : List Int} {A : Option Addr} {m c : Nat} {s x : Operand}
theorem appw_row (hO : OwnW w0 W v l) (hR : RdW W A m ys) (hB : Below w0.heap.size w0 W) (hL : l.length + m ≤ 35184372088832)
    (hgd : o.guard = none) (hop : o.op = .call { callee := .builtin .append, args := #[s, x], argTypes := #[41, 41] }) (hv : a.eval s = v) (hx : a.eval x = .slice A m c)
    (K : ∀ v1 w1, OwnW w0 w1 v1 (l ++ ys) → Below w0.heap.size w0 w1 → W.grownBy w1 v.ownBlock → (v1.ownBlock = v.ownBlock ∨ ∃ b, v1.ownBlock = some b ∧ W.heap.size ≤ b) → wpList Tryd.prog ops Q rest (a.put o.dst v1) w1) : wpList Tryd.prog ops Q (o :: rest) a W :=
  Kd.R_append_rows (Kd.int .u32) (w0 := w0) w0.heap.size hgd s x 41 39 (.int .u32 0) 4 hop Tryd.underlying41 info_u32 rfl (by decide) (by omega) v l ys A m c (fun _ => True) (fun _ => False) hv hx hO hR (fun _ _ h => h) (fun _ h => h.elim) (fun _ _ => trivial) hB hB.size (by omega) K
end
theorem fk1_lt20 (t : Nat) (s : St5) (h : t < 20) (hs : s.ok) : fk1 t s = (xr (an s.b s.c) (an (no s.b) s.d), 1518500249) := by
  have hb := hs s.b (by simp [St5.l])
  have hc := hs s.c (by simp [St5.l])
  have hd := hs s.d (by simp [St5.l])
  unfold fk1
  rw [if_neg (by omega), if_neg (by omega), if_neg (by omega), ch_eq s.b s.c s.d hb.1 hb.2 hc.1 hc.2 hd.1 hd.2]
theorem fk1_lt40 (t : Nat) (s : St5) (h : t < 40) (h2 : ¬ t < 20) : fk1 t s = (xr (xr s.b s.c) s.d, 1859775393) := by
  unfold fk1
  rw [if_neg (by omega), if_neg (by omega), if_pos (by omega)]
theorem fk1_lt60 (t : Nat) (s : St5) (h : t < 60) (h2 : ¬ t < 40) (hs : s.ok) : fk1 t s = (xr (xr (an s.b s.c) (an s.b s.d)) (an s.c s.d), 2400959708) := by
  have hb := hs s.b (by simp [St5.l])
  have hc := hs s.c (by simp [St5.l])
  have hd := hs s.d (by simp [St5.l])
  unfold fk1
  rw [if_neg (by omega), if_pos (by omega), maj_eq s.b s.c s.d hb.1 hb.2 hc.1 hc.2 hd.1 hd.2]
theorem fk1_ge60 (t : Nat) (s : St5) (h2 : ¬ t < 60) : fk1 t s = (xr (xr s.b s.c) s.d, 3395469782) := by
  unfold fk1
  rw [if_pos (by omega)]
set_option maxRecDepth 20000 in
set_option maxHeartbeats 8000000 in
theorem Sha1Ref_calls {n : Nat} (A0 : Option Addr) (c0 : Nat) (l0 : List Int) (w : World) (hr0 : Rd w A0 n l0) (hb0 : Bytes l0) (hc0 : n ≤ c0) (hs : n ≤ 1099511627776) :
    Calls Tryd.prog 15 #[.slice A0 n c0] w fun e w' => ∃ v, e = .returned v ∧ Own w w' v (sha1 l0) ∧ Below w.heap.size w w' := by
  obtain ⟨g3, hg3⟩ : ∃ g3, g3 = w.heap.size := ⟨_, rfl⟩
  obtain ⟨W1, hW1⟩ : ∃ W1, W1 = w.alloc (.cells #[.int .u32 1732584193, .int .u32 4023233417, .int .u32 2562383102, .int .u32 271733878, .int .u32 3285377520] 39) := ⟨_, rfl⟩
  have hB1 : Below w.heap.size w W1 := by rw [hW1]; exact below_alloc (Below.refl _ _) _
  have hK3 : Blk W1 g3 39 .u32 init1.l := by rw [hW1, hg3]; exact Blk.new w 39 .u32 init1.l
  have HI := Lib.hid (show Rd W1 A0 n l0 ∧ Bytes l0 ∧ RdW W1 (some ⟨g3, 0, none⟩) 5 init1.l ∧ Below w.heap.size w W1 from ⟨Kd.C_below hr0 hB1, hb0, hK3.rowW (by decide), hB1⟩)
  have HS := Lib.hid (show g3 = w.heap.size ∧ W1 = w.alloc _ from ⟨hg3, hW1⟩)
  clear hr0 hb0 hB1 hK3 hg3 hW1
  go_enter Tryd.func15, Tryd.ntmps15
  go_wp2_with fail
  rw [← HS.out.1, ← HS.out.2]
  refine (blocks_calls A0 c0 l0 W1 HI.out.1 HI.out.2.1 hc0 hs).mono ?_
  rintro e w2 ⟨v2, rfl, ho2, hb2⟩
  obtain ⟨P, hP⟩ : ∃ P, P = padSha l0 := ⟨_, rfl⟩
  rw [← hP] at ho2
  obtain ⟨K, hK⟩ : ∃ K, K = P.length / 64 := ⟨_, rfl⟩
  have hPl : P.length = 64 * K := by have := padSha_mod l0; rw [hK, hP]; omega
  rw [← hK] at ho2
  obtain ⟨A2, c2, rfl, hc2, hr2⟩ := ho2.reads
  rw [rowsF_length] at hr2 hc2 ⊢
  obtain ⟨T, hT⟩ : ∃ T, blocks1 K init1 P = T := ⟨_, rfl⟩
  have HM := Lib.hid (show Bytes P ∧ P.length = 64 * K ∧ P = padSha l0 ∧ blocks1 K init1 P = T ∧ RdLW w2 A2 K (rowsF (w32 P) (16 * K) K) ∧ K ≤ 17179870000 from ⟨by rw [hP]; exact padSha_bytes l0 HI.out.2.1, hPl, hP, hT, hr2, by
    have := Kd.C_len HI.out.1
    have h1 := padSha_length l0
    rw [← hP] at h1
    unfold padZ at h1
    omega⟩)
  have HB := Lib.hid (show RdW w2 (some ⟨g3, 0, none⟩) 5 init1.l ∧ Below w.heap.size w w2 ∧ Below w2.heap.size w2 w2 ∧ blocks1 K init1 (P.drop (64 * 0)) = T ∧ init1.ok from ⟨Kd.C_below HI.out.2.2.1 hb2, below_step HI.out.2.2.2 hb2, Below.refl _ _, hT, by unfold St5.ok Ws init1 St5.l; decide⟩)
  clear hP hK hPl hT hr2 ho2 hb2
  go_wp2
  go_loopw [3, 21] (fun vh v wi => ∃ (k g : Nat) (h : St5), v = .int .i64 k ∧ k ≤ K ∧ vh = .slice (some ⟨g, 0, none⟩) 5 5 ∧ Hid (RdW wi (some ⟨g, 0, none⟩) 5 h.l ∧ Below w.heap.size w wi ∧ Below w2.heap.size w2 wi ∧ blocks1 (K - k) h (P.drop (64 * k)) = T ∧ h.ok)) (fun _ v _ => K - (intOf v).toNat)
  case atStart => exact ⟨0, g3, init1, rfl, by omega, rfl, HB⟩
  case round =>
    clear HB
    obtain ⟨k, g, h, rfl, hk, rfl, H⟩ := hrel
    by_cases hkK : k < K
    · have e1 : decide ((k : Int) < K) = true := decide_eq_true (by omega)
      have e1' : decide (k < K) = true := decide_eq_true hkK
      have kK : (k : Int) < K := by omega
      obtain ⟨ad, Ai, ci, rfl, hcell, hci, hrow⟩ := RdLW.at (Kd.C_below HM.out.2.2.2.2.1 H.out.2.2.1) k hkK
      rw [rowsF_getD _ _ _ _ hkK, rowF_block P K k hkK] at hcell hci hrow
      obtain ⟨B, hB⟩ : ∃ B, B = (P.drop (64 * k)).take 64 := ⟨_, rfl⟩
      rw [← hB] at hcell hci hrow
      have hBl : B.length = 64 := by rw [hB, List.length_take, List.length_drop, HM.out.2.1]; omega
      have hBb : Bytes B := fun x hx => HM.out.1 x (List.mem_of_mem_drop (List.mem_of_mem_take (hB ▸ hx)))
      have hwl : (w32 B).length = 16 := by rw [w32_length, hBl]
      rw [hwl] at hcell hci hrow
      obtain ⟨R0, hR0⟩ : ∃ R, R = w32 B := ⟨_, rfl⟩
      rw [← hR0] at hrow hwl
      have HR0 := Lib.hid (show R0.length = 16 ∧ Ws R0 ∧ R0 = w32 B ∧ B = (P.drop (64 * k)).take 64 ∧ k < K from ⟨hwl, by rw [hR0]; exact w32_Ws B hBb, hR0, hB, hkK⟩)
      obtain ⟨w3, hw3⟩ : ∃ w3, w3 = wr := ⟨_, rfl⟩
      rw [← hw3] at H hcell hrow ⊢
      have HLIT := Lib.hid (show OwnW w3 (w3.alloc (.cells #[] 39)) (.slice (some ⟨w3.heap.size, 0, none⟩) 0 0) [] from litw_nil (Below.refl _ _))
      have HROW := Lib.hid (show RdW (w3.alloc (.cells #[] 39)) Ai 16 R0 from Kd.C_below hrow (below_alloc (Below.refl _ _) _))
      clear hw3 hrow hwl hR0 hB hBl hBb hci
      go_wp2_with (at_builtin; refine appw_row HLIT.out HROW.out (below_alloc (Below.refl _ _) _) (by simp) rfl rfl rfl rfl ?_)
      intro v4 w4 ho4 hb4 _ _
      obtain ⟨A4, c4, rfl, _, _⟩ := (ho4.cast (List.nil_append R0)).reads
      rw [HR0.out.1] at ho4 ⊢
      have HO4 := Lib.hid (show OwnW w3 w4 (.slice A4 16 c4) (extW sch1 0 R0) ∧ Below w3.heap.size w3 w4 from ⟨ho4.cast (List.nil_append R0), hb4⟩)
      clear ho4 hb4 HLIT HROW hcell
      go_wp2
      go_loopw [6, 7] (fun v i wi => ∃ (j : Nat) (A : Option Addr) (c : Nat), j ≤ 64 ∧ i = .int .i64 ((16 + j : Nat) : Int) ∧ v = .slice A (16 + j) c ∧ Hid (OwnW w3 wi (.slice A (16 + j) c) (extW sch1 j R0) ∧ Below w3.heap.size w3 wi)) (fun _ i _ => 80 - (intOf i).toNat)
      case atStart => exact ⟨0, A4, c4, by omega, rfl, rfl, HO4⟩
      case round =>
        obtain ⟨j, A, c, hj, rfl, rfl, HO⟩ := hrel
        obtain ⟨l, hl⟩ : ∃ l, l = extW sch1 j R0 := ⟨_, rfl⟩
        have hll : l.length = 16 + j := by rw [hl, extW_length, HR0.out.1]
        have HLW := Lib.hid (show Ws l ∧ l = extW sch1 j R0 ∧ l.length = 16 + j from ⟨by rw [hl]; exact extW_Ws sch1 sch1_makes.1 j R0 HR0.out.2.1 (by rw [HR0.out.1]; omega), hl, hll⟩)
        rw [← hl] at HO
        obtain ⟨m, hm⟩ : ∃ m, m = 16 + j := ⟨_, rfl⟩
        have HMJ := Lib.hid hm
        rw [← hm] at HO hll ⊢
        by_cases hj64 : j < 64
        · have e2 : decide ((m : Int) < 80) = true := decide_eq_true (by omega)
          have e2' : decide (m < 80) = true := decide_eq_true (by omega)
          have hrl : RdW wr A m l := by have := (Kd.R_reads' HO.out.1).2.2; rwa [hll] at this
          obtain ⟨ad', rfl, hcell⟩ := RdW.cells hrl (by omega)
          have cell : ∀ q : Nat, q ≤ m → 1 ≤ q → wr.cell? (ad'.add (m - q)) = some (.int .u32 (rd l ((m : Int) - q))) := by
            intro q h1 h2
            have := hcell (m - q) (by omega)
            rwa [show ((m - q : Nat) : Int) = (m : Int) - q by omega] at this
          have x3 := cell 3 (by omega) (by omega)
          have x8 := cell 8 (by omega) (by omega)
          have x14 := cell 14 (by omega) (by omega)
          have x16 := cell 16 (by omega) (by omega)
          have HE := Lib.hid (show sch1 l = rotl (xr (xr (xr (rd l ((m : Int) - (3 : Nat))) (rd l ((m : Int) - (8 : Nat)))) (rd l ((m : Int) - (14 : Nat)))) (rd l ((m : Int) - (16 : Nat)))) 1 by unfold sch1; rw [hll]; rfl)
          obtain ⟨y3, e3⟩ : ∃ y, y = rd l ((m : Int) - (3 : Nat)) := ⟨_, rfl⟩
          obtain ⟨y8, e8⟩ : ∃ y, y = rd l ((m : Int) - (8 : Nat)) := ⟨_, rfl⟩
          obtain ⟨y14, e14⟩ : ∃ y, y = rd l ((m : Int) - (14 : Nat)) := ⟨_, rfl⟩
          obtain ⟨y16, e16⟩ : ∃ y, y = rd l ((m : Int) - (16 : Nat)) := ⟨_, rfl⟩
          rw [← e3, ← e8, ← e14, ← e16] at HE
          rw [← e3] at x3
          rw [← e8] at x8
          rw [← e14] at x14
          rw [← e16] at x16
          have hX := xr_range (xr (xr y3 y8) y14) y16
          obtain ⟨X, hXe⟩ : ∃ X, xr (xr (xr y3 y8) y14) y16 = X := ⟨_, rfl⟩
          rw [hXe] at hX HE
          have hX1 : bits .xor .u32 (bits .xor .u32 (bits .xor .u32 y3 y8) y14) y16 = X := hXe
          have HX := Lib.hid hX
          have w3' : IntKind.i64.wrap ((m : Int) - 3) = m - 3 := by rw [IntKind.wrap_i64]; omega
          have w8' : IntKind.i64.wrap ((m : Int) - 8) = m - 8 := by rw [IntKind.wrap_i64]; omega
          have w14' : IntKind.i64.wrap ((m : Int) - 14) = m - 14 := by rw [IntKind.wrap_i64]; omega
          have w16' : IntKind.i64.wrap ((m : Int) - 16) = m - 16 := by rw [IntKind.wrap_i64]; omega
          have t3 : ((m : Int) - 3).toNat = m - 3 := by omega
          have t8 : ((m : Int) - 8).toNat = m - 8 := by omega
          have t14 : ((m : Int) - 14).toNat = m - 14 := by omega
          have t16 : ((m : Int) - 16).toNat = m - 16 := by omega
          have l3 : (0 : Int) ≤ (m : Int) - 3 := by omega
          have l8 : (0 : Int) ≤ (m : Int) - 8 := by omega
          have l14 : (0 : Int) ≤ (m : Int) - 14 := by omega
          have l16 : (0 : Int) ≤ (m : Int) - 16 := by omega
          have g3' : (3 : Int) ≤ m := by omega
          have g8' : (8 : Int) ≤ m := by omega
          have g14' : (14 : Int) ≤ m := by omega
          have g16' : (16 : Int) ≤ m := by omega
          have u3' : (m : Int) - 3 < m := by omega
          have u8' : (m : Int) - 8 < m := by omega
          have u14' : (m : Int) - 14 < m := by omega
          have u16' : (m : Int) - 16 < m := by omega
          have hap : l.length + 1 ≤ 35184372088832 := by omega
          have HNX := Lib.hid (show l ++ [rotl X 1] = extW sch1 (j + 1) R0 ∧ (extW sch1 (j + 1) R0).length = m + 1 ∧ j < 64 from ⟨by rw [← HE.out, extW_snoc, ← HLW.out.2.1], by rw [extW_length, HR0.out.1]; omega, hj64⟩)
          clear hcell cell e3 e8 e14 e16 hX hXe hrl hl hll hm hj hj64
          go_upto_region 9 with (fail)
          refine wp_region_any (by kernel_rfl) ?_
          refine wpAny_take (i := 0) (v := ?_) rfl (by kernel_rfl) (by kernel_rfl) (by kernel_rfl) (fun _ _ _ h => h) (Or.inl ⟨by rfl, ?_⟩) ?_
          rotate_left
          · intro w
            go_simp
            with_reducible rfl
          refine quiet_tail_from1 25 27 rfl (by decide) (by decide) (by kernel_rfl) (by kernel_rfl) (by kernel_rfl) ?_
          simp only [List.take_succ_cons, List.take_zero, List.drop_succ_cons, List.drop_zero]
          repeat (quiet_step (first | (go_at_call 31; refine (right_calls X 31 _ HX.out.1 HX.out.2 (by decide)).mono ?_; rintro e w' ⟨rfl, ⟨nd, rfl⟩⟩; exact ⟨rfl, _, World.drewN_drewN _ _ _⟩)))
          refine wpQuiet_nil ?_
          intro _ hw'
          obtain ⟨nq, hw''⟩ := hw'
          subst hw''
          have HO5 := Lib.hid (show OwnW w3 (wr.drewN nq) (.slice (some ad') m c) l ∧ Below w3.heap.size w3 (wr.drewN nq) from ⟨HO.out.1.below (below_drewN (Below.refl wr.heap.size wr) nq), below_drewN HO.out.2 nq⟩)
          generalize wr.drewN nq = W5 at HO5 ⊢
          clear x3 x8 x14 x16 w3' w8' w14' w16' t3 t8 t14 t16 l3 l8 l14 l16 u3' u8' u14' u16' g3' g8' g14' g16' hX1 HO
          go_wp2_with (at_builtin; refine appw_one HO5.out.1 HO5.out.2 hap rfl rfl rfl rfl ?_)
          intro v6 w6 ho6 hb6 _ _
          have ho6' := ho6.cast HNX.out.1
          obtain ⟨A6, c6, rfl, _, _⟩ := ho6'.reads
          rw [HNX.out.2.1] at ho6' ⊢
          have HO6 := Lib.hid (show OwnW w3 w6 (.slice A6 (16 + (j + 1)) c6) (extW sch1 (j + 1) R0) ∧ Below w3.heap.size w3 w6 from ⟨by rw [show 16 + (j + 1) = m + 1 by have := HMJ.out; omega]; exact ho6', hb6⟩)
          have hw1 : IntKind.i64.wrap ((m : Int) + 1) = m + 1 := by have := HMJ.out; have := HNX.out; rw [IntKind.wrap_i64]; omega
          clear ho6 ho6' hb6
          go_wp2
          go_roundw
          case rel => exact ⟨j + 1, A6, c6, by have := HNX.out; omega, by have := HMJ.out; go_num, by have := HMJ.out; go_num, HO6⟩
          case measure => have := HMJ.out; have := HNX.out; simp [intOf]; omega
        · obtain rfl : j = 64 := by omega
          have hm80 : m = 80 := by omega
          subst hm80
          obtain ⟨ha, hb, hc, hd, he⟩ := h
          have hwr : RdW wr A 80 l := by have := (Kd.R_reads' HO.out.1).2.2; rwa [hll] at this
          have hrh : RdW wr (some ⟨g, 0, none⟩) 5 [ha, hb, hc, hd, he] := Kd.C_below H.out.1 HO.out.2
          obtain ⟨ad5, hgg, hc5⟩ := RdW.cells hrh (by decide)
          injection hgg with hgg
          subst hgg
          have x0 := hc5 0 (by decide)
          have x1 := hc5 1 (by decide)
          have x2 := hc5 2 (by decide)
          have x3 := hc5 3 (by decide)
          have x4 := hc5 4 (by decide)
          simp only [rd5_0, rd5_1, rd5_2, rd5_3, rd5_4, add_plain] at x0 x1 x2 x3 x4
          obtain ⟨S, hS⟩ : ∃ S, rounds1 l 0 ⟨ha, hb, hc, hd, he⟩ = S := ⟨_, rfl⟩
          have HQ := Lib.hid (show RdW wr A 80 l ∧ RdW wr (some ⟨g, 0, none⟩) 5 [ha, hb, hc, hd, he] ∧ Below w3.heap.size w3 wr ∧ rounds1 l 0 ⟨ha, hb, hc, hd, he⟩ = S ∧ l.length = 80 ∧ l = extW sch1 64 (w32 ((P.drop (64 * k)).take 64)) from ⟨hwr, hrh, HO.out.2, hS, hll, by rw [HLW.out.2.1, HR0.out.2.2.1, HR0.out.2.2.2.1]⟩)
          have HR := Lib.hid (show rounds1 (l.drop 0) 0 ⟨ha, hb, hc, hd, he⟩ = S ∧ (St5.mk ha hb hc hd he).ok ∧ Below wr.heap.size wr wr from ⟨hS, H.out.2.2.2.2, Below.refl _ _⟩)
          clear hwr hrh hc5 hS hll hl hm hj HO HMJ
          go_wp2_with fail
          go_quiet (fail)
          have HQd := Lib.hid (show RdW (wr.drewN nq) A 80 l ∧ RdW (wr.drewN nq) (some ⟨g, 0, none⟩) 5 [ha, hb, hc, hd, he] ∧ Below w3.heap.size w3 (wr.drewN nq) from ⟨HQ.out.1, HQ.out.2.1, below_drewN HQ.out.2.2.1 nq⟩)
          generalize wr.drewN nq = W7 at HQd ⊢
          clear x0 x1 x2 x3 x4 HR
          have HR := Lib.hid (show rounds1 (l.drop 0) 0 ⟨ha, hb, hc, hd, he⟩ = S ∧ (St5.mk ha hb hc hd he).ok ∧ Below W7.heap.size W7 W7 from ⟨HQ.out.2.2.2.1, H.out.2.2.2.2, Below.refl _ _⟩)
          go_wp2_with fail
          go_loopw [8, 9, 10, 11, 12, 74] (fun va vb vc vd ve v wi => ∃ (t : Nat) (q : St5), v = .int .i64 t ∧ t ≤ 80 ∧ va = .int .u32 q.a ∧ vb = .int .u32 q.b ∧ vc = .int .u32 q.c ∧ vd = .int .u32 q.d ∧ ve = .int .u32 q.e ∧ Hid (rounds1 (l.drop t) t q = S ∧ q.ok ∧ Below W7.heap.size W7 wi)) (fun _ _ _ _ _ v _ => 80 - (intOf v).toNat)
          case atStart => exact ⟨0, ⟨ha, hb, hc, hd, he⟩, rfl, by omega, rfl, rfl, rfl, rfl, rfl, HR⟩
          case round =>
            clear HR
            obtain ⟨t, q, rfl, ht, rfl, rfl, rfl, rfl, rfl, HR⟩ := hrel
            by_cases ht80 : t < 80
            · have d1 : decide ((t : Int) < 80) = true := decide_eq_true (by omega)
              have d1' : decide (t < 80) = true := decide_eq_true ht80
              have t80 : (t : Int) < 80 := by omega
              obtain ⟨qa, qb, qc, qd, qe⟩ := q
              obtain ⟨adl, rfl, hcell⟩ := RdW.cells (Kd.C_below HQd.out.1 HR.out.2.2) (by decide)
              have hx := hcell t ht80
              obtain ⟨x, hxe⟩ : ∃ x, x = rd l (t : Int) := ⟨_, rfl⟩
              rw [← hxe] at hx
              have hrg : ∀ z, z ∈ ([qa, qb, qc, qd, qe] : List Int) → 0 ≤ z ∧ z < 4294967296 := HR.out.2.1
              have hsg : IntKind.u32.signed = false := rfl
              have hno : bits .xor .u32 IntKind.u32.max qb = no qb := no_eq qb (hrg qb (by simp)).1 (hrg qb (by simp)).2
              have HQA := Lib.hid (hrg qa (by simp))
              have HQB := Lib.hid (hrg qb (by simp))
              have HXE := Lib.hid hxe
              have HT := Lib.hid (show t < 80 from ht80)
              clear hxe hcell hrg ht
              go_upto_if 78 with (fail)
              go_cut [14, 15] (fun f kk wc => f = .int .u32 (fk1 t ⟨qa, qb, qc, qd, qe⟩).1 ∧ kk = .int .u32 (fk1 t ⟨qa, qb, qc, qd, qe⟩).2 ∧ wc = wr)
              case first =>
                by_cases h20 : t < 20
                · have d20 : decide ((t : Int) < 20) = true := decide_eq_true (by omega)
                  have d20' : decide (t < 20) = true := decide_eq_true h20
                  have hfk := fk1_lt20 t ⟨qa, qb, qc, qd, qe⟩ h20 HR.out.2.1
                  have HFK := Lib.hid hfk
                  clear hfk
                  go_wp2
                  go_meet
                  case rel => exact ⟨by rw [HFK.out]; rfl, by rw [HFK.out], rfl⟩
                · have d20 : decide ((t : Int) < 20) = false := decide_eq_false (by omega)
                  have d20' : decide (t < 20) = false := decide_eq_false h20
                  by_cases h40 : t < 40
                  · have d40 : decide ((t : Int) < 40) = true := decide_eq_true (by omega)
                    have d40' : decide (t < 40) = true := decide_eq_true h40
                    have HFK := Lib.hid (fk1_lt40 t ⟨qa, qb, qc, qd, qe⟩ h40 h20)
                    go_wp2
                    go_meet
                    case rel => exact ⟨by rw [HFK.out]; rfl, by rw [HFK.out], rfl⟩
                  · have d40 : decide ((t : Int) < 40) = false := decide_eq_false (by omega)
                    have d40' : decide (t < 40) = false := decide_eq_false h40
                    by_cases h60 : t < 60
                    · have d60 : decide ((t : Int) < 60) = true := decide_eq_true (by omega)
                      have d60' : decide (t < 60) = true := decide_eq_true h60
                      have HFK := Lib.hid (fk1_lt60 t ⟨qa, qb, qc, qd, qe⟩ h60 h40 HR.out.2.1)
                      go_wp2
                      go_meet
                      case rel => exact ⟨by rw [HFK.out]; rfl, by rw [HFK.out], rfl⟩
                    · have d60 : decide ((t : Int) < 60) = false := decide_eq_false (by omega)
                      have d60' : decide (t < 60) = false := decide_eq_false h60
                      have HFK := Lib.hid (fk1_ge60 t ⟨qa, qb, qc, qd, qe⟩ h60)
                      go_wp2
                      go_meet
                      case rel => exact ⟨by rw [HFK.out]; rfl, by rw [HFK.out], rfl⟩
              case rest =>
                obtain ⟨rfl, rfl, rfl⟩ := hcut
                obtain ⟨F, hF⟩ : ∃ F, F = (fk1 t ⟨qa, qb, qc, qd, qe⟩).1 := ⟨_, rfl⟩
                obtain ⟨Z, hZ⟩ : ∃ Z, Z = (fk1 t ⟨qa, qb, qc, qd, qe⟩).2 := ⟨_, rfl⟩
                obtain ⟨y1, e1⟩ : ∃ y, ad_ (rotl qa 5) F = y := ⟨_, rfl⟩
                obtain ⟨y2, e2⟩ : ∃ y, ad_ y1 qe = y := ⟨_, rfl⟩
                obtain ⟨y3, e3⟩ : ∃ y, ad_ y2 Z = y := ⟨_, rfl⟩
                obtain ⟨y4, e4⟩ : ∃ y, ad_ y3 x = y := ⟨_, rfl⟩
                have HE := Lib.hid (show round1 ⟨qa, qb, qc, qd, qe⟩ t x = ⟨y4, qa, rotl qb 30, qc, qd⟩ by rw [← e4, ← e3, ← e2, ← e1, hF, hZ]; rfl)
                have wr1 : IntKind.u32.wrap (rotl qa 5 + F) = y1 := by rw [IntKind.wrap_u32]; exact e1
                have wr2 : IntKind.u32.wrap (y1 + qe) = y2 := by rw [IntKind.wrap_u32]; exact e2
                have wr3 : IntKind.u32.wrap (y2 + Z) = y3 := by rw [IntKind.wrap_u32]; exact e3
                have wr4 : IntKind.u32.wrap (y3 + x) = y4 := by rw [IntKind.wrap_u32]; exact e4
                have HY4 := Lib.hid e4
                rw [← hF, ← hZ]
                clear e1 e2 e3 e4 hF hZ hno hsg
                have hr27 := fun W => right_calls qa 27 W HQA.out.1 HQA.out.2 (by decide)
                rw [show 32 - 27 = 5 from rfl] at hr27
                have HR27 := Lib.hid hr27
                clear hr27
                go_wp2_with fail
                go_quiet (first | (go_at_call 31; refine (HR27.out _).mono ?_; rintro e w' ⟨rfl, ⟨nd, rfl⟩⟩; exact ⟨rfl, _, World.drewN_drewN _ _ _⟩))
                have HBq := Lib.hid (below_drewN HR.out.2.2 nq)
                generalize wc.drewN nq = W8 at HBq ⊢
                clear hx wr1 wr2 wr3 wr4
                go_wp2_with (go_at_call 31; refine (right_calls qb 2 _ HQB.out.1 HQB.out.2 (by decide)).mono ?_; rintro e w9 ⟨rfl, hd9⟩; have HB9 := Lib.hid (HBq.out.trans (hd9.below.mono (by have := HBq.out.size; omega))); clear hd9)
                have HN := Lib.hid (show rounds1 (l.drop (t + 1)) (t + 1) ⟨y4, qa, rotl qb 30, qc, qd⟩ = S ∧ (St5.mk y4 qa (rotl qb 30) qc qd).ok from ⟨by
                    have h1 := rounds1_step l t (by rw [HQ.out.2.2.2.2.1]; exact HT.out) ⟨qa, qb, qc, qd, qe⟩
                    rw [HR.out.1, ← HXE.out, HE.out] at h1
                    exact h1.symm, by
                    have hok := HR.out.2.1
                    intro z hz
                    simp only [St5.l, List.mem_cons, List.not_mem_nil, or_false] at hz
                    rcases hz with rfl | rfl | rfl | rfl | rfl
                    · rw [← HY4.out]; exact ad_range _ _
                    · exact hok _ (by simp [St5.l])
                    · exact rotl_range qb HQB.out.1 HQB.out.2 30 (by omega)
                    · exact hok _ (by simp [St5.l])
                    · exact hok _ (by simp [St5.l])⟩)
                refine ⟨⟨_, _, _, _, _, _, _, _, _, _, _, _, _, _, _, _, _, _, _, _, _, _, _, _, _, _, _, _, _, _, _, _, _, _, _, _, _, _, _, _, _, _, _, _, _, _, _, _, _, _, _, _, _, _, _, _, _, _, _, _, _, _, _, _, _, _, _, ?rel, rfl⟩, ?measure⟩
                case rel => exact ⟨t + 1, ⟨y4, qa, rotl qb 30, qc, qd⟩, by go_num, by have := HT.out; omega, rfl, rfl, rfl, rfl, rfl, Lib.hid ⟨HN.out.1, HN.out.2, HB9.out⟩⟩
                case measure => have := HT.out; simp [intOf]; omega
            · obtain rfl : t = 80 := by omega
              obtain ⟨qa, qb, qc, qd, qe⟩ := q
              have hqS : (St5.mk qa qb qc qd qe) = S := by have := HR.out.1; rw [List.drop_of_length_le (by rw [HQ.out.2.2.2.2.1]; exact Nat.le_refl _)] at this; exact this
              obtain ⟨a0, e0⟩ : ∃ y, ad_ ha qa = y := ⟨_, rfl⟩
              obtain ⟨a1, e1⟩ : ∃ y, ad_ hb qb = y := ⟨_, rfl⟩
              obtain ⟨a2, e2⟩ : ∃ y, ad_ hc qc = y := ⟨_, rfl⟩
              obtain ⟨a3, e3⟩ : ∃ y, ad_ hd qd = y := ⟨_, rfl⟩
              obtain ⟨a4, e4⟩ : ∃ y, ad_ he qe = y := ⟨_, rfl⟩
              have hbl : block1 ⟨ha, hb, hc, hd, he⟩ ((P.drop (64 * k)).take 64) = ⟨a0, a1, a2, a3, a4⟩ := by
                unfold block1
                rw [← HQ.out.2.2.2.2.2, HQ.out.2.2.2.1, ← hqS, ← e0, ← e1, ← e2, ← e3, ← e4]
                rfl
              obtain ⟨k', hk'⟩ : ∃ k', K - k = k' + 1 := ⟨K - k - 1, by have := HR0.out.2.2.2.2; omega⟩
              have hT2 : blocks1 (K - (k + 1)) ⟨a0, a1, a2, a3, a4⟩ (P.drop (64 * (k + 1))) = T := by
                have := H.out.2.2.2.1
                rw [hk', blocks1, List.drop_drop, hbl] at this
                rw [show K - (k + 1) = k' by omega]
                exact this
              have hok : (St5.mk a0 a1 a2 a3 a4).ok := by
                intro z hz
                simp only [St5.l, List.mem_cons, List.not_mem_nil, or_false] at hz
                rcases hz with rfl | rfl | rfl | rfl | rfl
                · rw [← e0]; exact ad_range _ _
                · rw [← e1]; exact ad_range _ _
                · rw [← e2]; exact ad_range _ _
                · rw [← e3]; exact ad_range _ _
                · rw [← e4]; exact ad_range _ _
              have HN := Lib.hid (And.intro hT2 hok)
              have wr0 : IntKind.u32.wrap (ha + qa) = a0 := by rw [IntKind.wrap_u32]; exact e0
              have wr1 : IntKind.u32.wrap (hb + qb) = a1 := by rw [IntKind.wrap_u32]; exact e1
              have wr2 : IntKind.u32.wrap (hc + qc) = a2 := by rw [IntKind.wrap_u32]; exact e2
              have wr3 : IntKind.u32.wrap (hd + qd) = a3 := by rw [IntKind.wrap_u32]; exact e3
              have wr4 : IntKind.u32.wrap (he + qe) = a4 := by rw [IntKind.wrap_u32]; exact e4
              have hrh : RdW wr (some ⟨g, 0, none⟩) 5 [ha, hb, hc, hd, he] := Kd.C_below HQd.out.2.1 HR.out.2.2
              obtain ⟨ad5, hgg, hc5⟩ := RdW.cells hrh (by decide)
              injection hgg with hgg
              subst hgg
              have x0 := hc5 0 (by decide)
              have x1 := hc5 1 (by decide)
              have x2 := hc5 2 (by decide)
              have x3 := hc5 3 (by decide)
              have x4 := hc5 4 (by decide)
              simp only [rd5_0, rd5_1, rd5_2, rd5_3, rd5_4, add_plain] at x0 x1 x2 x3 x4
              have HBW := Lib.hid (show Below w3.heap.size w3 wr from HQd.out.2.2.trans (HR.out.2.2.mono (by have := HQd.out.2.2.size; omega)))
              clear e0 e1 e2 e3 e4 hbl hk' hT2 hok hqS hrh hc5 HR ht
              go_upto_region 29 with (fail)
              refine wp_region_quiet_tailD_at 25 (by kernel_rfl) (by kernel_rfl) (by kernel_rfl) (by kernel_rfl) ?_
              simp only [List.take_succ_cons, List.take_zero, List.drop_succ_cons, List.drop_zero]
              repeat (quiet_step (fail))
              refine wpQuiet_nil ?_
              intro _ hw'
              obtain ⟨nq, hw''⟩ := hw'
              subst hw''
              have hbq := below_drewN HBW.out nq
              generalize wr.drewN nq = W9 at hbq ⊢
              obtain ⟨g9, hg9⟩ : ∃ g9, g9 = W9.heap.size := ⟨_, rfl⟩
              obtain ⟨W10, hW10⟩ : ∃ W10, W10 = W9.alloc (.cells #[.int .u32 a0, .int .u32 a1, .int .u32 a2, .int .u32 a3, .int .u32 a4] 39) := ⟨_, rfl⟩
              have hK9 : Blk W10 g9 39 .u32 (St5.mk a0 a1 a2 a3 a4).l := by rw [hW10, hg9]; exact Blk.new W9 39 .u32 [a0, a1, a2, a3, a4]
              have hb10 : Below w3.heap.size w3 W10 := by rw [hW10]; exact below_alloc hbq _
              have HF := Lib.hid (show RdW W10 (some ⟨g9, 0, none⟩) 5 (St5.mk a0 a1 a2 a3 a4).l ∧ Below w.heap.size w W10 ∧ Below w2.heap.size w2 W10 ∧ blocks1 (K - (k + 1)) ⟨a0, a1, a2, a3, a4⟩ (P.drop (64 * (k + 1))) = T ∧ (St5.mk a0 a1 a2 a3 a4).ok from ⟨hK9.rowW (by simp [St5.l]), below_step H.out.2.1 hb10, below_step H.out.2.2.1 hb10, HN.out.1, HN.out.2⟩)
              have HSS := Lib.hid (show g9 = W9.heap.size ∧ W10 = W9.alloc _ from ⟨hg9, hW10⟩)
              clear hK9 hb10 hbq hg9 hW10 x0 x1 x2 x3 x4 wr0 wr1 wr2 wr3 wr4
              have hwk : IntKind.i64.wrap ((k : Int) + 1) = k + 1 := by have := HM.out.2.2.2.2.2; have := HR0.out.2.2.2.2; rw [IntKind.wrap_i64]; omega
              go_wp2
              rw [← HSS.out.1, ← HSS.out.2]
              go_roundw
              case rel => exact ⟨k + 1, g9, ⟨a0, a1, a2, a3, a4⟩, by go_num, by have := HR0.out.2.2.2.2; omega, rfl, HF⟩
              case measure => have := HR0.out.2.2.2.2; simp [intOf]; omega
    · obtain rfl : k = K := by omega
      have hT0 : h = T := by
        have := H.out.2.2.2.1
        rw [Nat.sub_self] at this
        exact this
      go_wp2_with fail
      refine (bytes_calls _ _ _ _ H.out.1 (by decide)).mono ?_
      rintro e w5 ⟨v5, rfl, ho5, hb5⟩
      have hsha : beAll h.l = sha1 l0 := by
        have e1 : sha1 l0 = (blocks1 ((padSha l0).length / 64) init1 (padSha l0)).l.flatMap be4 := by
          unfold sha1 init1
          simp [St5.l]
        rw [e1, ← HM.out.2.2.1, HM.out.2.1, Nat.mul_div_cancel_left _ (by decide : 0 < 64), HM.out.2.2.2.1, hT0]
        rfl
      have HO5 := Lib.hid (show Own w w5 v5 (sha1 l0) ∧ Below w.heap.size w w5 from ⟨(Own.lower ho5 H.out.2.1.size).cast hsha, below_step H.out.2.1 hb5⟩)
      clear ho5 hb5 hsha
      go_wp2
      go_ret
      exact ⟨_, rfl, HO5.out.1, HO5.out.2⟩
end Go.Proofs.YtfhnchabifklnaaDoor
