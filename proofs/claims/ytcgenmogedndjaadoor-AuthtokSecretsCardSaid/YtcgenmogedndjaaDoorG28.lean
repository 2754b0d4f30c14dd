/- The texts UnspellRef in one. -/
import Derived.Test.YtcgenmogedndjaaDoorG12
import Derived.Test.YtcgenmogedndjaaDoorG26
namespace Go.Proofs.YtcgenmogedndjaaDoor
open Go.RowKit Go.Proofs.YtcgenmogedndjaaDoorW.PrintWords
theorem grp8_step (P : List Int) (s : Nat) (h : s + 8 ≤ P.length) : grp8 (P.drop s) = vf 0 ((P.drop s).take 8) :: grp8 (P.drop (s + 8)) := by
  rw [drop_cons P s (by omega), drop_cons P (s + 1) (by omega), drop_cons P (s + 2) (by omega), drop_cons P (s + 3) (by omega), drop_cons P (s + 4) (by omega), drop_cons P (s + 5) (by omega), drop_cons P (s + 6) (by omega), drop_cons P (s + 7) (by omega)]
  rfl
theorem grp8_short : ∀ (l : List Int), l.length < 8 → grp8 l = []
  | [], _ | [_], _ | [_, _], _ | [_, _, _], _ | [_, _, _, _], _ | [_, _, _, _, _], _ | [_, _, _, _, _, _], _ | [_, _, _, _, _, _, _], _ => rfl
  | _ :: _ :: _ :: _ :: _ :: _ :: _ :: _ :: _, h => by simp at h; omega
theorem grp8_length : ∀ (l : List Int), (grp8 l).length = l.length / 8
  | [] | [_] | [_, _] | [_, _, _] | [_, _, _, _] | [_, _, _, _, _] | [_, _, _, _, _, _] | [_, _, _, _, _, _, _] => by simp [grp8]
  | _ :: _ :: _ :: _ :: _ :: _ :: _ :: _ :: t => by
    simp only [grp8, List.length_cons, grp8_length t]
    omega
theorem letter_is (c : Int) (c0 : 0 ≤ c) (c1 : c < 256) (j : Int) (j0 : 0 ≤ j) (j1 : j < 64) : alpha j = c ↔ sixOf c = j := by
  constructor
  · rintro rfl
    exact (sixOf_alpha j j0 j1).1
  · rintro rfl
    exact (alpha_sixOf c c0 c1 j0).1
set_option maxRecDepth 20000 in
set_option maxHeartbeats 4000000 in
theorem UnspellRef_calls (s : ByteArray) (w : World) (hs : s.size ≤ 1099511627776) :
    Calls Tryd.prog 39 #[.string s] w fun e w' => ∃ v0_ : Value, e = .returned (.tuple #[v0_, .bool (unRun (bytesOf s) 0 0 []).isSome]) ∧ Own w w' v0_ ((unRun (bytesOf s) 0 0 []).getD []) ∧ Below w.heap.size w w' := by
  have HREF := Lib.hid (unRun_ref (bytesOf s) (Bytes_bytesOf s))
  have HBAD := Lib.hid (fun c hc h => unRun_bad (bytesOf s) c hc h)
  obtain ⟨R, hR⟩ : ∃ R, R = unRun (bytesOf s) 0 0 [] := ⟨_, rfl⟩
  rw [← hR] at HREF HBAD ⊢
  have HY := Lib.hid (Bytes_bytesOf s)
  have HL := Lib.hid (bytesOf_length s)
  clear hR
  go_enter Tryd.func39, Tryd.ntmps39
  go_wp2
  go_loopw [4, 15] (fun v i wr => ∃ k : Nat, k ≤ s.size ∧ i = .int .i64 k ∧ Hid (OwnI w wr v (bits6 ((bytesOf s).take k))) ∧ Hid (Below w.heap.size w wr)) (fun _ i _ => s.size - (intOf i).toNat)
  case atStart => exact ⟨0, by omega, rfl, Lib.hid (OwnI.nil w w), Lib.hid (Below.refl _ _)⟩
  case round =>
    obtain ⟨k, hk, rfl, HO0, HB0⟩ := hrel
    by_cases hkn : k < s.size
    · have dkn : decide ((k : Int) < s.size) = true := decide_eq_true (by omega)
      have hsk := bt_at s k hkn
      obtain ⟨c, hc⟩ : ∃ c, c = bt s k := ⟨_, rfl⟩
      have hcr : c = rd (bytesOf s) k := by rw [hc, rd_bytesOf]
      obtain ⟨c0, c1⟩ := bytes_rd HY.out k (by rw [HL.out]; exact hkn)
      rw [← hcr] at c0 c1
      rw [← hc] at hsk
      simp only [Int.toNat_natCast] at hsk
      have HSN := Lib.hid (show bits6 ((bytesOf s).take (k + 1)) = bits6 ((bytesOf s).take k) ++ bitsN 6 (sixOf c) by rw [hcr]; exact bits6_snoc _ k (by rw [HL.out]; exact hkn))
      have HIN := Lib.hid (show c ∈ bytesOf s by rw [hcr, rd_get _ k (by rw [HL.out]; exact hkn)]; exact List.getElem_mem _)
      have HIS := Lib.hid (letter_is c c0 c1)
      have hs64 : sixOf c < 64 := by
        by_cases h6 : 0 ≤ sixOf c
        · exact (alpha_sixOf c c0 c1 h6).2
        · omega
      have HSK := Lib.hid hsk
      obtain ⟨y, hy⟩ : ∃ y, y = sixOf c := ⟨_, rfl⟩
      rw [← hy] at HSN HIS hs64
      have HYC := Lib.hid hy
      clear hc hcr hy hsk
      go_wp2
      go_loopw [6, 18] (fun nv i wr => ∃ (j : Nat) (m : Int), j ≤ 64 ∧ i = .int .i64 j ∧ nv = .int .i64 m ∧ ((0 ≤ y ∧ y < j ∧ m = y) ∨ (¬ (0 ≤ y ∧ y < j) ∧ m = -1)) ∧ Hid (OwnI w wr u4 (bits6 ((bytesOf s).take k))) ∧ Hid (Below w.heap.size w wr)) (fun _ i _ => 64 - (intOf i).toNat)
      case atStart => exact ⟨0, -1, by omega, rfl, rfl, by omega, HO0, HB0⟩
      case round =>
        obtain ⟨j, m, hj, rfl, rfl, hm, HO, HB⟩ := hrel
        by_cases hj64 : j < 64
        · have dj : decide ((j : Int) < 64) = true := decide_eq_true (by omega)
          have hsk := HSK.out
          by_cases he : y = j
          · have ha : alpha j = c := (HIS.out j (by omega) (by omega)).2 he
            go_upto_region 9 with (fail)
            go_region_with (go_at_call 58; refine (letter_calls j _ (by omega) (by omega)).mono ?_; rintro e w4 ⟨rfl, hd4⟩; have HB4 := Lib.hid (below_step (below_drew HB.out) hd4.below); have HO4 := Lib.hid (OwnI.below (HO.out.below (below_drew (Below.refl _ _))) hd4.below); rw [ha]; clear hd4)
            all_goals
              clear ha
              go_wp2
              go_roundw
              case rel => exact ⟨j + 1, j, by omega, by go_num, rfl, by omega, HO4, HB4⟩
              case measure => simp [intOf]; omega
          · have ha : alpha j ≠ c := fun h => he ((HIS.out j (by omega) (by omega)).1 h)
            obtain ⟨aj, haj⟩ : ∃ aj, aj = alpha j := ⟨_, rfl⟩
            rw [← haj] at ha
            have HAJ := Lib.hid haj
            have d1 : (aj == c) = false := beq_eq_false_iff_ne.2 ha
            clear haj ha
            go_upto_region 9 with (fail)
            go_region_with (go_at_call 58; refine (letter_calls j _ (by omega) (by omega)).mono ?_; rintro e w4 ⟨rfl, hd4⟩; have HB4 := Lib.hid (below_step (below_drew HB.out) hd4.below); have HO4 := Lib.hid (OwnI.below (HO.out.below (below_drew (Below.refl _ _))) hd4.below); rw [← HAJ.out]; clear hd4)
            all_goals
              go_wp2
              go_roundw
              case rel => exact ⟨j + 1, m, by omega, by go_num, rfl, by omega, HO4, HB4⟩
              case measure => simp [intOf]; omega
        · obtain rfl : j = 64 := by omega
          by_cases hm0 : m < 0
          · have dm : decide (m < 0) = true := decide_eq_true hm0
            have HE := Lib.hid (HBAD.out c HIN.out (by rw [← HYC.out]; omega))
            go_wp2
            go_ret2
            exact ⟨_, by rw [HE.out]; rfl, by rw [HE.out]; exact Own.nil _ _, HB.out⟩
          · have dm : decide (m < 0) = false := decide_eq_false hm0
            obtain rfl : y = m := by omega
            have m0 : 0 ≤ y := by omega
            clear hm
            go_wp2
            go_loopw [4, 8] (fun v i wr => ∃ j : Nat, j ≤ 6 ∧ i = .int .i64 ((j : Int) - 1) ∧ Hid (OwnI w wr v (bits6 ((bytesOf s).take k) ++ (bitsN 6 y).take (6 - j))) ∧ Hid (Below w.heap.size w wr)) (fun _ i _ => (intOf i + 1).toNat)
            case atStart => exact ⟨6, by omega, by go_num, Lib.hid (HO.out.cast (by simp)), HB⟩
            case round =>
              clear HO HB
              obtain ⟨j, hj, rfl, HO, HB⟩ := hrel
              have hj6 : j = 0 ∨ j = 1 ∨ j = 2 ∨ j = 3 ∨ j = 4 ∨ j = 5 ∨ j = 6 := by omega
              rcases hj6 with rfl | rfl | rfl | rfl | rfl | rfl | rfl
              · have HO3 := Lib.hid (HO.out.cast (show _ = bits6 ((bytesOf s).take (k + 1)) by rw [HSN.out, show (bitsN 6 y).take (6 - 0) = bitsN 6 y from List.take_of_length_le (by rw [bitsN_length]; exact Nat.le_refl 6)]))
                clear HO
                go_wp2
                go_roundw
                case rel => exact ⟨k + 1, by omega, by go_num, HO3, HB⟩
                case measure => simp [intOf]; omega
              · have HT := Lib.hid (bitsN_take 6 5 y (by omega))
                go_wp2_with (at_builtin; refine appi_one HO.out HB.out (by rw [List.length_append, List.length_take, bitsN_length, bits6_length, List.length_take]; omega) rfl rfl rfl rfl ?_)
                intro v3 w3 ho3 hb3 _ _
                have HO3 := Lib.hid (ho3.cast (show _ = bits6 ((bytesOf s).take k) ++ (bitsN 6 y).take (6 - 0) by rw [show 6 - 0 = 5 + 1 from rfl, HT.out]; simp))
                have HB3 := Lib.hid hb3
                clear ho3 hb3
                go_wp2
                go_roundw
                case rel => exact ⟨0, by omega, by go_num, HO3, HB3⟩
                case measure => simp [intOf]
              · have HT := Lib.hid (bitsN_take 6 4 y (by omega))
                go_wp2_with (at_builtin; refine appi_one HO.out HB.out (by rw [List.length_append, List.length_take, bitsN_length, bits6_length, List.length_take]; omega) rfl rfl rfl rfl ?_)
                intro v3 w3 ho3 hb3 _ _
                have HO3 := Lib.hid (ho3.cast (show _ = bits6 ((bytesOf s).take k) ++ (bitsN 6 y).take (6 - 1) by rw [show 6 - 1 = 4 + 1 from rfl, HT.out]; simp))
                have HB3 := Lib.hid hb3
                clear ho3 hb3
                go_wp2
                go_roundw
                case rel => exact ⟨1, by omega, by go_num, HO3, HB3⟩
                case measure => simp [intOf]
              · have HT := Lib.hid (bitsN_take 6 3 y (by omega))
                go_wp2_with (at_builtin; refine appi_one HO.out HB.out (by rw [List.length_append, List.length_take, bitsN_length, bits6_length, List.length_take]; omega) rfl rfl rfl rfl ?_)
                intro v3 w3 ho3 hb3 _ _
                have HO3 := Lib.hid (ho3.cast (show _ = bits6 ((bytesOf s).take k) ++ (bitsN 6 y).take (6 - 2) by rw [show 6 - 2 = 3 + 1 from rfl, HT.out]; simp))
                have HB3 := Lib.hid hb3
                clear ho3 hb3
                go_wp2
                go_roundw
                case rel => exact ⟨2, by omega, by go_num, HO3, HB3⟩
                case measure => simp [intOf]
              · have HT := Lib.hid (bitsN_take 6 2 y (by omega))
                go_wp2_with (at_builtin; refine appi_one HO.out HB.out (by rw [List.length_append, List.length_take, bitsN_length, bits6_length, List.length_take]; omega) rfl rfl rfl rfl ?_)
                intro v3 w3 ho3 hb3 _ _
                have HO3 := Lib.hid (ho3.cast (show _ = bits6 ((bytesOf s).take k) ++ (bitsN 6 y).take (6 - 3) by rw [show 6 - 3 = 2 + 1 from rfl, HT.out]; simp))
                have HB3 := Lib.hid hb3
                clear ho3 hb3
                go_wp2
                go_roundw
                case rel => exact ⟨3, by omega, by go_num, HO3, HB3⟩
                case measure => simp [intOf]
              · have HT := Lib.hid (bitsN_take 6 1 y (by omega))
                go_wp2_with (at_builtin; refine appi_one HO.out HB.out (by rw [List.length_append, List.length_take, bitsN_length, bits6_length, List.length_take]; omega) rfl rfl rfl rfl ?_)
                intro v3 w3 ho3 hb3 _ _
                have HO3 := Lib.hid (ho3.cast (show _ = bits6 ((bytesOf s).take k) ++ (bitsN 6 y).take (6 - 4) by rw [show 6 - 4 = 1 + 1 from rfl, HT.out]; simp))
                have HB3 := Lib.hid hb3
                clear ho3 hb3
                go_wp2
                go_roundw
                case rel => exact ⟨4, by omega, by go_num, HO3, HB3⟩
                case measure => simp [intOf]
              · have HT := Lib.hid (bitsN_take 6 0 y (by omega))
                go_wp2_with (at_builtin; refine appi_one HO.out HB.out (by rw [List.length_append, List.length_take, bitsN_length, bits6_length, List.length_take]; omega) rfl rfl rfl rfl ?_)
                intro v3 w3 ho3 hb3 _ _
                have HO3 := Lib.hid (ho3.cast (show _ = bits6 ((bytesOf s).take k) ++ (bitsN 6 y).take (6 - 5) by rw [show 6 - 5 = 0 + 1 from rfl, HT.out]; simp))
                have HB3 := Lib.hid hb3
                clear ho3 hb3
                go_wp2
                go_roundw
                case rel => exact ⟨5, by omega, by go_num, HO3, HB3⟩
                case measure => simp [intOf]
    · obtain rfl : k = s.size := by omega
      have dkn : decide ((s.size : Int) < s.size) = false := decide_eq_false (by omega)
      obtain ⟨P, hP⟩ : ∃ P, P = bits6 (bytesOf s) := ⟨_, rfl⟩
      rw [← hP] at HREF
      have hPL : P.length = 6 * s.size := by rw [hP, bits6_length, HL.out]
      have HZ := Lib.hid (show Zo P from hP ▸ bits6_Zo _)
      have HO1 := Lib.hid (HO0.out.cast (show _ = P by rw [hP, List.take_of_length_le (by rw [HL.out]; exact Nat.le_refl _)]))
      clear hP HO0 HBAD
      obtain ⟨A2, c2, rfl, hc2, hrd2⟩ := HO1.out.reads
      obtain ⟨q, hq⟩ : ∃ q, q = 6 * s.size := ⟨_, rfl⟩
      rw [← hq] at hPL
      rw [hPL] at hc2 hrd2 ⊢
      have HRP := Lib.hid hrd2
      have HLP := Lib.hid hPL
      have hqs : q ≤ 6597069766656 := by omega
      obtain ⟨w2, hw2⟩ : ∃ w2, w2 = wr := ⟨_, rfl⟩
      rw [← hw2] at HRP HB0 ⊢
      clear hrd2 hPL HO1 hq hw2
      go_wp2
      go_loopw [9, 10] (fun v i wr => ∃ (g : Nat) (O : List Int), 8 * g ≤ q ∧ i = .int .i64 ((8 * g : Nat) : Int) ∧ Hid (Own w2 wr v O) ∧ Hid (Below w2.heap.size w2 wr) ∧ Hid (O ++ grp8 (P.drop (8 * g)) = grp8 P) ∧ O.length = g) (fun _ i _ => q - (intOf i).toNat)
      case atStart => exact ⟨0, [], by omega, rfl, Lib.hid (Own.nil w2 w2), Lib.hid (Below.refl _ _), Lib.hid (by rw [Nat.mul_zero, List.drop_zero, List.nil_append]), rfl⟩
      case round =>
        obtain ⟨g, O, hg, rfl, HO, HB2, HS, hOl⟩ := hrel
        have hOl1 : O.length + 1 ≤ 140737488355328 := by omega
        have HOL := Lib.hid hOl
        clear hOl
        obtain ⟨t, hsg⟩ : ∃ t, t = 8 * g := ⟨_, rfl⟩
        rw [← hsg] at hg HS ⊢
        have HSG := Lib.hid hsg
        clear hsg
        have hw8 : IntKind.i64.wrap ((t : Int) + 8) = t + 8 := wrap_id (by omega) (by omega)
        by_cases hsq : t + 8 ≤ q
        · have dsq : decide ((t : Int) + 8 ≤ q) = true := decide_eq_true (by omega)
          have HGS := Lib.hid (grp8_step P t (by rw [HLP.out]; exact hsq))
          have H8 := Lib.hid (fun j hj => six_drop P t 8 j hj (by rw [HLP.out]; exact hsq))
          have HSL := Lib.hid (show ((P.drop t).take 8).length = 8 by rw [List.length_take, List.length_drop, HLP.out]; omega)
          obtain ⟨six, hsix⟩ : ∃ six, six = (P.drop t).take 8 := ⟨_, rfl⟩
          rw [← hsix] at HGS H8 HSL
          obtain ⟨V, hV⟩ : ∃ V, V = vf 0 six := ⟨_, rfl⟩
          rw [← hV] at HGS
          have HV := Lib.hid hV
          obtain ⟨ad2, rfl, hcell⟩ := RdI.cells (Kd.C_below HRP.out HB2.out) (by omega)
          have HCELL := Lib.hid hcell
          clear hsix hV hcell
          go_wp2
          go_loopw [11, 50] (fun nv i wr' => wr = wr' ∧ ∃ (j : Nat) (m : Int), j ≤ 8 ∧ i = .int .i64 j ∧ nv = .int .i64 m ∧ 0 ≤ m ∧ ((j = 0 → m < 1) ∧ (j = 1 → m < 2) ∧ (j = 2 → m < 4) ∧ (j = 3 → m < 8) ∧ (j = 4 → m < 16) ∧ (j = 5 → m < 32) ∧ (j = 6 → m < 64) ∧ (j = 7 → m < 128) ∧ (j = 8 → m < 256)) ∧ Hid (vf m (six.drop j) = V)) (fun _ i _ => 8 - (intOf i).toNat)
          case atStart => exact ⟨by first | rfl | trivial, 0, 0, by omega, rfl, rfl, by omega, by omega, Lib.hid (by rw [List.drop_zero, HV.out])⟩
          case round =>
            obtain ⟨rfl, j, m, hj, rfl, rfl, m0, mB, HVF⟩ := hrel
            by_cases hj8 : j < 8
            · have dj : decide ((j : Int) < 8) = true := decide_eq_true (by omega)
              obtain ⟨b, hb⟩ : ∃ b, b = rd P ((t + j : Nat) : Int) := ⟨_, rfl⟩
              have hx := HCELL.out (t + j) (by omega)
              obtain ⟨b0, b1⟩ := HZ.out.rd (t + j) (by rw [HLP.out]; omega)
              have HVF2 := Lib.hid (show vf (2 * m + b) (six.drop (j + 1)) = V by rw [← HVF.out, H8.out j hj8, ← hb]; rfl)
              rw [← hb] at hx b0 b1
              clear hb
              have hw1 : IntKind.i64.wrap (2 * m) = 2 * m := wrap_id (by omega) (by omega)
              have hw2 : IntKind.i64.wrap ((t : Int) + j) = t + j := wrap_id (by omega) (by omega)
              have hw3 : IntKind.i64.wrap (2 * m + b) = 2 * m + b := wrap_id (by omega) (by omega)
              have i0 : (0 : Int) ≤ (t : Int) + j := by omega
              have i1 : (t : Int) + j < q := by omega
              have i2 : ((t : Int) + j).toNat = t + j := by omega
              go_wp2
              go_roundw
              case rel => exact ⟨by first | rfl | trivial, j + 1, 2 * m + b, by omega, by go_num, by first | rfl | (rw [hw3]), by omega, by omega, HVF2⟩
              case measure => simp [intOf]; omega
            · obtain rfl : j = 8 := by omega
              have hVm : V = m := by rw [← HVF.out, List.drop_of_length_le (by rw [HSL.out]; exact Nat.le_refl _)]; rfl
              have HS2 := Lib.hid (show O ++ [m] ++ grp8 (P.drop (t + 8)) = grp8 P by rw [← HS.out, HGS.out, hVm, List.append_assoc]; rfl)
              have hm64 : m < 256 := by omega
              have hu8 : IntKind.u8.wrap m = m := by rw [IntKind.wrap_u8]; omega
              clear hVm mB
              go_wp2_with (at_builtin; refine app_one HO.out HB2.out hOl1 rfl rfl rfl rfl ?_)
              intro v5 w5 ho5 hb5 _ _
              have HO5 := Lib.hid (ho5.cast (show _ = O ++ [m] by first | rfl | rw [hu8]))
              have HB5 := Lib.hid hb5
              clear ho5 hb5
              go_wp2
              go_roundw
              case rel => exact ⟨g + 1, O ++ [m], by have := HSG.out; omega, by have := HSG.out; go_num, HO5, HB5, by rw [show 8 * (g + 1) = t + 8 by have := HSG.out; omega]; exact HS2, by rw [List.length_append, HOL.out]; rfl⟩
              case measure => simp [intOf]; omega
        · have dsq : decide ((t : Int) + 8 ≤ q) = false := decide_eq_false (by omega)
          obtain ⟨D, hD⟩ : ∃ D, D = grp8 P := ⟨_, rfl⟩
          have HE := Lib.hid (show O = D by rw [hD, ← HS.out, grp8_short _ (by rw [List.length_drop, HLP.out]; omega), List.append_nil])
          have hDB := grp8_Bytes P HZ.out
          have hDL := grp8_length P
          rw [HLP.out] at hDL
          rw [← hD] at hDB hDL HREF
          have HDB := Lib.hid hDB
          have HDL := Lib.hid hDL
          have HOD := Lib.hid (HO.out.cast HE.out)
          obtain ⟨A4, c4, rfl, hc4, hrd4⟩ := HOD.out.reads
          have HR4 := Lib.hid hrd4
          have hDle : D.length ≤ 1099511627776 := by rw [hDL]; omega
          clear hD hDB hDL HO hrd4 hOl1
          go_wp2_with fail
          refine (SpellRef_calls A4 c4 D _ HR4.out HDB.out hDle).mono ?_
          rintro e w6 ⟨rfl, hb6⟩
          have HB6 := Lib.hid (below_step HB2.out hb6)
          have HO6 := Lib.hid (HOD.out.below hb6)
          clear hb6
          by_cases hEQ : sp3 D = bytesOf s
          · have HR1 := Lib.hid (show R = some D by rw [HREF.out, if_pos hEQ])
            have HST := Lib.hid (show strOfNums (sp3 D) = s by rw [hEQ, strOf_bytes])
            rw [HST.out]
            clear hEQ
            go_wp2
            go_ret2
            exact ⟨_, by rw [HR1.out]; rfl, by rw [HR1.out]; exact HO6.out.lower HB0.out.size, below_step HB0.out HB6.out⟩
          · have HR1 := Lib.hid (show R = none by rw [HREF.out, if_neg hEQ])
            have hne : strOfNums (sp3 D) ≠ s := fun h => hEQ (by rw [← h, bytes_strOf (sp3_Bytes D HDB.out)])
            obtain ⟨T, hT⟩ : ∃ T, T = strOfNums (sp3 D) := ⟨_, rfl⟩
            rw [← hT] at hne ⊢
            have d3 : (T.toList == s.toList) = false := beq_eq_false_iff_ne.2 (fun h => hne (toList_inj h))
            clear hT hEQ
            go_wp2
            go_ret2
            exact ⟨_, by rw [HR1.out]; rfl, by rw [HR1.out]; exact Own.nil _ _, below_step HB0.out HB6.out⟩
end Go.Proofs.YtcgenmogedndjaaDoor
