/- WireRuns: the walk of the law. -/
import Derived.Test.YthbdgakeglppbaaFramesAll
import Derived.Test.YthbdgakeglppbaaClone
import Derived.Test.YthbdgakeglppbaaSumRef
import Derived.Lib.SmallJoins
namespace Go.Proofs.Ythbdgakeglppbaa
open Go.RowKit Go.Proofs.YthbdgakeglppbaaW.PrintWords
theorem frames_a : frames (frameOf [97]) = ([[97]], 8) := by decide +kernel
theorem frames_small : ∀ (f : Nat) (l : List Int), Bytes l → ∀ p ∈ (framesF f l).1, p.length ≤ 65536
  | 0, _, _ => by simp [framesF]
  | f + 1, l, hb => by
    unfold framesF
    by_cases he : (unframe l).2.2 = 0
    · rw [if_pos he]
      intro p hp
      rcases List.mem_cons.1 hp with rfl | hp
      · exact (unframe_len l hb he).2.2.2
      · exact frames_small f _ (hb.dp _) p hp
    · rw [if_neg he]
      simp
abbrev KB : Kd (List Int) := Kd.slice 5 (Kd.int .u8)
theorem frozen_same {w w' : World} {g i : Nat} (h : w'.heap[g]? = w.heap[g]?) : w'.frozen? ⟨g, i, none⟩ = w.frozen? ⟨g, i, none⟩ := by
  unfold World.frozen?
  simp only [h]
section
variable {ops : Array Oper} {rest : List Oper} {o : Oper} {a : Act} {Q : Exit → Act → World → Prop} {w0 W : World} {v : Value} {l : List Int} {s x : Operand}
theorem app_oneR {p : Int} {base : Nat} {ok : Nat → Prop} (hO : (Kd.int .u8).R 5 W base ok v l) (hfresh : ∀ k, W.heap.size ≤ k → ok k) (hB : Below base w0 W) (hbase : base ≤ W.heap.size) (hL : l.length + 1 ≤ 140737488355328)
    (hgd : o.guard = none) (hop : o.op = .call { callee := .builtin .append, args := #[s, x], argTypes := #[22, 22] }) (hv : a.eval s = v) (hx : a.eval x = .slice (some ⟨W.heap.size, 0, none⟩) 1 1)
    (K : ∀ v1 w1, (Kd.int .u8).R 5 w1 base ok v1 (l ++ [p]) → Below base w0 w1 → W.grownBy w1 v.ownBlock → (v1.ownBlock = v.ownBlock ∨ ∃ b, v1.ownBlock = some b ∧ W.heap.size ≤ b) → wpList Try.prog ops Q rest (a.put o.dst v1) w1) : wpList Try.prog ops Q (o :: rest) a (W.alloc (.cells #[.int .u8 p] 5)) :=
  Kd.R_append (Kd.int .u8) (w0 := w0) base hgd s x 22 5 (.int .u8 0) 1 hop Try.underlying22 info_u8 rfl (by decide) (by omega) v l p [.int .u8 p] ok (fun _ => False) hv hx rfl (fun _ hk => hk.elim) hfresh hO hB hbase (by omega) K
end
set_option maxRecDepth 20000 in
set_option maxHeartbeats 4000000 in
theorem WireRuns_main (A0 : Option Addr) (c0 : Nat) (l0 : List Int) (w : World) (hr0 : Rd w A0 l0.length l0) (hc0 : l0.length ≤ c0) (hb0 : Bytes l0) (hl0 : l0.length ≤ 20000) :
    Calls Try.prog 13 #[.slice A0 l0.length c0] w fun e w' => e = .returned (.bool true) ∧ Below w.heap.size w w' := by
  have hd : decide (20000 < l0.length) = false := decide_eq_false (by omega)
  have HR := Lib.hid hr0
  have HY := Lib.hid hb0
  obtain ⟨R, hR⟩ : ∃ R, R = frames l0 := ⟨_, rfl⟩
  have HRR := Lib.hid hR
  have HYR := Lib.hid (show ∀ p ∈ R.1, Bytes p from hR ▸ frames_Bytes _ l0 hb0)
  have HSM := Lib.hid (show ∀ j, 0 ≤ j → (R.1.getD j []).length ≤ 70000 by
    intro j _
    rw [List.getD_eq_getElem?_getD]
    cases hq : R.1[j]? with
    | none => simp
    | some p =>
      have hm : p ∈ R.1 := List.mem_of_getElem? hq
      rw [hR] at hm
      have := frames_small _ l0 hb0 p hm
      simp
      omega)
  have hcnt : R.1.length ≤ 20000 := by have := (frames_count (l0.length + 1) l0 hb0).1; rw [hR]; unfold frames; omega
  clear hr0 hb0 hR
  go_enter Try.func13, Try.ntmps13
  go_wp2_with fail
  refine (bytes_Clone.calls A0 c0 l0 l0 _ HR.out hc0 (if_pos (by omega))).mono ?_
  rintro e w1 ⟨v1, rfl, ho1, hb1⟩
  replace ho1 : Own w w1 v1 l0 := ho1
  obtain ⟨A1, c1, rfl, hc1, hrd1⟩ := Own.reads ho1
  have HB1 := Lib.hid hb1
  have HR1 := Lib.hid hrd1
  clear ho1 hb1 hrd1
  obtain ⟨n0, hn0⟩ : ∃ n0, n0 = l0.length := ⟨_, rfl⟩
  rw [← hn0] at hd hc0 hl0 HR hc1 HR1 ⊢
  have HL := Lib.hid hn0.symm
  clear hn0
  go_wp2_with fail
  refine (Frames_calls A1 c1 l0 _ HR1.out hc1 HY.out (by omega)).mono ?_
  rw [← HRR.out]
  rintro e w2 ⟨v2, rfl, ho2, hb2⟩
  have HO2 := Lib.hid ho2
  have HB2 := Lib.hid hb2
  have HW2 := Lib.hid (below_step HB1.out hb2)
  clear ho2 hb2
  go_wp2_with fail
  refine (FramesRef_calls A0 c0 l0 _ (Kd.C_below HR.out HW2.out) hc0 HY.out (by omega)).mono ?_
  rw [← HRR.out]
  rintro e w3 ⟨v3, rfl, ho3, hb3⟩
  have HO3 := Lib.hid (HO2.out.below hb3)
  have HB3 := Lib.hid (below_step HB2.out hb3)
  obtain ⟨A2, c2, rfl, hc2, hrd2⟩ := HO3.out.reads
  obtain ⟨A3, c3, rfl, hc3, hrd3⟩ := ho3.reads
  have HR2 := Lib.hid hrd2
  have HR3 := Lib.hid hrd3
  obtain ⟨m, hm⟩ : ∃ m, m = R.1.length := ⟨_, rfl⟩
  rw [← hm] at HR2 HR3 HO3 hcnt hc2 hc3 ⊢
  have HM := Lib.hid hm.symm
  clear ho3 hb3 hrd2 hrd3 HO2 HB2 HW2 hm
  go_wp2_with fail
  refine (EqualFunc_true A2 c2 A3 c3 R.1 _ HR2.out HR3.out HYR.out (by omega)).mono ?_
  rintro e w4 ⟨rfl, hd4⟩
  have HO4 := Lib.hid (HO3.out.below hd4.below)
  have HB4 := Lib.hid (below_step HB3.out hd4.below)
  clear hd4 HO3 HB3 HR2 HR3
  have HGG := Lib.hid (show 0 < m → ∃ g, A2 = some ⟨g, 0, none⟩ by
    intro hp
    obtain ⟨g, cap, e, _⟩ := Kd.S_form HO4.out (by rw [HM.out]; exact hp)
    injection e with e1 _ _
    exact ⟨g, e1⟩)
  go_wp2
  go_loopw [41] (fun i wr => ∃ (k : Nat) (ls : List (List Int)), k ≤ m ∧ i = .int .i64 k ∧ Hid (OwnL w1 wr (.slice A2 m c2) ls) ∧ Hid (ls.length = m) ∧ Hid (∀ j, k ≤ j → (ls.getD j []).length ≤ 70000) ∧ Hid (Below w1.heap.size w1 wr)) (fun i _ => m - (intOf i).toNat)
  case atStart => exact ⟨0, R.1, by omega, rfl, HO4, HM, HSM, HB4⟩
  case round =>
    obtain ⟨k, ls, hk, rfl, HO, HLS, HLL, HB⟩ := hrel
    by_cases hkm : k < m
    · have dkn : decide ((k : Int) < m) = true := decide_eq_true (by omega)
      obtain ⟨g, rfl⟩ := HGG.out (by omega)
      have hgb : w1.heap.size ≤ g := Kd.S_base HO.out g rfl
      have hgl : g < wr.heap.size := Kd.S_lt HO.out g rfl
      have HS0 : Kd.S KB 22 wr w1.heap.size (fun q => True ∧ ¬ wr.heap.size ≤ q) (.slice (some ⟨g, 0, none⟩) m c2) ls := Kd.S_mono (Kd.S_bound HO.out) (fun q hq => ⟨trivial, by omega⟩)
      obtain ⟨oki, c, _, ⟨vi, rfl, hRi⟩, hcc, hfr, hoki, hH⟩ := Kd.S_elem HS0 [] (k : Int) (by omega) (by omega)
      have hcell : wr.cell? ⟨g, k, none⟩ = some vi := by
        have := hcc 0 vi rfl
        simpa [Kd.slice] using this
      have hfz : wr.frozen? ⟨g, k, none⟩ = false := by
        have := hfr 0
        simpa [Kd.slice] using this
      obtain ⟨li, hli⟩ : ∃ li, li = ls.getD (k : Int).toNat [] := ⟨_, rfl⟩
      rw [← hli] at hRi
      have HLI := Lib.hid hli
      have hlen : li.length ≤ 70000 := by rw [hli]; exact HLL.out _ (Nat.le_refl _)
      obtain ⟨Ai, ci, rfl⟩ := Kd.R_slice hRi
      have HRi := Lib.hid (Kd.R_mono hRi (fun q (h : oki q) => (Or.inl h : oki q ∨ wr.heap.size ≤ q)))
      have HRo := Lib.hid hRi.1
      have HH := Lib.hid hH
      have HKI := Lib.hid hoki
      have hli1 : li.length + 1 ≤ 140737488355328 := by omega
      clear hRi hH hcc hfr hoki HS0 hli
      obtain ⟨x', hx'⟩ : ∃ x', x' = li ++ [1] := ⟨_, rfl⟩
      have hxl : x'.length = li.length + 1 := by rw [hx']; simp
      have HXE := Lib.hid hx'
      have HXL := Lib.hid hxl
      clear hx' hxl
      go_upto_region 10 with (fail)
      go_cut [9] (fun v wc => v = .int .i64 k ∧ Hid (OwnL w1 wc (.slice (some ⟨g, 0, none⟩) m c2) (ls.set (k : Int).toNat x')) ∧ Hid (Below w1.heap.size w1 wc))
      case first =>
        go_wp2_with (at_builtin; refine app_oneR (w0 := w1) HRi.out (fun q hq => .inr hq) HB.out HB.out.size hli1 rfl rfl rfl rfl ?_)
        intro v4 w5 hr4 hb4 hg4 _
        have hHg := Kd.H_grown HH.out hg4 HRo.out
        have hgr : some g ≠ (Value.slice Ai li.length ci).ownBlock := fun e => (HKI.out g (HRo.out g e.symm)).2 rfl
        have hcell5 := hg4.cell hcell hgr
        have hfz5 : w5.frozen? ⟨g, k, none⟩ = false := by rw [frozen_same (hg4.block g hgl hgr), hfz]
        rw [← HXE.out] at hr4
        have hseg := Kd.S_seg (okg := fun q => wr.heap.size ≤ q) (ok := fun _ => True) (okp := fun q => oki q ∨ wr.heap.size ≤ q) hHg (by omega) (by omega) (seg := [v4]) (j := 0) (Nat.le_refl 1) (x' := x') ⟨v4, rfl, hr4⟩ (fun q h => h) (fun q hq => ⟨trivial, by omega⟩)
        have hidx : (k : Int).toNat * (KB).sz + 0 = k := by show k * 1 + 0 = k; omega
        rw [hidx] at hseg
        have hs6 : OwnL w1 (w5.setCell ⟨g, k, none⟩ v4) (.slice (some ⟨g, 0, none⟩) m c2) (ls.set (k : Int).toNat x') := hseg.1
        have hb6 : Below w1.heap.size w1 (w5.setCell ⟨g, k, none⟩ v4) := hb4.grown (Lib.grownBy_setCell w5 g k v4) hb4.size (fun q hq => by cases hq; exact hgb)
        have HS6 := Lib.hid hs6
        have HB6 := Lib.hid hb6
        obtain ⟨A4, c4, rfl⟩ := Kd.R_slice hr4
        clear hr4 hb4 hg4 hHg hseg hidx hs6 hb6 hgr hcell hfz
        go_wp2
        go_meet
        case rel => exact ⟨rfl, HS6, HB6⟩
      case rest =>
        obtain ⟨rfl, HS6, HB6⟩ := hcut
        obtain ⟨oki2, c', _, ⟨u, rfl, hRu⟩, hcc2, hoki2, hback⟩ := Kd.S_borrow HS6.out [] (k : Int) (by omega) (by omega)
        have hel : (ls.set (k : Int).toNat x').getD (k : Int).toNat [] = x' := by
          rw [List.getD_eq_getElem?_getD, List.getElem?_set_self (by rw [HLS.out, Int.toNat_natCast]; exact hkm)]
          rfl
        rw [hel] at hRu
        have hcell6 : wc.cell? ⟨g, k, none⟩ = some u := by
          have := hcc2 0 u rfl
          simpa [Kd.slice, add_plain] using this
        obtain ⟨b, cap4, rfl, hbb, hbl, _⟩ := Kd.R_form hRu (by rw [HXL.out]; omega)
        obtain ⟨hc0', hf0⟩ := Kd.R_celln (0 : Int) hRu 0 (by omega) (by rw [HXL.out]; omega)
        obtain ⟨x0, hx0⟩ : ∃ x0 : Int, x0 = rdOf 0 x' 0 := ⟨_, rfl⟩
        rw [← hx0] at hc0'
        obtain ⟨y, hy⟩ : ∃ y, bits .xor .u8 x0 255 = y := ⟨_, rfl⟩
        have hput := Kd.R_putn hRu 0 y
        have hs7 : OwnL w1 (wc.setCell ⟨b, 0, none⟩ (.int .u8 y)) (.slice (some ⟨g, 0, none⟩) m c2) ((ls.set (k : Int).toNat x').set (k : Int).toNat (x'.set 0 y)) :=
          hback (Lib.grownBy_setCell wc b 0 (.int .u8 y)) (fun q hq => hRu.1 q (by cases hq; simp [Value.ownBlock])) ⟨_, rfl, hput⟩
        have HS7 := Lib.hid hs7
        have HB7 := Lib.hid (HB6.out.grown (Lib.grownBy_setCell wc b 0 (.int .u8 y)) HB6.out.size (fun q hq => by cases hq; exact hbb))
        have HLS7 := Lib.hid (show ((ls.set (k : Int).toNat x').set (k : Int).toNat (x'.set 0 y)).length = m by rw [List.length_set, List.length_set, HLS.out])
        have HLL7 := Lib.hid (show ∀ j, k + 1 ≤ j → (((ls.set (k : Int).toNat x').set (k : Int).toNat (x'.set 0 y)).getD j []).length ≤ 70000 by
          intro j hj
          rw [List.getD_eq_getElem?_getD, List.getElem?_set_ne (by rw [Int.toNat_natCast]; omega), List.getElem?_set_ne (by rw [Int.toNat_natCast]; omega), ← List.getD_eq_getElem?_getD]
          exact HLL.out j (by omega))
        have hxp : (0 : Int) < x'.length := by rw [HXL.out]; omega
        have hcx : wc.cell? ⟨b, 0, none⟩ = some (.int .u8 x0) := hc0'
        have hfx : wc.frozen? ⟨b, 0, none⟩ = false := hf0
        clear hRu hcc2 hback hput hs7 hx0 hc0' hf0 hel
        go_wp2
        go_roundw
        case rel => exact ⟨k + 1, _, by omega, by go_num, HS7, HLS7, HLL7, HB7⟩
        case measure => simp [intOf]; omega
    · obtain rfl : k = m := by omega
      have dkn : decide ((k : Int) < k) = false := decide_eq_false (by omega)
      have kc := fun (w : World) (C : Array Value) (n c g : Nat) (hg : g = w.heap.size) => Joins.run_convert_bytes_const_at (P := Try.prog) w 22 5 C n c g hg Try.underlying22 Try.underlying5
      have HFA := Lib.hid frames_a
      have HBA := Lib.hid (show Bytes (frameOf [97]) from frame_Bytes [97] (Bytes.con (by omega) (by omega) Bytes.nil))
      have HLA := Lib.hid (show (frameOf [97]).length = 8 from frame_length [97])
      clear HO HLS HLL HO4 HB4 HGG hk HSM
      go_wp2_with fail
      have hq : Below wr.heap.size wr (wr.alloc (.cells #[.int .u8 97] 5 (1, 2))) := below_alloc (Below.refl _ _) _
      have hca := C_const wr 5 [97] (1, 2) (by decide)
      have HCA := Lib.hid hca
      have HQ := Lib.hid hq
      clear hca hq kc
      obtain ⟨fa, hfa⟩ : ∃ fa, fa = frameOf [97] := ⟨_, rfl⟩
      rw [← hfa] at HFA HBA HLA
      refine (Frame_ok _ _ [97] _ HCA.out (by decide)).mono ?_
      rw [← hfa]
      rintro e w5 ⟨v5, rfl, ho5, hb5⟩
      obtain ⟨A5, c5, rfl, hc5, hrd5⟩ := ho5.reads
      rw [HLA.out] at hc5 hrd5 ⊢
      have HB5 := Lib.hid (below_step HB.out (below_step HQ.out hb5))
      have HR5 := Lib.hid hrd5
      clear ho5 hb5 hrd5 HCA HQ hfa
      go_wp2_with fail
      refine (Frames_calls A5 c5 fa _ HR5.out hc5 HBA.out (by omega)).mono ?_
      rw [HFA.out]
      rintro e w6 ⟨v6, rfl, ho6, hb6⟩
      obtain ⟨A6, c6, rfl, hc6, _⟩ := ho6.reads
      rw [show ([[97]] : List (List Int)).length = 1 from rfl] at hc6 ⊢
      have HB6 := Lib.hid (below_step HB5.out hb6)
      have HW6 := Lib.hid (below_step HB1.out HB6.out)
      clear ho6 hb6 HB5 HR5
      go_wp2_with fail
      refine (Equal_true _ _ l0 _ _ l0 _ (Kd.C_below HR1.out HB6.out) (Kd.C_below HR.out HW6.out) HY.out rfl).mono ?_
      rintro e w7 ⟨rfl, hd7⟩
      have HB7 := Lib.hid (below_step HW6.out hd7.below)
      clear hd7
      go_wp2
      go_ret
      exact ⟨rfl, HB7.out⟩
theorem WireRuns_early (A0 : Option Addr) (n0 c0 : Nat) (w : World) (hbig : 20000 < n0) :
    Calls Try.prog 13 #[.slice A0 n0 c0] w fun e w' => e = .returned (.bool true) ∧ Below w.heap.size w w' := by
  have hd : decide (20000 < n0) = true := decide_eq_true hbig
  go_enter Try.func13, Try.ntmps13
  go_wp2_with fail
  refine (Sum_nil _).mono ?_
  rintro e w1 ⟨rfl, hd1⟩
  have HB1 := Lib.hid hd1.below
  clear hd1
  go_wp2
  go_ret
  exact ⟨rfl, HB1.out⟩
theorem WireRuns_walk (A0 : Option Addr) (c0 : Nat) (l0 : List Int) (w : World) (hr0 : Rd w A0 l0.length l0) (hc0 : l0.length ≤ c0) (_hs0 : l0.length ≤ 140737488351232) (hb0 : Bytes l0) :
    Calls Try.prog 13 #[.slice A0 l0.length c0] w fun e w' => e = .returned (.bool true) ∧ Below w.heap.size w w' := by
  by_cases hbig : 20000 < l0.length
  · exact WireRuns_early A0 _ c0 w hbig
  · exact WireRuns_main A0 c0 l0 w hr0 hc0 hb0 (by omega)
end Go.Proofs.Ythbdgakeglppbaa
