/- DigestInner: the walk of the law. -/
import Derived.Test.YtfhnchabifklnaaDoorDigestKeysWalk
import Derived.Deep.CutBlock
namespace Go.Proofs.YtfhnchabifklnaaDoor
open Go.RowKit Go.Proofs.YtfhnchabifklnaaDoorW.PrintWords
theorem xorB_pad (c : Int) (l : List Int) (i : Nat) (hi : i < 64) : (xorB c ((pad64 l).take i)) ++ [bits .xor .u8 (rd l i) c] = xorB c ((pad64 l).take (i + 1)) ∨ 64 < l.length := by
  by_cases h : 64 < l.length
  · exact .inr h
  · refine .inl ?_
    have hp : (pad64 l).length = 64 := pad64_length l (by omega)
    rw [List.take_succ_eq_append_getElem (by omega)]
    unfold xorB
    rw [List.map_append]
    congr 1
    have : (pad64 l)[i] = rd l (i : Int) := by
      rw [← rd_get (pad64 l) i (by omega)]
      unfold pad64 rd
      simp only [Int.toNat_natCast, List.getD_eq_getElem?_getD]
      rcases Nat.lt_or_ge i l.length with h1 | h1
      · rw [List.getElem?_append_left h1]
      · rw [List.getElem?_append_right h1, List.getElem?_eq_none (l := l) h1, List.getElem?_replicate, if_pos (by omega)]
        rfl
    rw [this]
    rfl
theorem own_far {w W w1 : World} {v : Value} {l : List Int} {g : Nat} (h : Own w W v l) (hg : ∀ k, v.ownBlock = some k → k ≠ g) (hf : ∀ k, k ≠ g → w1.heap[k]? = W.heap[k]?) : Own w w1 v l := by
  have h1 : (Kd.int .u8).R 5 W w.heap.size (fun k => k ≠ g) v l := Kd.R_of_own (Kd.own_of_R h) hg
  exact Kd.R_mono (Kd.R_step h1 (fun k hk _ => hf k hk)) (fun _ _ => trivial)
section
variable {ops : Array Oper} {rest : List Oper} {o : Oper} {a : Act} {Q : Exit → Act → World → Prop} {w : World}
theorem store_blk3 {g t : Nat} {k : IntKind} {l m : List Int} {T : TypeId} {p x : Operand} (hgd : o.guard = none) (hN : o.dst = none) (ho : o.op = .store T p x) (hp : a.eval p = .pointer (some ⟨g, 0, none⟩)) (hx : a.eval x = .agg (nums k m).toArray) (h : Blk w g t k l) (hl : m.length = l.length)
    (ht : (Tryd.prog.info? T).map (·.size) = some m.length) (hK : ∀ w1, Blk w1 g t k m → (∀ B a0, Below B a0 w → B ≤ g → Below B a0 w1) → (∀ j, j ≠ g → w1.heap[j]? = w.heap[j]?) → wpList Tryd.prog ops Q rest a w1) : wpList Tryd.prog ops Q (o :: rest) a w := by
  have hnm : (nums k m).length = m.length := by simp [nums]
  have hrun := run_store_run (P := Tryd.prog) (w := w) (g := g) (o := 0) T (.agg (nums k m).toArray) (nums k m) h rfl (by rw [hnm]; exact ht) (by rw [hnm, hl]; simp [nums]) (fun q hq => by simp only [nums, List.mem_map] at hq; obtain ⟨x, _, rfl⟩ := hq; rfl)
  obtain ⟨cur', h1, h2, h3⟩ := setCells_row (nums k m) 0 w _ h (by rw [hnm, hl]; simp [nums])
  refine wpList_plain hgd fun K hK' => ?_
  unfold Oper.wp execOp
  simp only [ho, hp, hx, Sem.run_bind, Sem.run_pure, Result.andThen_ok, hrun]
  show K (a.put o.dst undef) _
  rw [hN]
  refine hK' a _ (hK _ ?_ ?_ ?_)
  · unfold Blk
    rw [h1]
    congr 1
    congr 1
    apply Array.ext'
    rw [h3]
    simp [nums, hl]
  · intro B a0 hb hB
    exact Below.setCells_ hb hB _
  · intro j hj
    exact setCells_far _ _ j hj
end
theorem pair_step {w W w1 : World} {vi v1 vo : Value} {lo : List Int} (ho : Own w W vo lo) (hap : ∀ k, vi.ownBlock = some k → vo.ownBlock ≠ some k) (hg : W.grownBy w1 vi.ownBlock) (hat : v1.ownBlock = vi.ownBlock ∨ ∃ b, v1.ownBlock = some b ∧ W.heap.size ≤ b) :
    Own w w1 vo lo ∧ (∀ k, v1.ownBlock = some k → vo.ownBlock ≠ some k) := by
  have h1 : (Kd.int .u8).R 5 W w.heap.size (fun k => some k ≠ vi.ownBlock) vo lo := Kd.R_of_own (Kd.own_of_R ho) (fun k hk he => hap k he.symm hk)
  refine ⟨Kd.R_mono (Kd.R_grown h1 hg (fun k hk => hk)) (fun _ _ => trivial), fun k hk he => ?_⟩
  rcases hat with e | ⟨b, e, hb⟩
  · exact hap k (e ▸ hk) he
  · have h2 := Kd.R_lt ho k he
    rw [e] at hk
    injection hk with hk
    omega
set_option maxRecDepth 20000 in
set_option maxHeartbeats 8000000 in
theorem DigestInner_walk (A0 : Option Addr) (c0 : Nat) (l0 : List Int) (A1 : Option Addr) (c1 : Nat) (l1 : List Int) (w : World) (hG : Laid w) (hr0 : Kd.C (Kd.int .u8) w A0 l0.length l0) (hc0 : l0.length ≤ c0) (_hs0 : l0.length ≤ 140737488351232) (hb0 : Bytes l0)
    (hr1 : Kd.C (Kd.int .u8) w A1 l1.length l1) (_hc1 : l1.length ≤ c1) (_hs1 : l1.length ≤ 140737488351232) (hb1 : Bytes l1) :
    Calls Tryd.prog 9 #[.slice A0 l0.length c0, .slice A1 l1.length c1] w fun e w' => e = .returned (.bool true) ∧ Below w.heap.size w w' := by
  obtain ⟨n0, hn0⟩ : ∃ n, n = l0.length := ⟨_, rfl⟩
  obtain ⟨n1, hn1⟩ : ∃ n, n = l1.length := ⟨_, rfl⟩
  rw [← hn0] at hr0 hc0 ⊢
  rw [← hn1] at hr1 ⊢
  have HI := Lib.hid (show Rd w A0 n0 l0 ∧ Rd w A1 n1 l1 ∧ Bytes l0 ∧ Bytes l1 ∧ Laid w ∧ n0 = l0.length ∧ n1 = l1.length from ⟨hr0, hr1, hb0, hb1, hG, hn0, hn1⟩)
  clear hr0 hr1 hb0 hb1 hG hn0 hn1
  go_enter Tryd.func9, Tryd.ntmps9
  by_cases hbig : 20000 < n1 ∨ 64 < n0
  · have hpick : (decide (20000 < (n1 : Int)) = true) ∨ (decide (20000 < (n1 : Int)) = false ∧ decide (64 < (n0 : Int)) = true) := by
      by_cases h : 20000 < n1
      · exact .inl (decide_eq_true (by omega))
      · exact .inr ⟨decide_eq_false (by omega), decide_eq_true (by omega)⟩
    rcases hpick with d1 | ⟨d1, d2⟩
    · have d1' : decide (20000 < n1) = true := by rw [decide_eq_true_eq] at d1 ⊢; omega
      clear hbig
      go_wp2_with (go_at_call 11; with_reducible refine (awake_calls _ HI.out.2.2.2.2.1).mono ?_; rintro e w6 ⟨rfl, hb6⟩; have HB6 := Lib.hid hb6; clear hb6)
      go_ret
      exact ⟨rfl, HB6.out⟩
    · have d1' : decide (20000 < n1) = false := by rw [decide_eq_false_iff_not] at d1 ⊢; omega
      have d2' : decide (64 < n0) = true := by rw [decide_eq_true_eq] at d2 ⊢; omega
      clear hbig
      go_wp2_with (go_at_call 11; with_reducible refine (awake_calls _ HI.out.2.2.2.2.1).mono ?_; rintro e w6 ⟨rfl, hb6⟩; have HB6 := Lib.hid hb6; clear hb6)
      go_ret
      exact ⟨rfl, HB6.out⟩
  · have d1 : decide (20000 < (n1 : Int)) = false := decide_eq_false (by omega)
    have d2 : decide (64 < (n0 : Int)) = false := decide_eq_false (by omega)
    have d1' : decide (20000 < n1) = false := decide_eq_false (by omega)
    have d2' : decide (64 < n0) = false := decide_eq_false (by omega)
    have HN := Lib.hid (show n0 ≤ 64 ∧ n1 ≤ 20000 from by omega)
    have HKL := Lib.hid (show (pad64 l0).length = 64 from pad64_length l0 (by rw [← HI.out.2.2.2.2.2.1]; omega))
    have HKK := Lib.hid (show macKey l0 = pad64 l0 by unfold macKey; rw [if_neg (by rw [← HI.out.2.2.2.2.2.1]; omega)])
    clear hbig
    go_wp2
    go_loopw [5, 6, 19] (fun vi vo v wi => ∃ (i : Nat) (Ai Ao : Option Addr) (ci co : Nat), vi = .slice Ai i ci ∧ vo = .slice Ao i co ∧ v = .int .i64 i ∧ i ≤ 64 ∧ Hid (Own w wi (.slice Ai i ci) (xorB 54 ((pad64 l0).take i)) ∧ Own w wi (.slice Ao i co) (xorB 92 ((pad64 l0).take i)) ∧ (∀ k, (Value.slice Ai i ci).ownBlock = some k → (Value.slice Ao i co).ownBlock ≠ some k) ∧ Below w.heap.size w wi)) (fun _ _ v _ => 64 - (intOf v).toNat)
    case atStart => exact ⟨0, none, none, 0, 0, rfl, rfl, rfl, by omega, Lib.hid ⟨by rw [List.take_zero]; exact Own.nil w w, by rw [List.take_zero]; exact Own.nil w w, (fun k hk => by cases hk), Below.refl _ _⟩⟩
    case round =>
      obtain ⟨i, Ai, Ao, ci, co, rfl, rfl, rfl, hi, H⟩ := hrel
      by_cases hi64 : i < 64
      · have e1 : decide ((i : Int) < 64) = true := decide_eq_true (by omega)
        have e1' : decide (i < 64) = true := decide_eq_true hi64
        have hx : (if i < n0 then rd l0 (i : Int) else 0) = rd l0 (i : Int) := by
          split
          · rfl
          · unfold rd
            rw [Int.toNat_natCast, List.getD_eq_getElem?_getD, List.getElem?_eq_none (by rw [← HI.out.2.2.2.2.2.1]; omega)]
            rfl
        have h54 : xorB 54 ((pad64 l0).take i) ++ [bits .xor .u8 (rd l0 i) 54] = xorB 54 ((pad64 l0).take (i + 1)) := by
          rcases xorB_pad 54 l0 i hi64 with h | h
          · exact h
          · have := HN.out; rw [← HI.out.2.2.2.2.2.1] at h; omega
        have h92 : xorB 92 ((pad64 l0).take i) ++ [bits .xor .u8 (rd l0 i) 92] = xorB 92 ((pad64 l0).take (i + 1)) := by
          rcases xorB_pad 92 l0 i hi64 with h | h
          · exact h
          · have := HN.out; rw [← HI.out.2.2.2.2.2.1] at h; omega
        obtain ⟨x, hxe⟩ : ∃ x, x = rd l0 (i : Int) := ⟨_, rfl⟩
        obtain ⟨y, hy⟩ : ∃ y, bits .xor .u8 x 54 = y := ⟨_, rfl⟩
        obtain ⟨z, hz⟩ : ∃ z, bits .xor .u8 x 92 = z := ⟨_, rfl⟩
        rw [← hxe, hy] at h54
        rw [← hxe, hz] at h92
        have hL0 : ∀ c j, (xorB c ((pad64 l0).take j)).length = min j 64 := fun c j => by rw [xorB_length, List.length_take, HKL.out]
        have hl54 : (xorB 54 ((pad64 l0).take i)).length + 1 ≤ 140737488355328 := by rw [hL0]; omega
        have hl92 : (xorB 92 ((pad64 l0).take i)).length + 1 ≤ 140737488355328 := by rw [hL0]; omega
        have HX := Lib.hid (show xorB 54 ((pad64 l0).take i) ++ [y] = xorB 54 ((pad64 l0).take (i + 1)) ∧ xorB 92 ((pad64 l0).take i) ++ [z] = xorB 92 ((pad64 l0).take (i + 1)) ∧ (xorB 54 ((pad64 l0).take (i + 1))).length = i + 1 ∧ (xorB 92 ((pad64 l0).take (i + 1))).length = i + 1 from ⟨h54, h92, by rw [hL0]; omega, by rw [hL0]; omega⟩)
        have HRW := Lib.hid (Kd.C_below HI.out.1 H.out.2.2.2)
        clear h54 h92 hL0 hx
        obtain ⟨P54, h54⟩ : ∃ P, P = xorB 54 ((pad64 l0).take i) := ⟨_, rfl⟩
        obtain ⟨P92, h92⟩ : ∃ P, P = xorB 92 ((pad64 l0).take i) := ⟨_, rfl⟩
        rw [← h54, ← h92] at H HX
        rw [← h54] at hl54
        rw [← h92] at hl92
        clear h54 h92
        go_upto_block 1 with (fail)
        go_cut [5, 6] (fun vi vo wc => ∃ (Ai Ao : Option Addr) (ci co : Nat), vi = .slice Ai (i + 1) ci ∧ vo = .slice Ao (i + 1) co ∧ Hid (Own w wc (.slice Ai (i + 1) ci) (xorB 54 ((pad64 l0).take (i + 1))) ∧ Own w wc (.slice Ao (i + 1) co) (xorB 92 ((pad64 l0).take (i + 1))) ∧ (∀ k, (Value.slice Ai (i + 1) ci).ownBlock = some k → (Value.slice Ao (i + 1) co).ownBlock ≠ some k) ∧ Below w.heap.size w wc))
        case first =>
          have hcases : (decide ((i : Int) < n0) = true ∧ i < n0) ∨ (decide ((i : Int) < n0) = false ∧ x = 0) := by
            by_cases h : i < n0
            · exact .inl ⟨decide_eq_true (by omega), h⟩
            · refine .inr ⟨decide_eq_false (by omega), ?_⟩
              rw [hxe]
              unfold rd
              rw [Int.toNat_natCast, List.getD_eq_getElem?_getD, List.getElem?_eq_none (by rw [← HI.out.2.2.2.2.2.1]; omega)]
              rfl
          rcases hcases with ⟨k1, k2⟩ | ⟨k1, k2⟩
          · have k1' : decide (i < n0) = true := decide_eq_true k2
            obtain ⟨ad, rfl, hcell⟩ := Rd.cells HRW.out (by omega)
            have hc := hcell i k2
            rw [← hxe] at hc
            have ki : (i : Int) < n0 := by omega
            clear hcell hxe k2
            go_upto_region 10 with (fail)
            go_wp2_with (at_builtin; refine app_one H.out.1 H.out.2.2.2 hl54 rfl rfl rfl rfl ?_)
            intro v3 w3 ho3 hb3 hg3 hat3
            have hp3 := pair_step H.out.2.1 H.out.2.2.1 hg3 hat3
            have HO3 := Lib.hid (show Own w w3 v3 (xorB 54 ((pad64 l0).take (i + 1))) ∧ Own w w3 (.slice Ao i co) P92 ∧ (∀ k, v3.ownBlock = some k → (Value.slice Ao i co).ownBlock ≠ some k) ∧ Below w.heap.size w w3 from ⟨ho3.cast (by first | (rw [← HX.out.1]; done) | (rw [← HX.out.1, ← hy]; rfl)), hp3.1, hp3.2, hb3⟩)
            clear ho3 hb3 hg3 hat3 hp3
            go_wp2_with (at_builtin; refine app_one HO3.out.2.1 HO3.out.2.2.2 hl92 rfl rfl rfl rfl ?_)
            intro v4 w4 ho4 hb4 hg4 hat4
            have hp4 := pair_step HO3.out.1 (fun k hk he => HO3.out.2.2.1 k he hk) hg4 hat4
            have ho4' : Own w w4 v4 (xorB 92 ((pad64 l0).take (i + 1))) := ho4.cast (by first | (rw [← HX.out.2.1]; done) | (rw [← HX.out.2.1, ← hz]; rfl))
            obtain ⟨A3, c3, rfl, _, _⟩ := hp4.1.reads
            obtain ⟨A4, c4, rfl, _, _⟩ := ho4'.reads
            rw [HX.out.2.2.1] at hp4 ⊢
            rw [HX.out.2.2.2] at hp4 ho4' ⊢
            have HO4 := Lib.hid (show Own w w4 (.slice A3 (i + 1) c3) (xorB 54 ((pad64 l0).take (i + 1))) ∧ Own w w4 (.slice A4 (i + 1) c4) (xorB 92 ((pad64 l0).take (i + 1))) ∧ (∀ k, (Value.slice A3 (i + 1) c3).ownBlock = some k → (Value.slice A4 (i + 1) c4).ownBlock ≠ some k) ∧ Below w.heap.size w w4 from ⟨hp4.1, ho4', fun k hk he => hp4.2 k he hk, hb4⟩)
            clear ho4 hb4 hg4 hat4 hp4 ho4'
            go_wp2
            go_meet
            case rel => exact ⟨A3, A4, c3, c4, rfl, rfl, HO4⟩
          · have k1' : decide (i < n0) = false := by rw [decide_eq_false_iff_not] at k1 ⊢; omega
            subst k2
            clear hxe
            go_upto_region 10 with (fail)
            go_wp2_with (at_builtin; refine app_one H.out.1 H.out.2.2.2 hl54 rfl rfl rfl rfl ?_)
            intro v3 w3 ho3 hb3 hg3 hat3
            have hp3 := pair_step H.out.2.1 H.out.2.2.1 hg3 hat3
            have HO3 := Lib.hid (show Own w w3 v3 (xorB 54 ((pad64 l0).take (i + 1))) ∧ Own w w3 (.slice Ao i co) P92 ∧ (∀ k, v3.ownBlock = some k → (Value.slice Ao i co).ownBlock ≠ some k) ∧ Below w.heap.size w w3 from ⟨ho3.cast (by first | (rw [← HX.out.1]; done) | (rw [← HX.out.1, ← hy]; rfl)), hp3.1, hp3.2, hb3⟩)
            clear ho3 hb3 hg3 hat3 hp3
            go_wp2_with (at_builtin; refine app_one HO3.out.2.1 HO3.out.2.2.2 hl92 rfl rfl rfl rfl ?_)
            intro v4 w4 ho4 hb4 hg4 hat4
            have hp4 := pair_step HO3.out.1 (fun k hk he => HO3.out.2.2.1 k he hk) hg4 hat4
            have ho4' : Own w w4 v4 (xorB 92 ((pad64 l0).take (i + 1))) := ho4.cast (by first | (rw [← HX.out.2.1]; done) | (rw [← HX.out.2.1, ← hz]; rfl))
            obtain ⟨A3, c3, rfl, _, _⟩ := hp4.1.reads
            obtain ⟨A4, c4, rfl, _, _⟩ := ho4'.reads
            rw [HX.out.2.2.1] at hp4 ⊢
            rw [HX.out.2.2.2] at hp4 ho4' ⊢
            have HO4 := Lib.hid (show Own w w4 (.slice A3 (i + 1) c3) (xorB 54 ((pad64 l0).take (i + 1))) ∧ Own w w4 (.slice A4 (i + 1) c4) (xorB 92 ((pad64 l0).take (i + 1))) ∧ (∀ k, (Value.slice A3 (i + 1) c3).ownBlock = some k → (Value.slice A4 (i + 1) c4).ownBlock ≠ some k) ∧ Below w.heap.size w w4 from ⟨hp4.1, ho4', fun k hk he => hp4.2 k he hk, hb4⟩)
            clear ho4 hb4 hg4 hat4 hp4 ho4'
            go_wp2
            go_meet
            case rel => exact ⟨A3, A4, c3, c4, rfl, rfl, HO4⟩
        case rest =>
          obtain ⟨Ai', Ao', ci', co', rfl, rfl, H2⟩ := hcut
          go_wp2
          go_roundw
          case rel => exact ⟨i + 1, Ai', Ao', ci', co', rfl, rfl, by go_num, by omega, H2⟩
          case measure => simp [intOf]; omega
      · obtain rfl : i = 64 := by omega
        have hk64 : (pad64 l0).take 64 = pad64 l0 := List.take_of_length_le (by rw [HKL.out]; exact Nat.le_refl _)
        have hri : Rd wr Ai 64 (xorB 54 (pad64 l0)) := by
          have := (Kd.R_reads' H.out.1).2.2
          rw [hk64, xorB_length, HKL.out] at this
          exact this
        have hro : Own w wr (.slice Ao 64 co) (xorB 92 (pad64 l0)) := by have := H.out.2.1; rwa [hk64] at this
        obtain ⟨g5, hg5⟩ : ∃ g5, g5 = wr.heap.size := ⟨_, rfl⟩
        obtain ⟨W2, hW2⟩ : ∃ W2, W2 = wr.alloc (.cells #[.slice Ai 64 ci, .slice A1 n1 c1] 22) := ⟨_, rfl⟩
        have hB2 : Below wr.heap.size wr W2 := by rw [hW2]; exact below_alloc (Below.refl _ _) _
        have HL := Lib.hid (show W2.cell? ⟨g5, 0, none⟩ = some (.slice Ai 64 ci) ∧ W2.cell? ⟨g5, 1, none⟩ = some (.slice A1 n1 c1) ∧ Rd W2 Ai 64 (xorB 54 (pad64 l0)) ∧ Below w.heap.size w W2 ∧ Own w W2 (.slice Ao 64 co) (xorB 92 (pad64 l0)) from
          ⟨by rw [hW2, hg5]; exact (two_new wr _ _ _).1, by rw [hW2, hg5]; exact (two_new wr _ _ _).2, Kd.C_below hri hB2, below_step H.out.2.2.2 hB2, hro.below hB2⟩)
        have HS2 := Lib.hid (show g5 = wr.heap.size ∧ W2 = wr.alloc _ from ⟨hg5, hW2⟩)
        clear H hk64 hri hro hB2 hg5 hW2
        go_wp2_with fail
        rw [← HS2.out.1, ← HS2.out.2]
        refine (Concat_calls Ai ci (xorB 54 (pad64 l0)) A1 c1 l1 g5 _ HL.out.2.2.1 (Kd.C_below HI.out.2.1 HL.out.2.2.2.1) HL.out.1 HL.out.2.1 (by have := HN.out; omega)).mono ?_
        rintro e w3 ⟨v3, rfl, ho3, hb3⟩
        obtain ⟨A3, c3, rfl, hc3, hr3⟩ := ho3.reads
        rw [show (xorB 54 (pad64 l0) ++ l1).length = 64 + n1 by rw [List.length_append, xorB_length, HKL.out, ← HI.out.2.2.2.2.2.2]] at hc3 hr3 ⊢
        have HR3 := Lib.hid (show Rd w3 A3 (64 + n1) (xorB 54 (pad64 l0) ++ l1) ∧ Bytes (xorB 54 (pad64 l0) ++ l1) ∧ 64 + n1 ≤ c3 ∧ Below w.heap.size w w3 ∧ Own w w3 (.slice Ao 64 co) (xorB 92 (pad64 l0)) from ⟨hr3, app_Bytes (xorB_Bytes _ _) HI.out.2.2.2.1, hc3, below_step HL.out.2.2.2.1 hb3, HL.out.2.2.2.2.below hb3⟩)
        clear ho3 hb3 hc3 hr3
        go_wp2_with fail
        refine (Sha256_calls A3 c3 _ _ HR3.out.1 HR3.out.2.1 HR3.out.2.2.1 (by have := HN.out; omega) (HI.out.2.2.2.2.1.below HR3.out.2.2.2.1 HI.out.2.2.2.2.1.lt)).mono ?_
        rintro e w4 ⟨rfl, hb4⟩
        obtain ⟨D, hD⟩ : ∃ D, D = sha2 (xorB 54 (pad64 l0) ++ l1) := ⟨_, rfl⟩
        have hDl : D.length = 32 := by rw [hD]; rfl
        have HD := Lib.hid (show D.length = 32 ∧ Bytes D ∧ D = sha2 (xorB 54 (pad64 l0) ++ l1) from ⟨hDl, by rw [hD]; exact sha2_Bytes _, hD⟩)
        rw [← hD]
        obtain ⟨g9, hg9⟩ : ∃ g9, g9 = w4.heap.size := ⟨_, rfl⟩
        obtain ⟨W5, hW5⟩ : ∃ W5, W5 = w4.alloc (.cells #[.int .u8 0, .int .u8 0, .int .u8 0, .int .u8 0, .int .u8 0, .int .u8 0, .int .u8 0, .int .u8 0, .int .u8 0, .int .u8 0, .int .u8 0, .int .u8 0, .int .u8 0, .int .u8 0, .int .u8 0, .int .u8 0, .int .u8 0, .int .u8 0, .int .u8 0, .int .u8 0, .int .u8 0, .int .u8 0, .int .u8 0, .int .u8 0, .int .u8 0, .int .u8 0, .int .u8 0, .int .u8 0, .int .u8 0, .int .u8 0, .int .u8 0, .int .u8 0] 31) := ⟨_, rfl⟩
        have hB5 : Below g9 w4 W5 := by rw [hW5, hg9]; exact below_alloc (Below.refl _ _) _
        have hbw := below_step HR3.out.2.2.2.1 hb4
        have ho5 := (HR3.out.2.2.2.2.below hb4).below (hg9 ▸ hB5)
        have hob : ∀ k, (Value.slice Ao 64 co).ownBlock = some k → k ≠ g9 := by
          intro k hk
          have := Kd.R_lt (HR3.out.2.2.2.2.below hb4) k hk
          omega
        have HM := Lib.hid (show Blk W5 g9 31 .u8 (List.replicate 32 0) ∧ Below w.heap.size w W5 ∧ w.heap.size ≤ g9 ∧ Own w W5 (.slice Ao 64 co) (xorB 92 (pad64 l0)) ∧ (∀ k, (Value.slice Ao 64 co).ownBlock = some k → k ≠ g9) from ⟨by rw [hW5, hg9]; exact Blk.new w4 31 .u8 (List.replicate 32 0), hbw.trans (hB5.mono (by rw [hg9]; exact hbw.size)), by rw [hg9]; exact hbw.size, ho5, hob⟩)
        have HS5 := Lib.hid (show g9 = w4.heap.size ∧ W5 = w4.alloc _ from ⟨hg9, hW5⟩)
        clear hB5 hbw ho5 hob hg9 hW5 hb4 hD hDl
        go_upto_region 14 with (refine gate_ (.store 31 (.tmp 9) (.tmp 45)) rfl ?_; rw [← HS5.out.1, ← HS5.out.2]; refine store_blk3 (m := D) rfl rfl rfl rfl rfl HM.out.1 (by rw [HD.out.1]; rfl) (by rw [HD.out.1]; kernel_rfl) ?_; intro w6 hk6 hb6 hf6; have HP := Lib.hid (show Rd w6 (some ⟨g9, 0, none⟩) 32 D ∧ Rd w6 Ao 64 (xorB 92 (pad64 l0)) ∧ Below w.heap.size w w6 from ⟨by have := hk6.row (by rw [HD.out.1]; decide); rwa [HD.out.1] at this, by have h1 := Kd.R_reads' (own_far HM.out.2.2.2.1 HM.out.2.2.2.2 hf6); have h2 := h1.2.2; rw [xorB_length, HKL.out] at h2; exact h2, hb6 _ _ HM.out.2.1 HM.out.2.2.1⟩); clear hk6 hb6 hf6)
        have HQ := Lib.hid (show sha2 (xorB 92 (pad64 l0) ++ D) = mac l0 l1 by rw [HD.out.2.2]; unfold mac; rw [HKK.out])
        obtain ⟨M, hM⟩ : ∃ M, M = mac l0 l1 := ⟨_, rfl⟩
        have HMM := Lib.hid hM
        have heq := fun W => mac_same l0 l1 W
        rw [← hM] at heq
        clear hM
        have HBd := Lib.hid (below_drew HP.out.2.2)
        have hdd : Below w6.heap.size w6 w6.drew := below_drew (Below.refl _ _)
        have HPd := Lib.hid (show Rd w6.drew Ao 64 (xorB 92 (pad64 l0)) ∧ Rd w6.drew (some ⟨g9, 0, none⟩) 32 D from ⟨Kd.C_below HP.out.2.1 hdd, Kd.C_below HP.out.1 hdd⟩)
        have HBa := Lib.hid (show Below w.heap.size w ((w6.alloc (.cells #[.slice Ao 64 co, .slice (some ⟨g9, 0, none⟩) 32 32] 22)).drew) from below_drew (below_alloc HP.out.2.2 _))
        have HCa := Lib.hid (show ((w6.alloc (.cells #[.slice Ao 64 co, .slice (some ⟨g9, 0, none⟩) 32 32] 22)).drew).cell? ⟨w6.heap.size, 0, none⟩ = some (.slice Ao 64 co) ∧ ((w6.alloc (.cells #[.slice Ao 64 co, .slice (some ⟨g9, 0, none⟩) 32 32] 22)).drew).cell? ⟨w6.heap.size, 1, none⟩ = some (.slice (some ⟨g9, 0, none⟩) 32 32) from two_new w6 (.slice Ao 64 co) (.slice (some ⟨g9, 0, none⟩) 32 32) 22)
        clear hdd
        go_region_with (first
          | (go_at_call 11; with_reducible refine (awake_calls _ (HI.out.2.2.2.2.1.below HB12.out HI.out.2.2.2.2.1.lt)).mono ?_; rintro e w13 ⟨rfl, hb13⟩; have HB13 := Lib.hid (below_step HB12.out hb13); clear hb13)
          | (go_at_call 16; with_reducible refine (Sha256_calls _ _ (xorB 92 (pad64 l0) ++ D) _ HR11.out.1 HR11.out.2.1 HR11.out.2.2.1 (by decide) (HI.out.2.2.2.2.1.below HR11.out.2.2.2 HI.out.2.2.2.2.1.lt)).mono ?_; rintro e w12 ⟨rfl, hb12⟩; rw [HQ.out, ← HMM.out]; have HB12 := Lib.hid (below_step HR11.out.2.2.2 hb12); clear hb12)
          | (go_at_call 24; with_reducible refine (Concat_calls Ao co (xorB 92 (pad64 l0)) (some ⟨g9, 0, none⟩) 32 D _ _ (Kd.C_below HP.out.2.1 HB8.out.2.1) (Kd.C_below HP.out.1 HB8.out.2.1) HB8.out.2.2.1 HB8.out.2.2.2 (by decide)).mono ?_; rintro e w11 ⟨v11, rfl, ho11, hb11⟩; obtain ⟨A11, c11, rfl, hc11, hr11⟩ := ho11.reads; rw [show (xorB 92 (pad64 l0) ++ D).length = 96 by rw [List.length_append, xorB_length, HKL.out, HD.out.1]] at hc11 hr11 ⊢; have HR11 := Lib.hid (show Rd w11 A11 96 (xorB 92 (pad64 l0) ++ D) ∧ Bytes (xorB 92 (pad64 l0) ++ D) ∧ 96 ≤ c11 ∧ Below w.heap.size w w11 from ⟨hr11, app_Bytes (xorB_Bytes _ _) HD.out.2.1, hc11, below_step HB8.out.1 hb11⟩); clear ho11 hb11 hc11 hr11)
          | (go_at_call 24; with_reducible refine (Concat_calls Ao co (xorB 92 (pad64 l0)) (some ⟨g9, 0, none⟩) 32 D _ _ (Kd.C_below (Kd.C_below HPd.out.1 HB7.out.2) (below_alloc (Below.refl _ _) _)) (Kd.C_below (Kd.C_below HPd.out.2 HB7.out.2) (below_alloc (Below.refl _ _) _)) (two_new w7 _ _ _).1 (two_new w7 _ _ _).2 (by decide)).mono ?_; rintro e w11 ⟨v11, rfl, ho11, hb11⟩; obtain ⟨A11, c11, rfl, hc11, hr11⟩ := ho11.reads; rw [show (xorB 92 (pad64 l0) ++ D).length = 96 by rw [List.length_append, xorB_length, HKL.out, HD.out.1]] at hc11 hr11 ⊢; have HR11 := Lib.hid (show Rd w11 A11 96 (xorB 92 (pad64 l0) ++ D) ∧ Bytes (xorB 92 (pad64 l0) ++ D) ∧ 96 ≤ c11 ∧ Below w.heap.size w w11 from ⟨hr11, app_Bytes (xorB_Bytes _ _) HD.out.2.1, hc11, below_step (below_alloc HB7.out.1 _) hb11⟩); clear ho11 hb11 hc11 hr11)
          | (go_at_call 22; with_reducible refine (Mac_calls _ _ l0 _ _ l1 _ (Kd.C_below HI.out.1 HBd.out) HI.out.2.2.1 hc0 (by have := HN.out; omega) (Kd.C_below HI.out.2.1 HBd.out) HI.out.2.2.2.1 (by have := HN.out; omega) (HI.out.2.2.2.2.1.below HBd.out HI.out.2.2.2.2.1.lt)).mono ?_; rintro e w7 ⟨rfl, hb7⟩; rw [← HMM.out]; have HB7 := Lib.hid (show Below w.heap.size w w7 ∧ Below w6.drew.heap.size w6.drew w7 from ⟨below_step HBd.out hb7, hb7⟩); clear hb7)
          | (go_at_call 22; with_reducible refine (Mac_calls _ _ l0 _ _ l1 ((w6.alloc (.cells #[.slice Ao 64 co, .slice (some ⟨g9, 0, none⟩) 32 32] 22)).drew) (Kd.C_below HI.out.1 HBa.out) HI.out.2.2.1 hc0 (by have := HN.out; omega) (Kd.C_below HI.out.2.1 HBa.out) HI.out.2.2.2.1 (by have := HN.out; omega) (HI.out.2.2.2.2.1.below HBa.out HI.out.2.2.2.2.1.lt)).mono ?_; rintro e w8 ⟨rfl, hb8⟩; rw [← HMM.out]; have HB8 := Lib.hid (show Below w.heap.size w w8 ∧ Below w6.heap.size w6 w8 ∧ w8.cell? ⟨w6.heap.size, 0, none⟩ = some (.slice Ao 64 co) ∧ w8.cell? ⟨w6.heap.size, 1, none⟩ = some (.slice (some ⟨g9, 0, none⟩) 32 32) from ⟨below_step HBa.out hb8, below_step (below_drew (below_alloc (Below.refl _ _) _)) hb8, pw_cell_below hb8 HCa.out.1, pw_cell_below hb8 HCa.out.2⟩); clear hb8))
        all_goals
          go_wp2
          go_ret
          exact ⟨rfl, HB13.out⟩
end Go.Proofs.YtfhnchabifklnaaDoor
