/- The texts Whole, AuthParse, BackLaw, AuthLaw in one. -/
import Derived.Test.YtcgenmogedndjaaDoorG01
import Derived.Test.YtcgenmogedndjaaDoorG03
import Derived.Test.YtcgenmogedndjaaDoorG10
import Derived.Test.YtcgenmogedndjaaDoorG14
import Derived.Test.YtcgenmogedndjaaDoorG15
import Derived.Laws.Rows
namespace Go.Proofs.YtcgenmogedndjaaDoor
open Go.RowKit Go.Proofs.YtcgenmogedndjaaDoorW.PrintWords
/-- Block g holds just these cells, and may be written. -/
def Whole (w : World) (g : Nat) (t : TypeId) (cs : Array Value) : Prop := w.heap[g]? = some (.cells cs t (0, 0))
theorem Whole.new (w : World) (t : TypeId) (cs : Array Value) : Whole (w.alloc (.cells cs t)) w.heap.size t cs := heap_alloc_new w _
theorem Whole.lt {w : World} {g t : Nat} {cs : Array Value} (h : Whole w g t cs) : g < w.heap.size := lt_of_heap h
theorem Whole.below {w w1 : World} {g t B : Nat} {cs : Array Value} (h : Whole w g t cs) (hb : Below B w w1) (hg : g < B) : Whole w1 g t cs := by
  unfold Whole at *
  rw [hb.block g hg, h]
theorem Whole.far {w : World} {g t : Nat} {cs : Array Value} (h : Whole w g t cs) {w1 : World} (hk : w1.heap[g]? = w.heap[g]?) : Whole w1 g t cs := hk.trans h
theorem Whole.grown {w w1 : World} {g t : Nat} {cs : Array Value} (h : Whole w g t cs) {row : Option Nat} (hg : w.grownBy w1 row) (hr : some g ≠ row) : Whole w1 g t cs := (hg.block g h.lt hr).trans h
theorem Whole.cell {w : World} {g t : Nat} {cs : Array Value} (h : Whole w g t cs) (i : Nat) (v : Value) (hi : cs[i]? = some v) : w.cell? ⟨g, i, none⟩ = some v := by
  simp [World.cell?, show w.heap[g]? = some (.cells cs t (0, 0)) from h, hi]
theorem Whole.free {w : World} {g t : Nat} {cs : Array Value} (h : Whole w g t cs) (i : Nat) : w.frozen? ⟨g, i, none⟩ = false := by
  simp [World.frozen?, show w.heap[g]? = some (.cells cs t (0, 0)) from h]
theorem Whole.set {w : World} {g t : Nat} {cs : Array Value} (h : Whole w g t cs) (i : Nat) (v : Value) : Whole (w.setCell ⟨g, i, none⟩ v) g t (cs.set! i v) := by
  have hp : w.heap[g]? = some (.cells cs t (0, 0)) := h
  unfold Whole
  simp [World.setCell, Array.getElem?_modify, hp]
section
variable {ops : Array Oper} {rest : List Oper} {o : Oper} {a : Act} {Q : Exit → Act → World → Prop} {w : World}
/-- A struct is stored whole. -/
theorem store_whole {g t : Nat} {cs ds : Array Value} {T : TypeId} {p x : Operand} (hgd : o.guard = none) (hN : o.dst = none) (ho : o.op = .store T p x) (hp : a.eval p = .pointer (some ⟨g, 0, none⟩)) (hx : a.eval x = .agg ds) (h : Whole w g t cs) (hl : ds.size = cs.size)
    (h1 : ∀ q ∈ ds.toList, q.oneCell' = true) (hd : (Value.agg ds).cells.toList = ds.toList) (ht : (Tryd.prog.info? T).map (·.size) = some ds.toList.length)
    (hK : ∀ w1, Whole w1 g t ds → (∀ B a0, Below B a0 w → B ≤ g → Below B a0 w1) → (∀ k, k ≠ g → w1.heap[k]? = w.heap[k]?) → w.grownBy w1 (some g) → wpList Tryd.prog ops Q rest a w1) : wpList Tryd.prog ops Q (o :: rest) a w := by
  have hrun := run_store_run (P := Tryd.prog) (w := w) (g := g) (o := 0) T (.agg ds) ds.toList h hd ht (by rw [Array.length_toList]; omega) h1
  obtain ⟨cur', h2, h3, h4⟩ := setCells_row ds.toList 0 w _ h (by rw [Array.length_toList]; omega)
  obtain ⟨s1, s2, s3, s4⟩ := setCells_same g ds.toList 0 w
  refine wpList_plain hgd fun K hK' => ?_
  unfold Oper.wp execOp
  simp only [ho, hp, hx, Sem.run_bind, Sem.run_pure, Result.andThen_ok, hrun]
  show K (a.put o.dst undef) _
  rw [hN]
  refine hK' a _ (hK _ ?_ ?_ ?_ ?_)
  · unfold Whole
    have : cur' = ds := Array.ext' (by rw [h4]; simp [hl])
    rw [h2, this]
  · intro B a0 hb hB
    exact hb.trans ⟨s1, s2, s3, by rw [s4]; exact Nat.le_refl _, fun j hj => setCells_far _ _ j (by omega)⟩
  · intro k hk
    exact setCells_far _ _ k hk
  · exact ⟨s1, s2, s3, by rw [s4]; exact Nat.le_refl _, fun j _ hj => setCells_far _ _ j (fun e => hj (by rw [e]))⟩
end
section
variable {P : Program}
theorem results_whole {fn : Func} {p : Tmp} {ty : TypeId} (h : fn.results = #[.cell p ty]) (tmps : Array Value) (w : World) (g : Nat) (t : TypeId) (cs : Array Value) (fr : Nat × Nat) (d : TypeDesc)
    (hp : tmps.getD p undef = .pointer (some ⟨g, 0, none⟩)) (hg : w.heap[g]? = some (.cells cs t fr))
    (hu : P.underlying ty = some d) (hd : (match d with | .struct _ | .array _ _ => true | _ => false) = true) (hi : (P.info? ty).map (·.size) = some cs.size) :
    (results fn tmps).run P w = .ok (.agg cs) w := by
  have hp' : tmps[p]?.getD undef = .pointer (some ⟨g, 0, none⟩) := by simpa using hp
  simp [results, h, hp', asAddr, run_loadVar_row w g t ty cs fr d hg hu hd hi]
theorem results_tct {fn : Func} {p u v : Tmp} {ty : TypeId} (h : fn.results = #[.tmp u, .cell p ty, .tmp v]) (tmps : Array Value) (w : World) (g : Nat) (t : TypeId) (cs : Array Value) (fr : Nat × Nat) (d : TypeDesc)
    (hp : tmps.getD p undef = .pointer (some ⟨g, 0, none⟩)) (hg : w.heap[g]? = some (.cells cs t fr))
    (hu : P.underlying ty = some d) (hd : (match d with | .struct _ | .array _ _ => true | _ => false) = true) (hi : (P.info? ty).map (·.size) = some cs.size) :
    (results fn tmps).run P w = .ok (.tuple #[tmps.getD u undef, .agg cs, tmps.getD v undef]) w := by
  have hp' : tmps[p]?.getD undef = .pointer (some ⟨g, 0, none⟩) := by simpa using hp
  simp [results, h, hp', asAddr, run_loadVar_row w g t ty cs fr d hg hu hd hi]
end
end Go.Proofs.YtcgenmogedndjaaDoor
namespace Go.Proofs.YtcgenmogedndjaaDoor
open Go.RowKit Go.Proofs.YtcgenmogedndjaaDoorW.PrintWords
theorem readText_max (r : List Int) : (readText r 24).1.length ≤ 24 := by
  unfold readText
  split
  · simp
  split
  · simp
  split
  · simp
  · rename_i h1 h2 h3
    simp only [List.length_drop, List.length_take]
    omega
/-- Where a payload's parts begin. -/
def at1 (l : List Int) : Nat := (readNum l).2.1.toNat
def at2 (l : List Int) : Nat := at1 l + (readText (l.drop (at1 l)) 24).2.1
def at3 (l : List Int) : Nat := at2 l + (readText (l.drop (at2 l)) 24).2.1
def at4 (l : List Int) : Nat := at3 l + (readNum (l.drop (at3 l))).2.1.toNat
def idOf (l : List Int) : Int := (readNum l).1
def clmOf (l : List Int) : Clm := ⟨strOfNums (readText (l.drop (at1 l)) 24).1, strOfNums (readText (l.drop (at2 l)) 24).1, (readNum (l.drop (at3 l))).1⟩
/-- Are the four parts right? -/
def fourB (l : List Int) : Bool := decide ((readNum l).2.2 = 0 ∧ (readText (l.drop (at1 l)) 24).2.2 = 0 ∧ (readText (l.drop (at2 l)) 24).2.2 = 0 ∧ (readNum (l.drop (at3 l))).2.2 = 0)
def parseB (l : List Int) : Bool := fourB l && decide (at4 l = l.length) && nameB (clmOf l).client && nameB (clmOf l).group && decide ((clmOf l).upto ≤ 1099511627776)
theorem parseB_four {l : List Int} (h : ¬ ((readNum l).2.2 = 0 ∧ (readText (l.drop (at1 l)) 24).2.2 = 0 ∧ (readText (l.drop (at2 l)) 24).2.2 = 0 ∧ (readNum (l.drop (at3 l))).2.2 = 0)) : parseB l = false := by
  unfold parseB fourB
  rw [decide_eq_false h]
  simp
theorem parseB_end {l : List Int} (h : at4 l ≠ l.length) : parseB l = false := by
  unfold parseB
  rw [decide_eq_false h]
  simp
theorem parseB_name {l : List Int} (h : nameB (clmOf l).client = false ∨ nameB (clmOf l).group = false) : parseB l = false := by
  unfold parseB
  rcases h with h | h <;> rw [h] <;> simp
theorem parseB_time {l : List Int} (h : 1099511627776 < (clmOf l).upto) : parseB l = false := by
  unfold parseB
  rw [decide_eq_false (show ¬ (clmOf l).upto ≤ 1099511627776 by omega)]
  simp
theorem parseB_ok {l : List Int} (h1 : (readNum l).2.2 = 0 ∧ (readText (l.drop (at1 l)) 24).2.2 = 0 ∧ (readText (l.drop (at2 l)) 24).2.2 = 0 ∧ (readNum (l.drop (at3 l))).2.2 = 0) (h2 : at4 l = l.length) (h3 : nameB (clmOf l).client = true) (h4 : nameB (clmOf l).group = true) (h5 : (clmOf l).upto ≤ 1099511627776) : parseB l = true := by
  unfold parseB fourB
  rw [decide_eq_true h1, decide_eq_true h2, h3, h4, decide_eq_true h5]
  rfl
set_option maxRecDepth 20000 in
set_option maxHeartbeats 6400000 in
theorem parse_calls {n : Nat} (A0 : Option Addr) (c0 : Nat) (l : List Int) (w : World) (hr0 : Rd w A0 n l) (hy : Bytes l) (hs : n ≤ 35184372088832) :
    Calls Tryd.prog 31 #[.slice A0 n c0] w fun e w' => e = .returned (.tuple #[.int .i64 (idOf l), .agg #[.string (clmOf l).client, .string (clmOf l).group, .int .i64 (clmOf l).upto], .bool (parseB l)]) ∧ Below w.heap.size w w' := by
  have hlen : l.length = n := Kd.C_len hr0
  obtain ⟨R, hR⟩ : ∃ R, R = parseB l := ⟨_, rfl⟩
  rw [← hR]
  have HRR := Lib.hid hR
  obtain ⟨g, hg⟩ : ∃ g, g = w.heap.size := ⟨_, rfl⟩
  obtain ⟨W0, hW0⟩ : ∃ W0, W0 = w.alloc (.cells #[.string ⟨#[]⟩, .string ⟨#[]⟩, .int .i64 0] 24) := ⟨_, rfl⟩
  have hbw : Below w.heap.size w W0 := by rw [hW0]; exact below_alloc (Below.refl _ _) _
  have hwh : Whole W0 g 24 #[.string ⟨#[]⟩, .string ⟨#[]⟩, .int .i64 0] := by rw [hW0, hg]; exact Whole.new w _ _
  have HS := Lib.hid (show g = w.heap.size ∧ W0 = w.alloc _ from ⟨hg, hW0⟩)
  have HI := Lib.hid (show Rd W0 A0 n l ∧ Bytes l ∧ n ≤ 35184372088832 ∧ Below w.heap.size w W0 ∧ Whole W0 g 24 #[.string ⟨#[]⟩, .string ⟨#[]⟩, .int .i64 0] ∧ l.length = n ∧ w.heap.size ≤ g from ⟨Kd.C_below hr0 hbw, hy, hs, hbw, hwh, hlen, by rw [hg]; exact Nat.le_refl _⟩)
  clear hlen hR hg hW0 hbw hwh hr0 hy hs
  obtain ⟨N1, hN1⟩ : ∃ N, N = (readNum l).1 := ⟨_, rfl⟩
  obtain ⟨E1, hE1⟩ : ∃ E, E = (readNum l).2.2 := ⟨_, rfl⟩
  obtain ⟨S1, hS1⟩ : ∃ S, S = strOfNums (readText (l.drop (at1 l)) 24).1 := ⟨_, rfl⟩
  obtain ⟨E2, hE2⟩ : ∃ E, E = (readText (l.drop (at1 l)) 24).2.2 := ⟨_, rfl⟩
  obtain ⟨S2, hS2⟩ : ∃ S, S = strOfNums (readText (l.drop (at2 l)) 24).1 := ⟨_, rfl⟩
  obtain ⟨E3, hE3⟩ : ∃ E, E = (readText (l.drop (at2 l)) 24).2.2 := ⟨_, rfl⟩
  obtain ⟨N2, hN2⟩ : ∃ N, N = (readNum (l.drop (at3 l))).1 := ⟨_, rfl⟩
  obtain ⟨E4, hE4⟩ : ∃ E, E = (readNum (l.drop (at3 l))).2.2 := ⟨_, rfl⟩
  have hsz1 : S1.size ≤ 24 := by rw [hS1, strOf_size]; exact readText_max _
  have hsz2 : S2.size ≤ 24 := by rw [hS2, strOf_size]; exact readText_max _
  have HZ := Lib.hid (And.intro hsz1 hsz2)
  have HE := Lib.hid (show E1 = (readNum l).2.2 ∧ E2 = (readText (l.drop (at1 l)) 24).2.2 ∧ E3 = (readText (l.drop (at2 l)) 24).2.2 ∧ E4 = (readNum (l.drop (at3 l))).2.2 from ⟨hE1, hE2, hE3, hE4⟩)
  have HCL := Lib.hid (show idOf l = N1 ∧ (clmOf l).client = S1 ∧ (clmOf l).group = S2 ∧ (clmOf l).upto = N2 from ⟨hN1.symm, hS1.symm, hS2.symm, hN2.symm⟩)
  have HNS := Lib.hid (show N1 = (readNum l).1 ∧ S1 = strOfNums (readText (l.drop (at1 l)) 24).1 ∧ S2 = strOfNums (readText (l.drop (at2 l)) 24).1 ∧ N2 = (readNum (l.drop (at3 l))).1 from ⟨hN1, hS1, hS2, hN2⟩)
  rw [HCL.out.1, HCL.out.2.1, HCL.out.2.2.1, HCL.out.2.2.2]
  clear hsz1 hsz2 hE1 hE2 hE3 hE4 hN1 hS1 hS2 hN2
  go_enter Tryd.func31, Tryd.ntmps31
  go_wp2_with fail
  rw [← HS.out.1, ← HS.out.2]
  refine (From_calls _ _ l _ HI.out.1 (by have := HI.out.2.2.1; omega)).mono ?_
  rintro e w1 ⟨gc, pc, A, c, rfl, hc1, hge, hpe, _, hb1⟩
  have HC1 := Lib.hid hc1
  have HN := Lib.hid (show g ≠ pc ∧ g < w1.heap.size ∧ w.heap.size ≤ pc from ⟨by have := HI.out.2.2.2.2.1.lt; omega, Nat.lt_of_lt_of_le HI.out.2.2.2.2.1.lt hb1.size, by have := HI.out.2.2.2.1.size; omega⟩)
  have HB1 := Lib.hid (show Below w.heap.size w w1 ∧ Whole w1 g 24 #[.string ⟨#[]⟩, .string ⟨#[]⟩, .int .i64 0] from ⟨below_step HI.out.2.2.2.1 hb1, HI.out.2.2.2.2.1.below hb1 HI.out.2.2.2.2.1.lt⟩)
  clear hc1 hge hpe hb1
  go_wp2_with fail
  refine (CNumber_calls _ HC1.out HI.out.2.1).mono ?_
  rintro e w2 ⟨rfl, hc2, hg2⟩
  rw [List.drop_zero] at hc2 ⊢
  rw [Nat.zero_add] at hc2
  rw [← HNS.out.1, ← HE.out.1]
  have HC2 := Lib.hid (show Cur w2 gc pc A n c l (at1 l) from hc2)
  have HG2 := Lib.hid hg2
  clear hc2 hg2
  go_wp2_with fail
  refine (CText_calls 24 _ HC2.out HI.out.2.1).mono ?_
  rintro e w3 ⟨rfl, hc3, hg3⟩
  rw [← HNS.out.2.1, ← HE.out.2.1]
  have HC3 := Lib.hid (show Cur w3 gc pc A n c l (at2 l) from hc3)
  have HG3 := Lib.hid (Lib.grownBy_trans HG2.out hg3)
  clear hc3 hg3
  go_wp2_with fail
  refine (CText_calls 24 _ HC3.out HI.out.2.1).mono ?_
  rintro e w4 ⟨rfl, hc4, hg4⟩
  rw [← HNS.out.2.2.1, ← HE.out.2.2.1]
  have HC4 := Lib.hid (show Cur w4 gc pc A n c l (at3 l) from hc4)
  have HG4 := Lib.hid (Lib.grownBy_trans HG3.out hg4)
  clear hc4 hg4
  go_wp2_with fail
  refine (CNumber_calls _ HC4.out HI.out.2.1).mono ?_
  rintro e w5 ⟨rfl, hc5, hg5⟩
  rw [← HNS.out.2.2.2, ← HE.out.2.2.2]
  have HC5 := Lib.hid (show Cur w5 gc pc A n c l (at4 l) from hc5)
  have hg5' := Lib.grownBy_trans HG4.out hg5
  have HB5 := Lib.hid (show Below w.heap.size w w5 ∧ Whole w5 g 24 #[.string ⟨#[]⟩, .string ⟨#[]⟩, .int .i64 0] from ⟨Below.grown HB1.out.1 hg5' HB1.out.1.size (fun k hk => by cases hk; exact HN.out.2.2), HB1.out.2.grown hg5' (by intro e; injection e with e; exact HN.out.1 e)⟩)
  have H4 := Lib.hid (show at4 l ≤ n from HC5.out.le)
  clear hc5 hg5 hg5'
  go_upto_region 6 with (fail)
  by_cases e1 : E1 = 0
  case' neg =>
    have f1 : (E1 == 0) = false := beq_eq_false_iff_ne.2 e1
    have HF := Lib.hid (show R = false by rw [HRR.out]; exact parseB_four (fun h => e1 (by have := HE.out; omega)))
    clear e1
    go_wp2_with (refine gate_ (.store 24 (.tmp 3) (.tmp 72)) rfl ?_; refine store_whole rfl rfl rfl rfl rfl HB5.out.2 rfl (by simp [Value.oneCell']) rfl (by kernel_rfl) ?_; intro w9 hk9 hb9 hf9 hg9)
    refine bodyPost_ret (results_tct rfl _ _ g _ _ _ _ rfl hk9 Tryd.underlying24 rfl (by kernel_rfl)) rfl ?_
    exact ⟨by rw [HF.out]; rfl, hb9 _ _ HB5.out.1 HI.out.2.2.2.2.2.2⟩
  have f1 : (E1 == 0) = true := beq_iff_eq.2 e1
  by_cases e2 : E2 = 0
  case' neg =>
    have f2 : (E2 == 0) = false := beq_eq_false_iff_ne.2 e2
    have HF := Lib.hid (show R = false by rw [HRR.out]; exact parseB_four (fun h => e2 (by have := HE.out; omega)))
    clear e1 e2
    go_wp2_with (refine gate_ (.store 24 (.tmp 3) (.tmp 72)) rfl ?_; refine store_whole rfl rfl rfl rfl rfl HB5.out.2 rfl (by simp [Value.oneCell']) rfl (by kernel_rfl) ?_; intro w9 hk9 hb9 hf9 hg9)
    refine bodyPost_ret (results_tct rfl _ _ g _ _ _ _ rfl hk9 Tryd.underlying24 rfl (by kernel_rfl)) rfl ?_
    exact ⟨by rw [HF.out]; rfl, hb9 _ _ HB5.out.1 HI.out.2.2.2.2.2.2⟩
  have f2 : (E2 == 0) = true := beq_iff_eq.2 e2
  by_cases e3 : E3 = 0
  case' neg =>
    have f3 : (E3 == 0) = false := beq_eq_false_iff_ne.2 e3
    have HF := Lib.hid (show R = false by rw [HRR.out]; exact parseB_four (fun h => e3 (by have := HE.out; omega)))
    clear e1 e2 e3
    go_wp2_with (refine gate_ (.store 24 (.tmp 3) (.tmp 72)) rfl ?_; refine store_whole rfl rfl rfl rfl rfl HB5.out.2 rfl (by simp [Value.oneCell']) rfl (by kernel_rfl) ?_; intro w9 hk9 hb9 hf9 hg9)
    refine bodyPost_ret (results_tct rfl _ _ g _ _ _ _ rfl hk9 Tryd.underlying24 rfl (by kernel_rfl)) rfl ?_
    exact ⟨by rw [HF.out]; rfl, hb9 _ _ HB5.out.1 HI.out.2.2.2.2.2.2⟩
  have f3 : (E3 == 0) = true := beq_iff_eq.2 e3
  by_cases e4 : E4 = 0
  case' neg =>
    have f4 : (E4 == 0) = false := beq_eq_false_iff_ne.2 e4
    have HF := Lib.hid (show R = false by rw [HRR.out]; exact parseB_four (fun h => e4 (by have := HE.out; omega)))
    clear e1 e2 e3 e4
    go_wp2_with (refine gate_ (.store 24 (.tmp 3) (.tmp 72)) rfl ?_; refine store_whole rfl rfl rfl rfl rfl HB5.out.2 rfl (by simp [Value.oneCell']) rfl (by kernel_rfl) ?_; intro w9 hk9 hb9 hf9 hg9)
    refine bodyPost_ret (results_tct rfl _ _ g _ _ _ _ rfl hk9 Tryd.underlying24 rfl (by kernel_rfl)) rfl ?_
    exact ⟨by rw [HF.out]; rfl, hb9 _ _ HB5.out.1 HI.out.2.2.2.2.2.2⟩
  have f4 : (E4 == 0) = true := beq_iff_eq.2 e4
  have H0 := Lib.hid (show (readNum l).2.2 = 0 ∧ (readText (l.drop (at1 l)) 24).2.2 = 0 ∧ (readText (l.drop (at2 l)) 24).2.2 = 0 ∧ (readNum (l.drop (at3 l))).2.2 = 0 by have := HE.out; omega)
  clear e1 e2 e3 e4
  by_cases h5 : at4 l = n
  case' neg =>
    have HF := Lib.hid (show R = false by rw [HRR.out]; exact parseB_end (by have := HI.out.2.2.2.2.2.1; omega))
    have H5 := Lib.hid (show at4 l < n by have := H4.out; omega)
    clear h5
    go_wp2_with fail
    refine (End_more _ HC5.out H5.out).mono ?_
    rintro e w6 ⟨rfl, hd6⟩
    have HB6 := Lib.hid (show Below w.heap.size w w6 ∧ Whole w6 g 24 #[.string ⟨#[]⟩, .string ⟨#[]⟩, .int .i64 0] from ⟨below_step HB5.out.1 hd6.below, HB5.out.2.below hd6.below HB5.out.2.lt⟩)
    clear hd6
    go_wp2_with (refine gate_ (.store 24 (.tmp 3) (.tmp 72)) rfl ?_; refine store_whole rfl rfl rfl rfl rfl HB6.out.2 rfl (by simp [Value.oneCell']) rfl (by kernel_rfl) ?_; intro w9 hk9 hb9 hf9 hg9)
    refine bodyPost_ret (results_tct rfl _ _ g _ _ _ _ rfl hk9 Tryd.underlying24 rfl (by kernel_rfl)) rfl ?_
    exact ⟨by rw [HF.out]; rfl, hb9 _ _ HB6.out.1 HI.out.2.2.2.2.2.2⟩
  have H5 := Lib.hid h5
  clear h5
  go_wp2_with fail
  refine (End_ok _ HC5.out H5.out).mono ?_
  rintro e w6 ⟨rfl, hd6⟩
  have HB6 := Lib.hid (show Below w.heap.size w w6 ∧ Whole w6 g 24 #[.string ⟨#[]⟩, .string ⟨#[]⟩, .int .i64 0] from ⟨below_step HB5.out.1 hd6.below, HB5.out.2.below hd6.below HB5.out.2.lt⟩)
  clear hd6
  go_wp2_with fail
  refine (Name_calls S1 _ (by have := HZ.out; omega)).mono ?_
  rintro e w7 ⟨rfl, hb7⟩
  have HB7 := Lib.hid (show Below w.heap.size w w7 ∧ Whole w7 g 24 #[.string ⟨#[]⟩, .string ⟨#[]⟩, .int .i64 0] from ⟨below_step HB6.out.1 hb7, HB6.out.2.below hb7 HB6.out.2.lt⟩)
  clear hb7
  cases n1 : nameB S1 with
  | false =>
    have HF := Lib.hid (show R = false by rw [HRR.out]; exact parseB_name (.inl (by rw [HCL.out.2.1]; exact n1)))
    clear n1
    go_wp2_with (refine gate_ (.store 24 (.tmp 3) (.tmp 72)) rfl ?_; refine store_whole rfl rfl rfl rfl rfl HB7.out.2 rfl (by simp [Value.oneCell']) rfl (by kernel_rfl) ?_; intro w9 hk9 hb9 hf9 hg9)
    refine bodyPost_ret (results_tct rfl _ _ g _ _ _ _ rfl hk9 Tryd.underlying24 rfl (by kernel_rfl)) rfl ?_
    exact ⟨by rw [HF.out]; rfl, hb9 _ _ HB7.out.1 HI.out.2.2.2.2.2.2⟩
  | true =>
    have HN1 := Lib.hid n1
    clear n1
    go_wp2_with fail
    refine (Name_calls S2 _ (by have := HZ.out; omega)).mono ?_
    rintro e w8 ⟨rfl, hb8⟩
    have HB8 := Lib.hid (show Below w.heap.size w w8 ∧ Whole w8 g 24 #[.string ⟨#[]⟩, .string ⟨#[]⟩, .int .i64 0] from ⟨below_step HB7.out.1 hb8, HB7.out.2.below hb8 HB7.out.2.lt⟩)
    clear hb8
    cases n2 : nameB S2 with
    | false =>
      have HF := Lib.hid (show R = false by rw [HRR.out]; exact parseB_name (.inr (by rw [HCL.out.2.2.1]; exact n2)))
      clear n2
      go_wp2_with (refine gate_ (.store 24 (.tmp 3) (.tmp 72)) rfl ?_; refine store_whole rfl rfl rfl rfl rfl HB8.out.2 rfl (by simp [Value.oneCell']) rfl (by kernel_rfl) ?_; intro w9 hk9 hb9 hf9 hg9)
      refine bodyPost_ret (results_tct rfl _ _ g _ _ _ _ rfl hk9 Tryd.underlying24 rfl (by kernel_rfl)) rfl ?_
      exact ⟨by rw [HF.out]; rfl, hb9 _ _ HB8.out.1 HI.out.2.2.2.2.2.2⟩
    | true =>
      have HN2 := Lib.hid n2
      clear n2
      by_cases h6 : N2 ≤ 1099511627776
      · have d6 : decide (N2 ≤ 1099511627776) = true := decide_eq_true h6
        have HF := Lib.hid (show R = true by rw [HRR.out]; exact parseB_ok H0.out (by rw [H5.out]; exact HI.out.2.2.2.2.2.1.symm) (by rw [HCL.out.2.1]; exact HN1.out) (by rw [HCL.out.2.2.1]; exact HN2.out) (by rw [HCL.out.2.2.2]; exact h6))
        clear h6
        go_wp2_with (refine gate_ (.store 24 (.tmp 3) (.tmp 72)) rfl ?_; refine store_whole rfl rfl rfl rfl rfl HB8.out.2 rfl (by simp [Value.oneCell']) rfl (by kernel_rfl) ?_; intro w9 hk9 hb9 hf9 hg9)
        refine bodyPost_ret (results_tct rfl _ _ g _ _ _ _ rfl hk9 Tryd.underlying24 rfl (by kernel_rfl)) rfl ?_
        exact ⟨by rw [HF.out]; rfl, hb9 _ _ HB8.out.1 HI.out.2.2.2.2.2.2⟩
      · have d6 : decide (N2 ≤ 1099511627776) = false := decide_eq_false h6
        have HF := Lib.hid (show R = false by rw [HRR.out]; exact parseB_time (by rw [HCL.out.2.2.2]; omega))
        clear h6
        go_wp2_with (refine gate_ (.store 24 (.tmp 3) (.tmp 72)) rfl ?_; refine store_whole rfl rfl rfl rfl rfl HB8.out.2 rfl (by simp [Value.oneCell']) rfl (by kernel_rfl) ?_; intro w9 hk9 hb9 hf9 hg9)
        refine bodyPost_ret (results_tct rfl _ _ g _ _ _ _ rfl hk9 Tryd.underlying24 rfl (by kernel_rfl)) rfl ?_
        exact ⟨by rw [HF.out]; rfl, hb9 _ _ HB8.out.1 HI.out.2.2.2.2.2.2⟩
end Go.Proofs.YtcgenmogedndjaaDoor
namespace Go.Proofs.YtcgenmogedndjaaDoor
open Go.RowKit Go.Proofs.YtcgenmogedndjaaDoorW.PrintWords
theorem valOf_beBytes : ∀ (m : Nat) (x : Int), 0 ≤ x → x < 256 ^ m → valOf (beBytes m x) = x
  | 0, x, h0, h1 => by
    have : x = 0 := by simp at h1; omega
    subst this
    rfl
  | m + 1, x, h0, h1 => by
    have h2 : x / 256 < 256 ^ m := Int.ediv_lt_of_lt_mul (by decide) (by rw [Int.pow_succ] at h1; exact h1)
    rw [beBytes_succ, valOf_snoc, valOf_beBytes m (x / 256) (by omega) h2]
    omega
theorem byteLen_pow (x : Int) (h0 : 1 ≤ x) (h1 : x < 9223372036854775808) : 256 ^ (byteLen x - 1) ≤ x ∧ x < 256 ^ byteLen x := by
  unfold byteLen
  repeat' split
  all_goals simp
  all_goals omega
theorem readNum_put (x : Int) (hx : x < 9223372036854775808) (t : List Int) : readNum (numForm x ++ t) = ((if x < 0 then 0 else x), ((numForm x).length : Int), 0) := by
  by_cases h1 : x ≤ 247
  · have e : numForm x = [max x 0] := by unfold numForm; rw [if_pos h1]
    rw [e, List.singleton_append, readNum_small _ _ (by omega)]
    have : max x 0 = if x < 0 then 0 else x := by split <;> omega
    rw [this]
    rfl
  · have e : numForm x = (247 + (byteLen x : Int)) :: beBytes (byteLen x) x := by unfold numForm; rw [if_neg h1]
    have hr := byteLen_range x
    have hp := byteLen_pow x (by omega) hx
    have hl := beBytes_length (byteLen x) x
    have hm : (247 + (byteLen x : Int) - 247).toNat = byteLen x := by omega
    have ht : (beBytes (byteLen x) x ++ t).take (247 + (byteLen x : Int) - 247).toNat = beBytes (byteLen x) x := by
      rw [hm]
      conv => lhs; rw [← hl]
      rw [hl, List.take_append_of_le_length (by omega), List.take_of_length_le (by omega)]
    have hv : valOf ((beBytes (byteLen x) x ++ t).take (247 + (byteLen x : Int) - 247).toNat) = x := by rw [ht, valOf_beBytes _ _ (by omega) hp.2]
    rw [e, List.cons_append, readNum_long _ _ (by omega) (by rw [List.length_append, hl, hm]; omega)
      (by
        rw [hv, hm]
        rintro (h | h)
        · omega
        · have hq : (0 : Int) < 256 ^ (byteLen x - 1) := Int.pow_pos (by decide)
          have : 1 ≤ x / 256 ^ (byteLen x - 1) := Int.le_ediv_of_mul_le hq (by omega)
          omega) (by rw [hv]; omega), hv, if_neg (by omega), List.length_cons, hl]
    simp
    omega
theorem readText_put (s : ByteArray) (hs : s.size < 9223372036854775808) (t : List Int) : readText (textForm s ++ t) s.size = (bytesOf s, (textForm s).length, 0) := by
  have hn := readNum_put s.size (by omega) (bytesOf s ++ t)
  rw [← List.append_assoc, if_neg (by omega)] at hn
  have e : textForm s = numForm s.size ++ bytesOf s := rfl
  unfold readText
  rw [e, hn]
  have hl := bytesOf_length s
  rw [if_neg (by simp), if_neg (by omega), if_neg (by simp only [List.length_append]; omega)]
  simp only [Int.toNat_natCast, List.length_append, hl]
  rw [List.append_assoc, List.take_append, List.take_of_length_le (by omega), Nat.add_sub_cancel_left, List.take_append_of_le_length (by omega), List.take_of_length_le (by omega), List.drop_left]
end Go.Proofs.YtcgenmogedndjaaDoor
namespace Go.Proofs.YtcgenmogedndjaaDoor
open Go.RowKit Go.Proofs.YtcgenmogedndjaaDoorW.PrintWords
/-! ### A text cut at its first point -/
def dotAt : List Int → Nat
  | [] => 0
  | x :: t => if x = 46 then 0 else dotAt t + 1
theorem dotAt_le : ∀ (l : List Int), dotAt l ≤ l.length
  | [] => Nat.le_refl _
  | x :: t => by
    have := dotAt_le t
    unfold dotAt
    split <;> simp only [List.length_cons] <;> omega
theorem dotAt_app : ∀ (a b : List Int), (∀ x ∈ a, x ≠ 46) → dotAt (a ++ 46 :: b) = a.length
  | [], _, _ => rfl
  | x :: t, b, h => by
    rw [List.cons_append, dotAt, if_neg (h x (by simp)), dotAt_app t b (fun y hy => h y (by simp [hy]))]
    rfl
theorem dotAt_none : ∀ (a : List Int), (∀ x ∈ a, x ≠ 46) → dotAt a = a.length
  | [], _ => rfl
  | x :: t, h => by
    rw [dotAt, if_neg (h x (by simp)), dotAt_none t (fun y hy => h y (by simp [hy]))]
    rfl
theorem drop_dot : ∀ (l : List Int), dotAt l < l.length → l = l.take (dotAt l) ++ 46 :: l.drop (dotAt l + 1)
  | [], h => by simp [dotAt] at h
  | x :: t, h => by
    unfold dotAt at h ⊢
    by_cases hx : x = 46
    · simp [hx]
    · rw [if_neg hx] at h ⊢
      simp only [List.length_cons] at h
      have ih := drop_dot t (by omega)
      rw [List.take_succ_cons, List.drop_succ_cons, List.cons_append]
      congr 1
/-- Where a search for the first point ends. -/
theorem dotAt_eq (l : List Int) (k : Nat) (hk : k ≤ l.length) (h : ∀ j, j < k → rd l (j : Nat) ≠ 46) (he : k = l.length ∨ rd l (k : Nat) = 46) : dotAt l = k := by
  have h1 : ∀ x ∈ l.take k, x ≠ 46 := by
    intro x hx
    obtain ⟨j, hj, rfl⟩ := List.getElem_of_mem hx
    rw [List.length_take] at hj
    rw [List.getElem_take, ← rd_get l j (by omega)]
    exact h j (by omega)
  rcases Nat.lt_or_ge k l.length with hlt | hge
  · have h46 : rd l (k : Nat) = 46 := by
      rcases he with he | he
      · omega
      · exact he
    have e : l = l.take k ++ 46 :: l.drop (k + 1) := by
      conv => lhs; rw [← List.take_append_drop k l, drop_cons l k hlt, h46]
    rw [e, dotAt_app _ _ h1, List.length_take]
    omega
  · obtain rfl : k = l.length := by omega
    rw [List.take_length] at h1
    exact dotAt_none l h1
theorem bytesOf_app (a b : ByteArray) : bytesOf (a ++ b) = bytesOf a ++ bytesOf b := by
  unfold bytesOf
  rw [ByteArray.data_append, Array.toList_append, List.map_append]
theorem alpha_no_dot : ∀ n : Fin 64, alpha (n.val : Int) ≠ 46 := by decide +kernel
theorem alpha_no46 (n : Int) (h0 : 0 ≤ n) (h1 : n < 64) : alpha n ≠ 46 := by
  obtain ⟨k, rfl⟩ := Int.eq_ofNat_of_zero_le h0
  exact alpha_no_dot ⟨k, by omega⟩
theorem sp3_no46 : ∀ (l : List Int), Bytes l → ∀ x ∈ sp3 l, x ≠ 46
  | [], _, x, h => by simp [sp3] at h
  | [a], hb, x, h => by
    have ha := hb a (by simp)
    simp only [sp3, List.mem_cons, List.not_mem_nil, or_false] at h
    rcases h with rfl | rfl <;> exact alpha_no46 _ (by omega) (by omega)
  | [a, b], hb, x, h => by
    have ha := hb a (by simp)
    have hb' := hb b (by simp)
    simp only [sp3, List.mem_cons, List.not_mem_nil, or_false] at h
    rcases h with rfl | rfl | rfl <;> exact alpha_no46 _ (by omega) (by omega)
  | a :: b :: c :: t, hb, x, h => by
    have ha := hb a (by simp)
    have hb' := hb b (by simp)
    have hc := hb c (by simp)
    simp only [sp3, List.mem_cons] at h
    rcases h with rfl | rfl | rfl | rfl | h
    · exact alpha_no46 _ (by omega) (by omega)
    · exact alpha_no46 _ (by omega) (by omega)
    · exact alpha_no46 _ (by omega) (by omega)
    · exact alpha_no46 _ (by omega) (by omega)
    · exact sp3_no46 t (fun y hy => hb y (by simp [hy])) x h
/-! ### A payload -/
theorem readText_put24 (s : ByteArray) (hs : s.size ≤ 24) (t : List Int) : readText (textForm s ++ t) 24 = (bytesOf s, (textForm s).length, 0) := by
  have h := readText_put s (by omega) t
  have hn := readNum_put s.size (by omega) (bytesOf s ++ t)
  rw [← List.append_assoc, if_neg (by omega)] at hn
  have e : textForm s = numForm s.size ++ bytesOf s := rfl
  unfold readText at h ⊢
  rw [e, hn] at h ⊢
  rw [if_neg (by simp)] at h ⊢
  rw [if_neg (by omega)] at h ⊢
  exact h
/-- A claim that may be. -/
def ClmOk (c : Clm) : Prop := nameB c.client = true ∧ nameB c.group = true ∧ 0 ≤ c.upto ∧ c.upto ≤ 1099511627776
theorem clmE_iff (c : Clm) : clmE c = 0 ↔ ClmOk c := by
  unfold clmE ClmOk
  by_cases h1 : nameB c.client = false ∨ nameB c.group = false
  · rw [if_pos h1]
    constructor
    · intro h; omega
    · rintro ⟨h2, h3, _⟩
      rw [h2, h3] at h1
      simp at h1
  · rw [if_neg h1]
    have h2 : nameB c.client = true ∧ nameB c.group = true := by
      cases ha : nameB c.client <;> cases hb : nameB c.group <;> simp [ha, hb] at h1 ⊢
    by_cases h3 : c.upto < 0 ∨ 1099511627776 < c.upto
    · rw [if_pos h3]
      constructor
      · intro h; omega
      · rintro ⟨_, _, h4, h5⟩; omega
    · rw [if_neg h3]
      exact ⟨fun _ => ⟨h2.1, h2.2, by omega, by omega⟩, fun _ => rfl⟩
theorem payL_parts (id : Int) (c : Clm) (hi : 0 ≤ id ∧ id ≤ 1099511627776) (hc : ClmOk c) :
    readNum (payL id c) = (id, ((numForm id).length : Int), 0) ∧ at1 (payL id c) = (numForm id).length ∧
    readText ((payL id c).drop (at1 (payL id c))) 24 = (bytesOf c.client, (textForm c.client).length, 0) ∧ at2 (payL id c) = (numForm id).length + (textForm c.client).length ∧
    readText ((payL id c).drop (at2 (payL id c))) 24 = (bytesOf c.group, (textForm c.group).length, 0) ∧ at3 (payL id c) = (numForm id).length + (textForm c.client).length + (textForm c.group).length ∧
    readNum ((payL id c).drop (at3 (payL id c))) = (c.upto, ((numForm c.upto).length : Int), 0) ∧ at4 (payL id c) = (payL id c).length := by
  obtain ⟨h1, h2, h3, h4⟩ := hc
  have z1 := (nameB_size h1).2
  have z2 := (nameB_size h2).2
  have e1 : payL id c = numForm id ++ (textForm c.client ++ (textForm c.group ++ numForm c.upto)) := by unfold payL; simp only [List.append_assoc]
  have a1 : readNum (payL id c) = (id, ((numForm id).length : Int), 0) := by
    rw [e1, readNum_put _ (by omega), if_neg (by omega)]
  have b1 : at1 (payL id c) = (numForm id).length := by unfold at1; rw [a1]; simp
  have d1 : (payL id c).drop (numForm id).length = textForm c.client ++ (textForm c.group ++ numForm c.upto) := by rw [e1, List.drop_left]
  have a2 : readText ((payL id c).drop (at1 (payL id c))) 24 = (bytesOf c.client, (textForm c.client).length, 0) := by
    rw [b1, d1, readText_put24 _ z1]
  have b2 : at2 (payL id c) = (numForm id).length + (textForm c.client).length := by unfold at2; rw [a2, b1]
  have d2 : (payL id c).drop ((numForm id).length + (textForm c.client).length) = textForm c.group ++ numForm c.upto := by rw [← List.drop_drop, d1, List.drop_left]
  have a3 : readText ((payL id c).drop (at2 (payL id c))) 24 = (bytesOf c.group, (textForm c.group).length, 0) := by
    rw [b2, d2, readText_put24 _ z2]
  have b3 : at3 (payL id c) = (numForm id).length + (textForm c.client).length + (textForm c.group).length := by unfold at3; rw [a3, b2]
  have d3 : (payL id c).drop ((numForm id).length + (textForm c.client).length + (textForm c.group).length) = numForm c.upto := by rw [← List.drop_drop, d2, List.drop_left]
  have a4 : readNum ((payL id c).drop (at3 (payL id c))) = (c.upto, ((numForm c.upto).length : Int), 0) := by
    rw [b3, d3]
    have := readNum_put c.upto (by omega) []
    rw [List.append_nil, if_neg (by omega)] at this
    exact this
  have b4 : at4 (payL id c) = (payL id c).length := by
    unfold at4
    rw [a4, b3, e1]
    simp only [List.length_append, Int.toNat_natCast]
    omega
  exact ⟨a1, b1, a2, b2, a3, b3, a4, b4⟩
theorem clm_eq {c d : Clm} (h1 : c.client = d.client) (h2 : c.group = d.group) (h3 : c.upto = d.upto) : c = d := by
  cases c; cases d; simp only at h1 h2 h3; rw [h1, h2, h3]
theorem parse_pay (id : Int) (c : Clm) (hi : 0 ≤ id ∧ id ≤ 1099511627776) (hc : ClmOk c) : parseB (payL id c) = true ∧ idOf (payL id c) = id ∧ clmOf (payL id c) = c := by
  obtain ⟨a1, b1, a2, b2, a3, b3, a4, b4⟩ := payL_parts id c hi hc
  have hcl : clmOf (payL id c) = c := by
    refine clm_eq ?_ ?_ ?_
    · show strOfNums (readText ((payL id c).drop (at1 (payL id c))) 24).1 = _
      rw [a2, strOf_bytes]
    · show strOfNums (readText ((payL id c).drop (at2 (payL id c))) 24).1 = _
      rw [a3, strOf_bytes]
    · show (readNum ((payL id c).drop (at3 (payL id c)))).1 = _
      rw [a4]
  refine ⟨parseB_ok ⟨by rw [a1], by rw [a2], by rw [a3], by rw [a4]⟩ b4 (by rw [hcl]; exact hc.1) (by rw [hcl]; exact hc.2.1) (by rw [hcl]; exact hc.2.2.2), ?_, hcl⟩
  unfold idOf
  rw [a1]
/-! ### What is read is a payload -/
theorem readText_form (r : List Int) (hb : Bytes r) (h : (readText r 24).2.2 = 0) : textForm (strOfNums (readText r 24).1) = r.take (readText r 24).2.1 ∧ (readText r 24).2.1 ≤ r.length := by
  unfold readText at h ⊢
  by_cases hE : (readNum r).2.2 = 0
  · rw [if_neg (by simp [hE])] at h ⊢
    split at h
    · simp at h
    rename_i h1
    rw [if_neg h1]
    split at h
    · simp at h
    rename_i h2
    rw [if_neg h2]
    have hk := readNum_ok r hb hE
    obtain ⟨K, hK⟩ : ∃ K : Nat, (readNum r).2.1 = (K : Int) := ⟨(readNum r).2.1.toNat, by omega⟩
    have hN0 : 0 ≤ (readNum r).1 := by omega
    obtain ⟨M, hM⟩ := Int.eq_ofNat_of_zero_le hN0
    have hform := numForm_read r hb (readNum r).1 K (by rw [← hK, ← hE])
    simp only
    rw [hK, hM] at h2 ⊢
    rw [hM] at hform
    simp only [Int.toNat_natCast]
    have hKM : K + M ≤ r.length := by omega
    have hlen : ((r.take (K + M)).drop K).length = M := by rw [List.length_drop, List.length_take]; omega
    refine ⟨?_, hKM⟩
    unfold textForm
    rw [strOf_size, hlen, hform, bytes_strOf ((hb.tk _).dp _)]
    have : r.take K = (r.take (K + M)).take K := by rw [List.take_take]; congr 1; omega
    rw [this, List.take_append_drop]
  · rw [if_pos hE] at h
    exact absurd h hE
theorem parse_form (l : List Int) (hb : Bytes l) (h : parseB l = true) : l = payL (idOf l) (clmOf l) ∧ ClmOk (clmOf l) ∧ 0 ≤ idOf l := by
  unfold parseB fourB at h
  simp only [Bool.and_eq_true, decide_eq_true_eq] at h
  obtain ⟨⟨⟨⟨⟨e1, e2, e3, e4⟩, hend⟩, hn1⟩, hn2⟩, hu⟩ := h
  have k1 := readNum_ok l hb e1
  have k4 := readNum_ok (l.drop (at3 l)) (hb.dp _) e4
  have t1 := readText_form (l.drop (at1 l)) (hb.dp _) e2
  have t2 := readText_form (l.drop (at2 l)) (hb.dp _) e3
  have f1 : numForm (idOf l) = l.take (at1 l) := numForm_read l hb _ _ (by
    unfold idOf at1
    rw [← e1, show (((readNum l).2.1.toNat : Nat) : Int) = (readNum l).2.1 by omega])
  have f4 : numForm (clmOf l).upto = (l.drop (at3 l)).take (readNum (l.drop (at3 l))).2.1.toNat := numForm_read _ (hb.dp _) _ _ (by
    show _ = ((readNum (l.drop (at3 l))).1, _, _)
    rw [← e4, show (((readNum (l.drop (at3 l))).2.1.toNat : Nat) : Int) = (readNum (l.drop (at3 l))).2.1 by omega])
  refine ⟨?_, ⟨hn1, hn2, by show 0 ≤ (readNum (l.drop (at3 l))).1; omega, hu⟩, by unfold idOf; omega⟩
  have cut : ∀ (a m : Nat), (l.drop a).take m ++ l.drop (a + m) = l.drop a := fun a m => by
    rw [← List.drop_drop, List.take_append_drop]
  have g1 : textForm (clmOf l).client = (l.drop (at1 l)).take (readText (l.drop (at1 l)) 24).2.1 := t1.1
  have g2 : textForm (clmOf l).group = (l.drop (at2 l)).take (readText (l.drop (at2 l)) 24).2.1 := t2.1
  unfold payL
  rw [f1, g1, g2, f4, List.append_assoc, List.append_assoc]
  have h4 : (l.drop (at3 l)).take (readNum (l.drop (at3 l))).2.1.toNat = l.drop (at3 l) := by
    have := cut (at3 l) (readNum (l.drop (at3 l))).2.1.toNat
    rw [show at3 l + (readNum (l.drop (at3 l))).2.1.toNat = l.length from hend, List.drop_length, List.append_nil] at this
    exact this
  rw [h4]
  have h3 : (l.drop (at2 l)).take (readText (l.drop (at2 l)) 24).2.1 ++ l.drop (at3 l) = l.drop (at2 l) := cut (at2 l) _
  have h2 : (l.drop (at1 l)).take (readText (l.drop (at1 l)) 24).2.1 ++ l.drop (at2 l) = l.drop (at1 l) := cut (at1 l) _
  rw [h3, h2, List.take_append_drop]
end Go.Proofs.YtcgenmogedndjaaDoor
