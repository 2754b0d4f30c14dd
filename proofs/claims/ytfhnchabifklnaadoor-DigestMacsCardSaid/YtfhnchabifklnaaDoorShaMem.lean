/- What SHA's loops leave in memory: rounds, sums, the digest's bytes. -/
import Derived.Test.YtfhnchabifklnaaDoorBlk
import Derived.Test.YtfhnchabifklnaaDoorSched
import Derived.Laws.IdiomCopy
namespace Go.Proofs.YtfhnchabifklnaaDoor
open Go.RowKit Go.Proofs.YtfhnchabifklnaaDoorW.PrintWords
/-- The laid variable rounds. -/
def Laid (w : World) : Prop := 0 < w.heap.size ∧ ∀ t : Nat, t < 64 → w.cell? ⟨0, t, none⟩ = some (.int .u32 (rd consts (t : Int)))
theorem Laid.lt {w : World} (h : Laid w) : 0 < w.heap.size := h.1
theorem Laid.cell {w : World} (h : Laid w) (t : Nat) (ht : t < 64) : w.cell? ⟨0, t, none⟩ = some (.int .u32 (rd consts (t : Int))) := h.2 t ht
theorem Laid.below {w w1 : World} {B : Nat} (h : Laid w) (hb : Below B w w1) (hB : 0 < B) : Laid w1 := by
  refine ⟨Nat.lt_of_lt_of_le h.1 hb.size, fun t ht => ?_⟩
  rw [← h.2 t ht]
  unfold World.cell?
  rw [hb.block 0 hB]
theorem cons_drop (l : List Int) (a : Nat) (h : a < l.length) : l.drop a = rd l a :: l.drop (a + 1) := by
  rw [rd_get l a h]
  exact List.drop_eq_getElem_cons h
theorem rounds1_step (X : List Int) (t : Nat) (ht : t < X.length) (s : St5) : rounds1 (X.drop t) t s = rounds1 (X.drop (t + 1)) (t + 1) (round1 s t (rd X t)) := by
  rw [cons_drop X t ht]
  rfl
theorem rounds2_step (X : List Int) (t : Nat) (ht : t < X.length) (s : St8) : rounds2 (X.drop t) t s = rounds2 (X.drop (t + 1)) (t + 1) (round2 s t (rd X t)) := by
  rw [cons_drop X t ht]
  rfl
/-- The first i words added up. -/
def addUp (h q : List Int) (i : Nat) : List Int := List.zipWith ad (h.take i) (q.take i) ++ h.drop i
theorem addUp_zero (h q : List Int) : addUp h q 0 = h := by simp [addUp]
theorem addUp_length (h q : List Int) (hq : q.length = h.length) (i : Nat) : (addUp h q i).length = h.length := by
  simp [addUp, hq]
  omega
theorem addUp_at (h q : List Int) (hq : q.length = h.length) (i : Nat) (hi : i < h.length) : rd (addUp h q i) (i : Int) = rd h i := by
  have h1 : (List.zipWith ad (h.take i) (q.take i)).length = i := by simp [hq]; omega
  unfold rd addUp
  simp only [Int.toNat_natCast, List.getD_eq_getElem?_getD]
  rw [List.getElem?_append_right (by omega), h1, Nat.sub_self, List.getElem?_drop, Nat.add_zero]
theorem addUp_set (h q : List Int) (hq : q.length = h.length) (i : Nat) (hi : i < h.length) : (addUp h q i).set i (ad (rd h i) (rd q i)) = addUp h q (i + 1) := by
  have h1 : (List.zipWith ad (h.take i) (q.take i)).length = i := by simp [hq]; omega
  unfold addUp
  rw [List.set_append_right _ _ (by omega), h1, Nat.sub_self, List.drop_eq_getElem_cons hi, List.set_cons_zero, List.take_succ_eq_append_getElem hi, List.take_succ_eq_append_getElem (show i < q.length by omega),
    List.zipWith_append (by simp [hq]), List.append_assoc, rd_get h i hi, rd_get q i (by omega)]
  rfl
theorem addUp_all (h q : List Int) (hq : q.length = h.length) : addUp h q h.length = List.zipWith ad h q := by
  unfold addUp
  rw [List.take_length, ← hq, List.take_length, hq, List.drop_length, List.append_nil]
/-- The first i words laid out as bytes, noughts behind. -/
def outB (h : List Int) (i : Nat) : List Int := (h.take i).flatMap be4 ++ List.replicate (4 * (h.length - i)) 0
theorem flat_length : ∀ (l : List Int), (l.flatMap be4).length = 4 * l.length
  | [] => rfl
  | a :: l => by rw [List.flatMap_cons, List.length_append, flat_length l, List.length_cons]; show 4 + _ = _; omega
theorem outB_length (h : List Int) (i : Nat) (hi : i ≤ h.length) : (outB h i).length = 4 * h.length := by
  unfold outB
  rw [List.length_append, flat_length, List.length_take, List.length_replicate]
  omega
theorem outB_step (h : List Int) (i : Nat) (hi : i < h.length) : (outB h i).take (4 * i) ++ be4 (rd h i) ++ (outB h i).drop (4 * i + (be4 (rd h i)).length) = outB h (i + 1) := by
  have hl : ((h.take i).flatMap be4).length = 4 * i := by rw [flat_length, List.length_take]; omega
  unfold outB
  rw [List.take_append, List.drop_append, hl, Nat.sub_self, List.take_zero, List.append_nil, List.take_of_length_le (by omega), List.drop_of_length_le (by rw [hl]; omega), List.nil_append, List.drop_replicate,
    List.take_succ_eq_append_getElem hi, List.flatMap_append, rd_get h i hi]
  have e : 4 * (h.length - i) - (4 * i + (be4 h[i]).length - 4 * i) = 4 * (h.length - (i + 1)) := by
    show 4 * (h.length - i) - (4 * i + 4 - 4 * i) = _
    omega
  rw [e]
  simp
theorem outB_all (h : List Int) : outB h h.length = h.flatMap be4 := by
  unfold outB
  rw [List.take_length, Nat.sub_self, List.replicate_zero, List.append_nil]
theorem outB_zero (h : List Int) : outB h 0 = List.replicate (4 * h.length) 0 := by
  unfold outB
  rw [List.take_zero, List.flatMap_nil, List.nil_append, Nat.sub_zero]
theorem info_u8s : (Tryd.prog.info? 5).map (·.size) = some 1 := by kernel_rfl
/-- copy into a part of an array of bytes. -/
theorem Blk.copy {w : World} {g t off m c dLen dCap ty : Nat} {a : Addr} {l ys : List Int} (h : Blk w g t .u8 l) (hr : Rd w (some a) m ys) (ho : off + m ≤ l.length) (hd : m ≤ dLen) :
    (Builtin.copy_ #[22, 22] ty #[.slice (some ⟨g, off, none⟩) dLen dCap, .slice (some a) m c]).run Tryd.prog w = .ok (.int .i64 m) (w.setCells g off (nums .u8 ys)) ∧ Blk (w.setCells g off (nums .u8 ys)) g t .u8 (l.take off ++ ys ++ l.drop (off + ys.length)) := by
  have hl := Kd.C_len hr
  have hnl : (nums .u8 ys).length = m := by simp [nums, hl]
  have hcell : ∀ j, j < m → w.cell? (a.add j) = some (.int .u8 (rd ys j)) := by
    intro j hj
    obtain ⟨ad', e, hx⟩ := Kd.at_int hr j (by omega) (by omega)
    cases e
    exact hx
  constructor
  · have := run_copy_cells (P := Tryd.prog) w 22 22 ty 5 g off dLen dCap a m c (nums .u8 ys) Tryd.underlying22 info_u8s
      (by rw [hnl]; exact (Nat.min_eq_left hd).symm)
      (fun j v hv => by
        have hj : j < m := by have := (List.getElem?_eq_some_iff.1 hv).1; omega
        rw [hcell j hj, ← hv]
        simp [nums, rd, List.getD_eq_getElem?_getD, show j < ys.length by omega])
      (fun j hj => by rw [h.cell (off + j) (by omega)]; rfl)
      (fun j hj => h.free (off + j))
      (fun v hv => by simp only [nums, List.mem_map] at hv; obtain ⟨x, _, rfl⟩ := hv; rfl)
    rw [hnl] at this
    exact this
  · obtain ⟨cur', h1, h2, h3⟩ := setCells_row (nums .u8 ys) off w _ h (by rw [hnl]; simp [nums]; omega)
    unfold Blk
    rw [h1]
    congr 1
    congr 1
    apply Array.ext'
    rw [h3]
    simp [nums, List.map_take, List.map_drop]
theorem Blk.farCells {w : World} {g g' t o : Nat} {k : IntKind} {l : List Int} (h : Blk w g t k l) (hg : g ≠ g') (vs : List Value) : Blk (w.setCells g' o vs) g t k l := by
  unfold Blk at *
  rw [setCells_far vs o g hg, h]
theorem Below.setCells_ {B g o : Nat} {a w : World} (h : Below B a w) (hB : B ≤ g) (vs : List Value) : Below B a (w.setCells g o vs) := by
  obtain ⟨s1, s2, s3, s4⟩ := setCells_same g vs o w
  exact h.trans ⟨s1, s2, s3, by rw [s4]; exact Nat.le_refl _, fun j hj => setCells_far vs o j (by omega)⟩
section
variable {ops : Array Oper} {rest : List Oper} {o : Oper} {a : Act} {Q : Exit → Act → World → Prop} {w : World}
/-- A whole array is read: as what it says of the variable. -/
theorem Blk.loadVar {g t : Nat} {k : IntKind} {l : List Int} (h : Blk w g t k l) (T : TypeId) (ha : (isAgg T).run Tryd.prog w = .ok true w) (hz : (Go.sizeOf T).run Tryd.prog w = .ok l.length w) :
    (Go.loadVar T ⟨g, 0, none⟩).run Tryd.prog w = .ok (.agg (nums k l).toArray) w := by
  have hnl : (nums k l).length = l.length := by simp [nums]
  have := run_loadCells_list (P := Tryd.prog) (w := w) ⟨g, 0, none⟩ (nums k l) (fun j v hv => by
    have hj : j < l.length := by have := (List.getElem?_eq_some_iff.1 hv).1; omega
    have hc := h.cell j hj
    rw [show (⟨g, 0, none⟩ : Addr).add j = ⟨g, j, none⟩ by unfold Addr.add; split <;> simp_all]
    rw [hc, ← hv]
    simp [nums, rd, List.getD_eq_getElem?_getD, hj])
  rw [hnl] at this
  simp [Go.loadVar, ha, hz, this]
theorem load_blk {g t : Nat} {k : IntKind} {l : List Int} {T : TypeId} {p : Operand} (hgd : o.guard = none) (ho : o.op = .load T p) (hp : a.eval p = .pointer (some ⟨g, 0, none⟩)) (h : Blk w g t k l)
    (ha : (isAgg T).run Tryd.prog w = .ok true w) (hz : (Go.sizeOf T).run Tryd.prog w = .ok l.length w) (hK : wpList Tryd.prog ops Q rest (a.put o.dst (.agg (nums k l).toArray)) w) : wpList Tryd.prog ops Q (o :: rest) a w := by
  refine wpList_plain hgd fun K hK' => ?_
  have hl : (Instr.loadAt T (.pointer (some ⟨g, 0, none⟩))).run Tryd.prog w = .ok (.agg (nums k l).toArray) w := by
    simp [Instr.loadAt, Instr.sureAddr, h.loadVar T ha hz]
  unfold Oper.wp execOp
  simp only [ho, hp, Sem.run_bind, Sem.run_pure, Result.andThen_ok, hl]
  exact hK' _ _ hK
theorem store_blk {g t : Nat} {k : IntKind} {l m : List Int} {T : TypeId} {p x : Operand} (hgd : o.guard = none) (hN : o.dst = none) (ho : o.op = .store T p x) (hp : a.eval p = .pointer (some ⟨g, 0, none⟩)) (hx : a.eval x = .agg (nums k m).toArray) (h : Blk w g t k l) (hl : m.length = l.length)
    (ht : (Tryd.prog.info? T).map (·.size) = some m.length) (hK : ∀ w1, Blk w1 g t k m → (∀ B a0, Below B a0 w → B ≤ g → Below B a0 w1) → wpList Tryd.prog ops Q rest a w1) : wpList Tryd.prog ops Q (o :: rest) a w := by
  have hnm : (nums k m).length = m.length := by simp [nums]
  have hrun := run_store_run (P := Tryd.prog) (w := w) (g := g) (o := 0) T (.agg (nums k m).toArray) (nums k m) h rfl (by rw [hnm]; exact ht) (by rw [hnm, hl]; simp [nums]) (fun q hq => by simp only [nums, List.mem_map] at hq; obtain ⟨x, _, rfl⟩ := hq; rfl)
  obtain ⟨cur', h1, h2, h3⟩ := setCells_row (nums k m) 0 w _ h (by rw [hnm, hl]; simp [nums])
  obtain ⟨s1, s2, s3, s4⟩ := setCells_same g (nums k m) 0 w
  refine wpList_plain hgd fun K hK' => ?_
  unfold Oper.wp execOp
  simp only [ho, hp, hx, Sem.run_bind, Sem.run_pure, Result.andThen_ok, hrun]
  show K (a.put o.dst undef) _
  rw [hN]
  refine hK' a _ (hK _ ?_ ?_)
  · unfold Blk
    rw [h1]
    congr 1
    congr 1
    apply Array.ext'
    rw [h3]
    simp [nums, hl]
  · intro B a0 hb hB
    exact hb.trans ⟨s1, s2, s3, by rw [s4]; exact Nat.le_refl _, fun j hj => setCells_far _ _ j (by omega)⟩
theorem results_blk {fn : Func} {tm : Tmp} {T : TypeId} (h : fn.results = #[.cell tm T]) {tmps : Array Value} {g t : Nat} {k : IntKind} {l : List Int} (ht : tmps.getD tm undef = .pointer (some ⟨g, 0, none⟩)) (hb : Blk w g t k l)
    (ha : (isAgg T).run Tryd.prog w = .ok true w) (hz : (Go.sizeOf T).run Tryd.prog w = .ok l.length w) : (results fn tmps).run Tryd.prog w = .ok (.agg (nums k l).toArray) w := by
  have hl := hb.loadVar T ha hz
  rw [Array.getD_eq_getD_getElem?] at ht
  simp [results, h, ht, asAddr, hl]
theorem index_blk {T E : TypeId} {k : IntKind} {l : List Int} {i : Nat} (hu : Tryd.prog.underlying T = some (.array l.length E)) (hz : (Go.sizeOf E).run Tryd.prog w = .ok 1 w) (ha : (isAgg E).run Tryd.prog w = .ok false w) (hi : i < l.length) :
    (Instr.index T (.agg (nums k l).toArray) (.int .i64 i)).run Tryd.prog w = .ok (.int k (rd l i)) w := by
  have h1 : (nums k l)[i]? = some (.int k (rd l i)) := by simp [nums, rd, List.getD_eq_getElem?_getD, hi]
  simp [Instr.index, asIntOf, run_underlying hu, hz, Go.part, ha, h1, hi]
end
end Go.Proofs.YtfhnchabifklnaaDoor
