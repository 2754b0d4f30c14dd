/- The texts Base64, QuietTail2, MacLaw, Awake, Mac, Sum, Compare, Unframe, Cursor, CursorOps, Peek, CursorNum, Spell, Unspell in one. -/
import Derived.Test.YtcgenmogedndjaaDoorG01
import Derived.Test.YtcgenmogedndjaaDoorG06
import Derived.ArgAppend
import Derived.Lib.SmallJoins
import Derived.Lib.Bytealg
import Derived.Shelf.Small.Strs
import Derived.Laws.StructEq
import Derived.Lib.BufferOwn
import Derived.Laws.MakeOwn
namespace Go.Proofs.YtcgenmogedndjaaDoor
open Go.RowKit Go.Proofs.YtcgenmogedndjaaDoorW.PrintWords
def x3 (l : List Int) : Int := rd l 0 * 65536 + rd l 1 * 256 + rd l 2
end Go.Proofs.YtcgenmogedndjaaDoor
namespace Go.Proofs.YtcgenmogedndjaaDoor
open Go
section
variable {P : Program} {hd tl : List Oper} {C : World → Prop}
/-- The operations ahead ask for what stands ahead of them alone, and have no guard; those behind wait for each of them. -/
def headC (hd tl : List Oper) : Bool :=
  ((List.range hd.length).all fun i => match hd[i]? with
    | some o => o.guard.isNone && o.after.all fun e => decide (e.on < i)
    | none => false) &&
  tl.all fun o => ((List.range hd.length).all fun i => o.after.any fun e => Region.binds .any e && e.on == i) || o.after.any fun e => Region.binds .any e && decide (hd.length ≤ e.on)
theorem headC_tail (h : headC hd tl = true) (o : Oper) (ho : o ∈ tl) : (∀ i, i < hd.length → ∃ e ∈ o.after, Region.binds .any e = true ∧ e.on = i) ∨ ∃ e ∈ o.after, Region.binds .any e = true ∧ hd.length ≤ e.on := by
  unfold headC at h
  rw [Bool.and_eq_true] at h
  have h1 := List.all_eq_true.1 h.2 o ho
  rw [Bool.or_eq_true] at h1
  rcases h1 with h1 | h1
  · refine .inl fun i hi => ?_
    obtain ⟨e, he, hb⟩ := Array.any_eq_true'.1 (List.all_eq_true.1 h1 i (List.mem_range.2 hi))
    rw [Bool.and_eq_true, beq_iff_eq] at hb
    exact ⟨e, he, hb.1, hb.2⟩
  · obtain ⟨e, he, hb⟩ := Array.any_eq_true'.1 h1
    rw [Bool.and_eq_true, decide_eq_true_eq] at hb
    exact .inr ⟨e, he, hb.1, hb.2⟩
theorem headC_head (h : headC hd tl = true) (i : Nat) (o : Oper) (hi : hd[i]? = some o) : o.guard = none ∧ ∀ e ∈ o.after, e.on < i := by
  unfold headC at h
  rw [Bool.and_eq_true] at h
  have h1 := List.all_eq_true.1 h.1 i (List.mem_range.2 (List.getElem?_eq_some_iff.1 hi).1)
  rw [hi] at h1
  simp only [Bool.and_eq_true, Option.isNone_iff_eq_none] at h1
  exact ⟨h1.1, fun e he => by simpa using Array.all_eq_true_iff_forall_mem.1 h1.2 e he⟩
theorem getD_over (L : Array Bool) (g j : Nat) (hj : L.size ≤ j) : (L ++ falses g).getD j false = false := by
  have : ¬ j < L.size := by omega
  simp only [falses, Array.getD_eq_getD_getElem?, Array.getElem?_append, this, if_false, Array.getElem?_replicate]
  split <;> rfl
theorem ready_oneC (hB : headC hd tl = true) (L : Array Bool) (hL : L.size = hd.length) : ∀ (i0 : Nat), i0 < L.size → L.getD i0 false = false → Region.ready .any hd.toArray L ≠ [] := by
  intro i0
  induction i0 using Nat.strongRecOn with
  | _ i0 ih =>
    intro hi0 h0 he
    have hlt : i0 < hd.length := by omega
    by_cases hr : i0 ∈ Region.ready .any hd.toArray L
    · rw [he] at hr; cases hr
    · refine hr (mem_ready.2 ⟨getD_in hi0 h0, hd[i0], by simp [hlt], fun e hem _ => ?_⟩)
      have hon := (headC_head hB i0 _ (by simp [hlt])).2 e hem
      cases hv : L.getD e.on false with
      | true => rfl
      | false => exact absurd he (ih e.on hon (by omega) hv)
/-- While one of the head is open, what is ready is of the head. -/
theorem ready_headC (hB : headC hd tl = true) (L : Array Bool) (hL : L.size = hd.length) (i0 : Nat) (hi0 : i0 < L.size) (h0 : L.getD i0 false = false) (j : Nat) :
    j ∈ Region.ready .any (hd ++ tl).toArray (L ++ falses tl.length) ↔ j ∈ Region.ready .any hd.toArray L := by
  rw [mem_ready, mem_ready]
  by_cases hj : j < hd.length
  · have e1 : (hd ++ tl).toArray[j]? = hd.toArray[j]? := by simp [List.getElem?_append_left hj]
    rw [getD_head _ _ _ _ (by omega), e1]
    refine and_congr_right fun _ => exists_congr fun o => and_congr_right fun ho => ?_
    have := (headC_head hB j o (by simpa using ho)).2
    refine forall_congr' fun e => forall_congr' fun he => ?_
    rw [getD_head _ _ _ _ (by have := this e he; omega)]
  · constructor
    · rintro ⟨h1, o, ho, hall⟩
      have hjt : j < hd.length + tl.length := by have := (Array.getElem?_eq_some_iff.1 ho).1; simpa using this
      have hmem : o ∈ tl := by
        have h2 : (hd ++ tl)[j]? = some o := by simpa using ho
        rw [List.getElem?_append_right (by omega)] at h2
        exact List.mem_of_getElem? h2
      rcases headC_tail hB o hmem with hw | ⟨e, he, hb, hon⟩
      · obtain ⟨e, he, hb, hon⟩ := hw i0 (by omega)
        have := hall e he hb
        rw [hon, getD_head _ _ _ _ hi0, h0] at this
        cases this
      · have := hall e he hb
        rw [getD_over _ _ _ (by omega)] at this
        cases this
    · rintro ⟨_, o, ho, _⟩
      have := (Array.getElem?_eq_some_iff.1 ho).1
      exact absurd (by simpa using this) hj
theorem tail_of_headC (hB : headC hd tl = true) {Q1 : Act → Prop} {Q' : Exit → Act → World → Prop}
    (hQ : ∀ a w, C w → Q1 a → wpAny P .any (hd ++ tl).toArray Q' tl.length (Array.replicate hd.length true ++ falses tl.length) a w) :
    ∀ (f : Nat) (L : Array Bool) (a : Act) (w : World), C w → L.size = hd.length → L.toList.count false = f → wpAnyQ P .any hd.toArray C Q1 f L a →
      wpAny P .any (hd ++ tl).toArray Q' (f + tl.length) (L ++ falses tl.length) a w
  | 0, L, a, w, hw, hs, hc, h => by
    have hE : L = Array.replicate hd.length true := by
      have h1 : ∀ b ∈ L.toList, b = true := by
        intro b hb
        cases b with
        | true => rfl
        | false => exact absurd (List.count_pos_iff.2 hb) (by omega)
      apply Array.ext_getElem?
      intro j
      by_cases hj : j < L.size
      · have := h1 L[j] (by simp)
        simp [hj, this, ← hs]
      · simp [Array.getElem?_eq_none (Nat.le_of_not_lt hj)]
        omega
    rw [hE, Nat.zero_add]
    exact hQ a w hw h.2
  | f + 1, L, a, w, hw, hs, hc, h => by
    obtain ⟨i0, hi0, h0⟩ : ∃ i0, i0 < L.size ∧ L.getD i0 false = false := by
      have : false ∈ L.toList := List.count_pos_iff.1 (by omega)
      obtain ⟨i, hi, e⟩ := List.mem_iff_getElem.1 this
      have hi' : i < L.size := by simpa using hi
      exact ⟨i, hi', by simpa [hi'] using e⟩
    have hrd := ready_headC (tl := tl) hB L hs i0 hi0 h0
    have hne := ready_oneC hB L hs i0 hi0 h0
    rw [show f + 1 + tl.length = (f + tl.length) + 1 by omega]
    refine ⟨fun he => ?_, fun i hi => ?_⟩
    · obtain ⟨j, hj⟩ := List.exists_mem_of_ne_nil _ hne
      have := (hrd j).2 hj
      rw [he] at this
      cases this
    · have hi' := (hrd i).1 hi
      obtain ⟨hu, o, ho, _⟩ := mem_ready.1 hi'
      have hin : i < hd.length := by have := (Array.getElem?_eq_some_iff.1 ho).1; simpa using this
      have hg := (headC_head hB i o (by simpa using ho)).1
      have hq := h.2 i hi'
      have ho2 : (hd ++ tl).toArray[i]? = some o := by rw [← ho]; simp [List.getElem?_append_left hin]
      have hq2 : qOp P (hd ++ tl).toArray C i (wpAnyQ P .any hd.toArray C Q1 f (L.setIfInBounds i true)) a := by
        unfold qOp at hq ⊢
        simp only [ho] at hq
        simp only [ho2]
        rw [wanted_none hg] at hq ⊢
        exact hq
      have hc' := count_set L i (by omega) hu
      rw [set_head L _ i (by omega)]
      exact wpOp_of_qOp hw (fun a' w' hw' h' => tail_of_headC hB hQ f _ a' w' hw' (by simpa using hs) (by omega) h') hq2
/-- A region that draws its order: the head by one quiet walk, the tail in its order. -/
theorem wp_region_quiet_tailC {id : Nat} {Q : Exit → Act → World → Prop} {a : Act} {w : World} (hd tl : List Oper) (hm : P.follows .mixedOrders = true) (hB : headC hd tl = true) (hH : Region.lexB .any hd.toArray = true)
    (hT : Region.seqB .any (hd ++ tl).toArray tl.length hd.length (Array.replicate hd.length true ++ falses tl.length) = true)
    (h : wpQuiet P hd.toArray (fun w' => ∃ n, w' = w.drewN n) (fun a' => ∀ w', (∃ n, w' = w.drewN n) → wpList P (hd ++ tl).toArray Q tl a' w') hd a) : (Code.region id (hd ++ tl).toArray true).wp P Q a w := by
  simp only [Region.lexB, Bool.and_eq_true] at hH
  have h1 := wpAnyQ_lex (P := P) (C := fun w' => ∃ n, w' = w.drewN n) (md := .any) hH.1 hd 0 (Array.replicate hd.length false) a (by simp) (by simpa using hH.2) h
  have h2 := tail_of_headC (P := P) (C := fun w' => ∃ n, w' = w.drewN n) (Q' := Q) hB (fun a' w' hw' hq => wpAny_of_seq (md := .any) tl hd.length _ a' w' (fun j => by simp [List.getElem?_append_right]) hT (hq w' hw')) hd.length (Array.replicate hd.length false) a { w with drawn := w.drawn + 1 } ⟨1, rfl⟩ (by simp) (by simp) h1
  refine wp_region_any hm ?_
  have e : Array.replicate (hd ++ tl).toArray.size false = Array.replicate hd.length false ++ falses tl.length := by
    apply Array.ext_getElem?
    intro j
    simp [falses, Array.getElem?_replicate]
  rw [e, show (hd ++ tl).toArray.size = hd.length + tl.length by simp]
  exact h2
/-- The same for a region that is written out. -/
theorem wp_region_quiet_tailC_at {id : Nat} {Q : Exit → Act → World → Prop} {a : Act} {w : World} {l : List Oper} (n : Nat) (hm : P.follows .mixedOrders = true) (hB : headC (l.take n) (l.drop n) = true) (hH : Region.lexB .any (l.take n).toArray = true)
    (hT : Region.seqB .any l.toArray (l.drop n).length (l.take n).length (Array.replicate (l.take n).length true ++ falses (l.drop n).length) = true)
    (h : wpQuiet P (l.take n).toArray (fun w' => ∃ n, w' = w.drewN n) (fun a' => ∀ w', (∃ n, w' = w.drewN n) → wpList P l.toArray Q (l.drop n) a' w') (l.take n) a) : (Code.region id l.toArray true).wp P Q a w := by
  have e := List.take_append_drop n l
  have := wp_region_quiet_tailC (P := P) (id := id) (Q := Q) (a := a) (w := w) (l.take n) (l.drop n) hm hB hH
  rw [e] at this
  exact this hT h
end
end Go.Proofs.YtcgenmogedndjaaDoor
namespace Go.Proofs.YtcgenmogedndjaaDoor
open Go.RowKit Go.Proofs.YtcgenmogedndjaaDoorW.PrintWords
/-- A key of 64 bytes. -/
def pad64 (l : List Int) : List Int := l ++ List.replicate (64 - l.length) 0
def macKey (key : List Int) : List Int := pad64 (if 64 < key.length then sha2 key else key)
def xorB (c : Int) (l : List Int) : List Int := l.map fun x => bits .xor .u8 x c
def mac (key b : List Int) : List Int := sha2 (xorB 92 (macKey key) ++ sha2 (xorB 54 (macKey key) ++ b))
theorem sha2_length (l : List Int) : (sha2 l).length = 32 := rfl
theorem be4_Bytes (x : Int) : Bytes (be4 x) := by
  intro y hy
  unfold be4 at hy
  simp only [List.mem_cons, List.not_mem_nil, or_false] at hy
  rcases hy with rfl | rfl | rfl | rfl <;> omega
theorem app_Bytes {a b : List Int} (h : Bytes a) (k : Bytes b) : Bytes (a ++ b) := by
  intro x hx
  rcases List.mem_append.1 hx with hx | hx
  · exact h x hx
  · exact k x hx
theorem sha2_Bytes (l : List Int) : Bytes (sha2 l) := by
  unfold sha2
  repeat' apply app_Bytes
  all_goals exact be4_Bytes _
theorem pad64_length (l : List Int) (h : l.length ≤ 64) : (pad64 l).length = 64 := by unfold pad64; simp; omega
theorem macKey_length (key : List Int) : (macKey key).length = 64 := by
  unfold macKey
  split
  · exact pad64_length _ (by rw [sha2_length]; decide)
  · exact pad64_length _ (by omega)
theorem xorB_length (c : Int) (l : List Int) : (xorB c l).length = l.length := List.length_map ..
theorem xorB_Bytes (c : Int) (l : List Int) : Bytes (xorB c l) := by
  intro x hx
  unfold xorB at hx
  obtain ⟨y, _, rfl⟩ := List.mem_map.1 hx
  have := bits_within .xor .u8 y c
  have e1 : IntKind.u8.min = 0 := rfl
  have e2 : IntKind.u8.max = 255 := rfl
  omega
/-- The first i bytes turned. -/
def xorUp (c : Int) (l : List Int) (i : Nat) : List Int := xorB c (l.take i) ++ l.drop i
theorem xorUp_zero (c : Int) (l : List Int) : xorUp c l 0 = l := by simp [xorUp, xorB]
theorem xorUp_length (c : Int) (l : List Int) (i : Nat) : (xorUp c l i).length = l.length := by simp [xorUp, xorB]; omega
theorem xorUp_at (c : Int) (l : List Int) (i : Nat) (hi : i < l.length) : rd (xorUp c l i) (i : Int) = rd l i := by
  have h1 : (xorB c (l.take i)).length = i := by simp [xorB]; omega
  unfold rd xorUp
  simp only [Int.toNat_natCast, List.getD_eq_getElem?_getD]
  rw [List.getElem?_append_right (by omega), h1, Nat.sub_self, List.getElem?_drop, Nat.add_zero]
theorem xorUp_set (c : Int) (l : List Int) (i : Nat) (hi : i < l.length) : (xorUp c l i).set i (bits .xor .u8 (rd l i) c) = xorUp c l (i + 1) := by
  have h1 : (xorB c (l.take i)).length = i := by simp [xorB]; omega
  unfold xorUp
  rw [List.set_append_right _ _ (by omega), h1, Nat.sub_self, List.drop_eq_getElem_cons hi, List.set_cons_zero, List.take_succ_eq_append_getElem hi, rd_get l i hi]
  unfold xorB
  rw [List.map_append, List.append_assoc]
  rfl
theorem xorUp_all (c : Int) (l : List Int) : xorUp c l l.length = xorB c l := by simp [xorUp]
section
variable {ops : Array Oper} {rest : List Oper} {o : Oper} {a : Act} {Q : Exit → Act → World → Prop} {w : World}
theorem Blk.row {g t : Nat} {l : List Int} (h : Blk w g t .u8 l) (hm : l.length ≤ 9223372036854775807) : Rd w (some ⟨g, 0, none⟩) l.length l := by
  refine Kd.C_of_reads (d := (0 : Int)) (h1 := fun _ => rfl) ⟨rfl, hm, fun _ => ⟨_, rfl, fun j hj => ?_⟩⟩
  rw [add_plain]
  have := h.cell j hj
  rw [this]
  simp [rd, hj]
theorem app_full {s x : Operand} {g t m c n : Nat} {A : Option Addr} {l ys : List Int} (hgd : o.guard = none) (hop : o.op = .call { callee := .builtin .append, args := #[s, x], argTypes := #[34, 34] }) (hv : a.eval s = .slice (some ⟨g, 0, none⟩) n n) (hx : a.eval x = .slice A m c)
    (hn : l.length = n) (h : Blk w g t .u8 l) (hr : Rd w A m ys) (hl : n + m ≤ 140737488355328)
    (K : ∀ A1 c1 w1, n + m ≤ c1 → Rd w1 A1 (n + m) (l ++ ys) → Below w.heap.size w w1 → wpList Tryd.prog ops Q rest (a.put o.dst (.slice A1 (n + m) c1)) w1) : wpList Tryd.prog ops Q (o :: rest) a w := by
  obtain ⟨i, hi, hzz⟩ := Option.map_eq_some_iff.1 (show (Tryd.prog.info? 5).map (fun i => (i.zero, i.size, i.bytes)) = some (some (.int .u8 0), 1, 1) from info_u8)
  simp only [Prod.mk.injEq] at hzz
  obtain ⟨hz0, hz1, hz2⟩ := hzz
  have hys := Kd.C_len hr
  have hrl := h.row (by omega)
  rw [hn] at hrl
  rcases Nat.eq_zero_or_pos m with hm | hm
  · subst hm
    obtain rfl : ys = [] := List.eq_nil_of_length_eq_zero hys
    have hrun : (Builtin.append_ #[34, 34] o.type #[.slice (some ⟨g, 0, none⟩) n n, .slice A 0 c]).run Tryd.prog w = .ok (.slice (some ⟨g, 0, none⟩) (n + 0) n) w := by
      cases A with
      | none => simp [Builtin.append_, run_underlying Tryd.underlying34, Go.sizeOf, typeInfo, hi, Builtin.lenOf, run_firstCells_none, storeCells]
      | some ad =>
        have := run_append_room_cells (P := Tryd.prog) w 34 o.type 5 i Tryd.underlying34 hi g 0 n n ad 0 c [] (by simp) (by simp) (by simp) (by omega) (by simp) (by simp)
        exact this
    refine wpList_plain hgd fun K' hK' => ?_
    unfold Oper.wp execOp
    simp only [hop, resolve, invoke, builtin, Sem.run_bind, Sem.run_pure, Result.andThen_ok, List.map_toArray, List.map_cons, List.map_nil, hv, hx, hrun]
    exact hK' _ _ (K _ _ _ (by omega) (by rw [List.append_nil]; exact hrl) (Below.refl _ _))
  · obtain ⟨ad, rfl, hcell⟩ := Rd.cells hr hm
    obtain ⟨v', w', hrun, hown, hg⟩ := run_append_arg_grows (P := Tryd.prog) w 34 o.type 5 i (.int .u8 0) 1 1 Tryd.underlying34 hi hz0 hz1 hz2 rfl (by decide) ⟨g, 0, none⟩ n n (nums .u8 l) (by simp [nums, hn])
      (fun j u hu => by
        have hj : j < l.length := by have := (List.getElem?_eq_some_iff.1 hu).1; simpa [nums] using this
        have hc := h.cell j hj
        rw [show (⟨g, 0, none⟩ : Addr).add j = ⟨g, j, none⟩ by unfold Addr.add; split <;> simp_all]
        rw [hc, ← hu]
        simp [nums, rd, List.getD_eq_getElem?_getD, hj])
      ad m c (nums .u8 ys) (by simp [nums, hys])
      (fun j u hu => by
        have hj : j < ys.length := by have := (List.getElem?_eq_some_iff.1 hu).1; simpa [nums] using this
        rw [hcell j (by omega), ← hu]
        simp [nums, rd, List.getD_eq_getElem?_getD, hj])
      (by omega) (by simp [maxLen]; omega) (by omega)
    have hown2 : w'.ownsRow w.heap.size 5 1 v' (l ++ ys).length (encs (Value.int .u8) (l ++ ys)) := by
      rw [List.length_append, hn, hys]
      simpa [encs, nums] using hown
    have hR : Own w w' v' (l ++ ys) := Kd.R_of_own (h1 := fun _ => rfl) hown2 (fun _ _ => trivial)
    obtain ⟨A1, c1, rfl, hc1, hr1⟩ := hR.reads
    rw [List.length_append, hn, hys] at hc1 hr1 hrun
    refine wpList_plain hgd fun K' hK' => ?_
    unfold Oper.wp execOp
    simp only [hop, resolve, invoke, builtin, Sem.run_bind, Sem.run_pure, Result.andThen_ok, List.map_toArray, List.map_cons, List.map_nil, hv, hx, hrun]
    exact hK' _ _ (K _ _ _ hc1 hr1 (Below.grown (Below.refl _ _) hg (Nat.le_refl _) (fun k hk => by cases hk)))
end
end Go.Proofs.YtcgenmogedndjaaDoor
namespace Go.Proofs.YtcgenmogedndjaaDoor
open Go.RowKit Go.Proofs.YtcgenmogedndjaaDoorW.PrintWords
section
variable {ops : Array Oper} {rest : List Oper} {o : Oper} {a : Act} {Q : Exit → Act → World → Prop} {w : World}
theorem store_blk2 {g t : Nat} {k : IntKind} {l m : List Int} {T : TypeId} {p x : Operand} (hgd : o.guard = none) (hN : o.dst = none) (ho : o.op = .store T p x) (hp : a.eval p = .pointer (some ⟨g, 0, none⟩)) (hx : a.eval x = .agg (nums k m).toArray) (h : Blk w g t k l) (hl : m.length = l.length)
    (ht : (Tryd.prog.info? T).map (·.size) = some m.length) (hK : ∀ w1, Blk w1 g t k m → (∀ B a0, Below B a0 w → B ≤ g → Below B a0 w1) → (∀ g' t' k' l', g' ≠ g → Blk w g' t' k' l' → Blk w1 g' t' k' l') → wpList Tryd.prog ops Q rest a w1) : wpList Tryd.prog ops Q (o :: rest) a w := by
  have hnm : (nums k m).length = m.length := by simp [nums]
  have hrun := run_store_run (P := Tryd.prog) (w := w) (g := g) (o := 0) T (.agg (nums k m).toArray) (nums k m) h rfl (by rw [hnm]; exact ht) (by rw [hnm, hl]; simp [nums]) (fun q hq => by simp only [nums, List.mem_map] at hq; obtain ⟨x, _, rfl⟩ := hq; rfl)
  obtain ⟨cur', h1, h2, h3⟩ := setCells_row (nums k m) 0 w _ h (by rw [hnm, hl]; simp [nums])
  refine wpList_plain hgd fun K hK' => ?_
  unfold Oper.wp execOp
  simp only [ho, hp, hx, Sem.run_bind, Sem.run_pure, Result.andThen_ok, hrun]
  show K (a.put o.dst undef) _
  rw [hN]
  refine hK' a _ (hK _ ?_ ?_ ?_)
  · unfold Blk
    rw [h1]
    rw [show cur' = (nums k m).toArray from Array.ext' (by rw [h3]; simp [nums, hl])]
  · intro B a0 hb hB
    exact Below.setCells_ hb hB _
  · intro g' t' k' l' hne hb
    exact hb.farCells hne _
end
end Go.Proofs.YtcgenmogedndjaaDoor
namespace Go.Proofs.YtcgenmogedndjaaDoor
open Go.RowKit Go.Proofs.YtcgenmogedndjaaDoorW.PrintWords
set_option maxRecDepth 20000 in
set_option maxHeartbeats 8000000 in
theorem Mac_calls {n0 n1 : Nat} (A0 : Option Addr) (c0 : Nat) (l0 : List Int) (A1 : Option Addr) (c1 : Nat) (l1 : List Int) (w : World) (hr0 : Rd w A0 n0 l0) (hb0 : Bytes l0) (hc0 : n0 ≤ c0) (hs0 : n0 ≤ 1099511627776) (hr1 : Rd w A1 n1 l1) (hb1 : Bytes l1) (hs1 : n1 ≤ 549755813888) (hG : Laid w) :
    Calls Tryd.prog 32 #[.slice A0 n0 c0, .slice A1 n1 c1] w fun e w' => e = .returned (.agg (nums .u8 (mac l0 l1)).toArray) ∧ Below w.heap.size w w' := by
  have hl0 := Kd.C_len hr0
  obtain ⟨g4, hg4⟩ : ∃ g4, g4 = w.heap.size := ⟨_, rfl⟩
  obtain ⟨g5, hg5⟩ : ∃ g5, g5 = g4 + 1 := ⟨_, rfl⟩
  obtain ⟨W1, hW1⟩ : ∃ W1, W1 = w.alloc (.cells #[.int .u8 0, .int .u8 0, .int .u8 0, .int .u8 0, .int .u8 0, .int .u8 0, .int .u8 0, .int .u8 0, .int .u8 0, .int .u8 0, .int .u8 0, .int .u8 0, .int .u8 0, .int .u8 0, .int .u8 0, .int .u8 0, .int .u8 0, .int .u8 0, .int .u8 0, .int .u8 0, .int .u8 0, .int .u8 0, .int .u8 0, .int .u8 0, .int .u8 0, .int .u8 0, .int .u8 0, .int .u8 0, .int .u8 0, .int .u8 0, .int .u8 0, .int .u8 0] 66) := ⟨_, rfl⟩
  obtain ⟨W2, hW2⟩ : ∃ W2, W2 = W1.alloc (.cells #[.int .u8 0, .int .u8 0, .int .u8 0, .int .u8 0, .int .u8 0, .int .u8 0, .int .u8 0, .int .u8 0, .int .u8 0, .int .u8 0, .int .u8 0, .int .u8 0, .int .u8 0, .int .u8 0, .int .u8 0, .int .u8 0, .int .u8 0, .int .u8 0, .int .u8 0, .int .u8 0, .int .u8 0, .int .u8 0, .int .u8 0, .int .u8 0, .int .u8 0, .int .u8 0, .int .u8 0, .int .u8 0, .int .u8 0, .int .u8 0, .int .u8 0, .int .u8 0, .int .u8 0, .int .u8 0, .int .u8 0, .int .u8 0, .int .u8 0, .int .u8 0, .int .u8 0, .int .u8 0, .int .u8 0, .int .u8 0, .int .u8 0, .int .u8 0, .int .u8 0, .int .u8 0, .int .u8 0, .int .u8 0, .int .u8 0, .int .u8 0, .int .u8 0, .int .u8 0, .int .u8 0, .int .u8 0, .int .u8 0, .int .u8 0, .int .u8 0, .int .u8 0, .int .u8 0, .int .u8 0, .int .u8 0, .int .u8 0, .int .u8 0, .int .u8 0] 85) := ⟨_, rfl⟩
  have hB1 : Below g4 w W1 := by rw [hW1, hg4]; exact below_alloc (Below.refl _ _) _
  have hz1 : W1.heap.size = g5 := by rw [hW1, size_alloc, hg5, hg4]
  have hB2 : Below g5 W1 W2 := by rw [hW2, ← hz1]; exact below_alloc (Below.refl _ _) _
  have hK4 : Blk W2 g4 66 .u8 (List.replicate 32 0) := (show Blk W1 g4 _ _ _ by rw [hW1, hg4]; exact Blk.new w 66 .u8 (List.replicate 32 0)).below hB2 (by omega)
  have hK5 : Blk W2 g5 85 .u8 (List.replicate 64 0) := by rw [hW2, ← hz1]; exact Blk.new W1 85 .u8 (List.replicate 64 0)
  have HI := Lib.hid (show Rd w A0 n0 l0 ∧ Bytes l0 ∧ Rd w A1 n1 l1 ∧ Bytes l1 ∧ Laid w ∧ g4 = w.heap.size ∧ g5 = g4 + 1 ∧ n1 ≤ 549755813888 ∧ l0.length = n0 from ⟨hr0, hb0, hr1, hb1, hG, hg4, hg5, hs1, hl0⟩)
  have HW := Lib.hid (show Blk W2 g4 66 .u8 (List.replicate 32 0) ∧ Blk W2 g5 85 .u8 (List.replicate 64 0) ∧ Below g4 w W2 from ⟨hK4, hK5, hB1.trans (hB2.mono (by omega))⟩)
  clear hr0 hb0 hr1 hb1 hG hK4 hK5 hB1 hB2 hz1 hl0
  go_enter Tryd.func32, Tryd.ntmps32
  go_upto_if 13 with (fail)
  rw [← hg4, ← hW1, ← hW2, ← hg5]
  have HS := Lib.hid (show W1 = w.alloc _ ∧ W2 = W1.alloc _ from ⟨hW1, hW2⟩)
  clear hg4 hg5 hW1 hW2
  go_cut [0] (fun v wc => ∃ (A : Option Addr) (n c : Nat) (kl : List Int), v = .slice A n c ∧ n ≤ c ∧ n ≤ 64 ∧ Hid (Rd wc A n kl ∧ Bytes kl ∧ kl = (if 64 < l0.length then sha2 l0 else l0) ∧ Blk wc g4 66 .u8 (List.replicate 32 0) ∧ Blk wc g5 85 .u8 (List.replicate 64 0) ∧ Below g4 w wc))
  case first =>
    by_cases h64 : 64 < n0
    · have d1 : decide (64 < (n0 : Int)) = true := decide_eq_true (by omega)
      have d1' : decide (64 < n0) = true := decide_eq_true h64
      go_wp2_with fail
      refine (Sha256_calls A0 c0 l0 _ (Kd.C_below HI.out.1 (HI.out.2.2.2.2.2.1 ▸ HW.out.2.2)) HI.out.2.1 hc0 hs0 (HI.out.2.2.2.2.1.below HW.out.2.2 (by rw [HI.out.2.2.2.2.2.1]; exact HI.out.2.2.2.2.1.lt))).mono ?_
      rintro e w3 ⟨rfl, hb3⟩
      have hk4 := HW.out.1.below hb3 HW.out.1.lt
      have hk5 := HW.out.2.1.below hb3 HW.out.2.1.lt
      have hbb : Below g4 w w3 := HW.out.2.2.trans (hb3.mono (Nat.le_of_lt HW.out.1.lt))
      obtain ⟨g6, hg6⟩ : ∃ g6, g6 = w3.heap.size := ⟨_, rfl⟩
      obtain ⟨W4, hW4⟩ : ∃ W4, W4 = w3.alloc (.cells #[.int .u8 0, .int .u8 0, .int .u8 0, .int .u8 0, .int .u8 0, .int .u8 0, .int .u8 0, .int .u8 0, .int .u8 0, .int .u8 0, .int .u8 0, .int .u8 0, .int .u8 0, .int .u8 0, .int .u8 0, .int .u8 0, .int .u8 0, .int .u8 0, .int .u8 0, .int .u8 0, .int .u8 0, .int .u8 0, .int .u8 0, .int .u8 0, .int .u8 0, .int .u8 0, .int .u8 0, .int .u8 0, .int .u8 0, .int .u8 0, .int .u8 0, .int .u8 0] 66) := ⟨_, rfl⟩
      have hB4 : Below g6 w3 W4 := by rw [hW4, hg6]; exact below_alloc (Below.refl _ _) _
      have HK6 := Lib.hid (show Blk W4 g6 66 .u8 (List.replicate 32 0) by rw [hW4, hg6]; exact Blk.new w3 66 .u8 (List.replicate 32 0))
      have HL := Lib.hid (show Blk W4 g4 66 .u8 (List.replicate 32 0) ∧ Blk W4 g5 85 .u8 (List.replicate 64 0) ∧ Below g4 w W4 ∧ g4 < g6 ∧ g5 < g6 from ⟨hk4.below hB4 (by rw [hg6]; exact hk4.lt), hk5.below hB4 (by rw [hg6]; exact hk5.lt), hbb.trans (hB4.mono (by have := hk4.lt; omega)), by rw [hg6]; exact hk4.lt, by rw [hg6]; exact hk5.lt⟩)
      have HS2 := Lib.hid (show g6 = w3.heap.size ∧ W4 = w3.alloc _ from ⟨hg6, hW4⟩)
      clear hk4 hk5 hbb hB4 hg6 hW4 hb3
      go_wp2_with (refine gate_ (.store 66 (.tmp 6) (.tmp 15)) rfl ?_; rw [← HS2.out.1, ← HS2.out.2]; refine store_blk2 (m := sha2 l0) rfl rfl rfl rfl rfl HK6.out rfl (by kernel_rfl) ?_; intro w5 hk5 hb5 hf5; have HF := Lib.hid (show Rd w5 (some ⟨g6, 0, none⟩) 32 (sha2 l0) ∧ Bytes (sha2 l0) ∧ sha2 l0 = (if 64 < l0.length then sha2 l0 else l0) ∧ Blk w5 g4 66 .u8 (List.replicate 32 0) ∧ Blk w5 g5 85 .u8 (List.replicate 64 0) ∧ Below g4 w w5 from ⟨by have hr := hk5.row (by rw [sha2_length]; decide); rw [sha2_length] at hr; exact hr, sha2_Bytes l0, by rw [HI.out.2.2.2.2.2.2.2.2, if_pos h64], hf5 _ _ _ _ (by have := HL.out; omega) HL.out.1, hf5 _ _ _ _ (by have := HL.out; omega) HL.out.2.1, hb5 _ _ HL.out.2.2.1 (by have := HL.out; omega)⟩); clear hk5 hb5 hf5)
      go_meet
      case rel => exact ⟨_, _, _, _, rfl, by omega, by omega, HF⟩
    · have d1 : decide (64 < (n0 : Int)) = false := decide_eq_false (by omega)
      have d1' : decide (64 < n0) = false := decide_eq_false h64
      have HF := Lib.hid (show Rd W2 A0 n0 l0 ∧ Bytes l0 ∧ l0 = (if 64 < l0.length then sha2 l0 else l0) ∧ Blk W2 g4 66 .u8 (List.replicate 32 0) ∧ Blk W2 g5 85 .u8 (List.replicate 64 0) ∧ Below g4 w W2 from ⟨Kd.C_below HI.out.1 (HI.out.2.2.2.2.2.1 ▸ HW.out.2.2), HI.out.2.1, by rw [HI.out.2.2.2.2.2.2.2.2, if_neg h64], HW.out.1, HW.out.2.1, HW.out.2.2⟩)
      go_wp2
      go_meet
      case rel => exact ⟨_, _, _, _, rfl, hc0, by omega, HF⟩
  case rest =>
    obtain ⟨A, n, c, kl, rfl, hnc, hn64, HF⟩ := hcut
    clear HW
    have hkl := Kd.C_len HF.out.1
    obtain ⟨KK, hKK⟩ : ∃ KK, KK = macKey l0 := ⟨_, rfl⟩
    have hKp : KK = pad64 kl := by rw [hKK, macKey, ← HF.out.2.2.1]
    have hKl : KK.length = 64 := by rw [hKK]; exact macKey_length l0
    have hcopy : ∃ Wc, (∀ ty, (Builtin.copy_ #[34, 34] ty #[.slice (some ⟨g5, 0, none⟩) 64 64, .slice A n c]).run Tryd.prog wc = .ok (.int .i64 n) Wc) ∧ Blk Wc g5 85 .u8 KK ∧ Blk Wc g4 66 .u8 (List.replicate 32 0) ∧ Below g4 w Wc := by
      have hg45 : g4 ≠ g5 := by have := HI.out; omega
      rcases Nat.eq_zero_or_pos n with h0 | h0
      · subst h0
        obtain rfl : kl = [] := List.eq_nil_of_length_eq_zero hkl
        refine ⟨wc, fun ty => run_copy_none (P := Tryd.prog) wc 34 34 ty 5 (some ⟨g5, 0, none⟩) A 64 64 0 c Tryd.underlying34 info_u8s (by simp), ?_, HF.out.2.2.2.1, HF.out.2.2.2.2.2⟩
        rw [hKp]
        exact HF.out.2.2.2.2.1
      · obtain ⟨ad, rfl, _⟩ := Rd.cells HF.out.1 h0
        have h1 := fun ty => HF.out.2.2.2.2.1.copy (off := 0) (dLen := 64) (dCap := 64) (ty := ty) (c := c) HF.out.1 (by simp; omega) hn64
        refine ⟨_, fun ty => (h1 ty).1, ?_, HF.out.2.2.2.1.farCells hg45 _, Below.setCells_ HF.out.2.2.2.2.2 (by have := HI.out; omega) _⟩
        have h2 := (h1 0).2
        rw [hKp]
        unfold pad64
        rw [List.take_zero, List.nil_append, Nat.zero_add, List.drop_replicate] at h2
        exact h2
    obtain ⟨Wc, hcp, hk5, hk4, hbw⟩ := hcopy
    have hcp1 := hcp 3
    have HC := Lib.hid (show Blk Wc g5 85 .u8 KK ∧ Blk Wc g4 66 .u8 (List.replicate 32 0) ∧ Below g4 w Wc ∧ KK.length = 64 ∧ KK = macKey l0 from ⟨hk5, hk4, hbw, hKl, hKK⟩)
    clear hcp hk5 hk4 hbw hKl hKK hKp hkl HF
    obtain ⟨g7, hg7⟩ : ∃ g7, g7 = Wc.heap.size := ⟨_, rfl⟩
    obtain ⟨g8, hg8⟩ : ∃ g8, g8 = g7 + 1 := ⟨_, rfl⟩
    obtain ⟨W5, hW5⟩ : ∃ W5, W5 = Wc.alloc (.cells #[.int .u8 0, .int .u8 0, .int .u8 0, .int .u8 0, .int .u8 0, .int .u8 0, .int .u8 0, .int .u8 0, .int .u8 0, .int .u8 0, .int .u8 0, .int .u8 0, .int .u8 0, .int .u8 0, .int .u8 0, .int .u8 0, .int .u8 0, .int .u8 0, .int .u8 0, .int .u8 0, .int .u8 0, .int .u8 0, .int .u8 0, .int .u8 0, .int .u8 0, .int .u8 0, .int .u8 0, .int .u8 0, .int .u8 0, .int .u8 0, .int .u8 0, .int .u8 0, .int .u8 0, .int .u8 0, .int .u8 0, .int .u8 0, .int .u8 0, .int .u8 0, .int .u8 0, .int .u8 0, .int .u8 0, .int .u8 0, .int .u8 0, .int .u8 0, .int .u8 0, .int .u8 0, .int .u8 0, .int .u8 0, .int .u8 0, .int .u8 0, .int .u8 0, .int .u8 0, .int .u8 0, .int .u8 0, .int .u8 0, .int .u8 0, .int .u8 0, .int .u8 0, .int .u8 0, .int .u8 0, .int .u8 0, .int .u8 0, .int .u8 0, .int .u8 0] 85) := ⟨_, rfl⟩
    obtain ⟨W6, hW6⟩ : ∃ W6, W6 = W5.alloc (.cells #[.int .u8 0, .int .u8 0, .int .u8 0, .int .u8 0, .int .u8 0, .int .u8 0, .int .u8 0, .int .u8 0, .int .u8 0, .int .u8 0, .int .u8 0, .int .u8 0, .int .u8 0, .int .u8 0, .int .u8 0, .int .u8 0, .int .u8 0, .int .u8 0, .int .u8 0, .int .u8 0, .int .u8 0, .int .u8 0, .int .u8 0, .int .u8 0, .int .u8 0, .int .u8 0, .int .u8 0, .int .u8 0, .int .u8 0, .int .u8 0, .int .u8 0, .int .u8 0, .int .u8 0, .int .u8 0, .int .u8 0, .int .u8 0, .int .u8 0, .int .u8 0, .int .u8 0, .int .u8 0, .int .u8 0, .int .u8 0, .int .u8 0, .int .u8 0, .int .u8 0, .int .u8 0, .int .u8 0, .int .u8 0, .int .u8 0, .int .u8 0, .int .u8 0, .int .u8 0, .int .u8 0, .int .u8 0, .int .u8 0, .int .u8 0, .int .u8 0, .int .u8 0, .int .u8 0, .int .u8 0, .int .u8 0, .int .u8 0, .int .u8 0, .int .u8 0] 85) := ⟨_, rfl⟩
    have hB5 : Below g7 Wc W5 := by rw [hW5, hg7]; exact below_alloc (Below.refl _ _) _
    have hz5 : W5.heap.size = g8 := by rw [hW5, size_alloc, hg8, hg7]
    have hB6 : Below g8 W5 W6 := by rw [hW6, ← hz5]; exact below_alloc (Below.refl _ _) _
    have hk7 : Blk W6 g7 85 .u8 (List.replicate 64 0) := (show Blk W5 g7 _ _ _ by rw [hW5, hg7]; exact Blk.new Wc 85 .u8 (List.replicate 64 0)).below hB6 (by omega)
    have hk8 : Blk W6 g8 85 .u8 (List.replicate 64 0) := by rw [hW6, ← hz5]; exact Blk.new W5 85 .u8 (List.replicate 64 0)
    have hBB : Below g7 Wc W6 := hB5.trans (hB6.mono (by omega))
    have hg47 : g4 < g7 := by rw [hg7]; exact HC.out.2.1.lt
    have HD := Lib.hid (show Blk W6 g7 85 .u8 (List.replicate 64 0) ∧ Blk W6 g8 85 .u8 (List.replicate 64 0) ∧ Blk W6 g4 66 .u8 (List.replicate 32 0) ∧ Below g4 w W6 ∧ g4 < g7 ∧ g7 < g8 from ⟨hk7, hk8, HC.out.2.1.below hBB hg47, HC.out.2.2.1.trans (hBB.mono (Nat.le_of_lt hg47)), hg47, by omega⟩)
    have HS5 := Lib.hid (show g7 = Wc.heap.size ∧ g8 = g7 + 1 ∧ W5 = Wc.alloc _ ∧ W6 = W5.alloc _ from ⟨hg7, hg8, hW5, hW6⟩)
    clear hB5 hz5 hB6 hk7 hk8 hBB hg47 hg7 hg8 hW5 hW6
    have HLD := Lib.hid (show Blk Wc g5 85 .u8 KK from HC.out.1)
    go_upto_region 7 with (first
      | (refine gate_ (.load 85 (.tmp 5)) rfl ?_; refine load_blk rfl rfl rfl HLD.out (by kernel_rfl) (by rw [HC.out.2.2.2.1]; kernel_rfl) ?_)
      | (refine gate_ (.store 85 (.tmp 7) (.tmp 20)) rfl ?_; rw [← HS5.out.1, ← HS5.out.2.1, ← HS5.out.2.2.1, ← HS5.out.2.2.2]; refine store_blk2 (m := KK) rfl rfl rfl rfl rfl HD.out.1 (by rw [HC.out.2.2.2.1]; rfl) (by rw [HC.out.2.2.2.1]; kernel_rfl) ?_; intro w7 hk7 hb7 hf7; have HE := Lib.hid (show Blk w7 g7 85 .u8 KK ∧ Blk w7 g8 85 .u8 (List.replicate 64 0) ∧ Blk w7 g4 66 .u8 (List.replicate 32 0) ∧ Below g4 w w7 from ⟨hk7, hf7 _ _ _ _ (by have := HD.out; omega) HD.out.2.1, hf7 _ _ _ _ (by have := HD.out; omega) HD.out.2.2.1, hb7 _ _ HD.out.2.2.2.1 (by have := HD.out; omega)⟩); clear hk7 hb7 hf7)
      | (refine gate_ (.store 85 (.tmp 8) (.tmp 21)) rfl ?_; refine store_blk2 (m := KK) rfl rfl rfl rfl rfl HE.out.2.1 (by rw [HC.out.2.2.2.1]; rfl) (by rw [HC.out.2.2.2.1]; kernel_rfl) ?_; intro w8 hk8 hb8 hf8; have HE2 := Lib.hid (show Blk w8 g7 85 .u8 (xorUp 54 KK 0) ∧ Blk w8 g8 85 .u8 (xorUp 92 KK 0) ∧ Blk w8 g4 66 .u8 (List.replicate 32 0) ∧ Below g4 w w8 from ⟨by rw [xorUp_zero]; exact hf8 _ _ _ _ (by have := HD.out; omega) HE.out.1, by rw [xorUp_zero]; exact hk8, hf8 _ _ _ _ (by have := HD.out; omega) HE.out.2.2.1, hb8 _ _ HE.out.2.2.2 (by have := HD.out; omega)⟩); clear hk8 hb8 hf8))
    go_wp2
    go_loopw [22] (fun v wi => ∃ i : Nat, v = .int .i64 i ∧ i ≤ 64 ∧ Hid (Blk wi g7 85 .u8 (xorUp 54 KK i) ∧ Blk wi g8 85 .u8 (xorUp 92 KK i) ∧ Blk wi g4 66 .u8 (List.replicate 32 0) ∧ Below g4 w wi)) (fun v _ => 64 - (intOf v).toNat)
    case atStart => exact ⟨0, rfl, by omega, HE2⟩
    case round =>
      clear HE2
      obtain ⟨i, rfl, hi, HE⟩ := hrel
      by_cases hi64 : i < 64
      · have d1 : decide ((i : Int) < 64) = true := decide_eq_true (by omega)
        have d1' : decide (i < 64) = true := decide_eq_true hi64
        have i64' : (i : Int) < 64 := by omega
        have hik : i < KK.length := by rw [HC.out.2.2.2.1]; exact hi64
        have hb7 := HE.out.1.both i (by rw [xorUp_length]; exact hik)
        have hb8 := HE.out.2.1.both i (by rw [xorUp_length]; exact hik)
        rw [xorUp_at 54 KK i hik] at hb7
        rw [xorUp_at 92 KK i hik] at hb8
        have hs7 := HE.out.1.set i (by rw [xorUp_length]; exact hik) (bits .xor .u8 (rd KK i) 54)
        rw [xorUp_set 54 KK i hik] at hs7
        have hf8 := HE.out.2.1.far (p := ⟨g7, i, none⟩) (by have := HD.out; show g8 ≠ g7; omega) (.int .u8 (bits .xor .u8 (rd KK i) 54))
        have hs8 := hf8.set i (by rw [xorUp_length]; exact hik) (bits .xor .u8 (rd KK i) 92)
        rw [xorUp_set 92 KK i hik] at hs8
        have hb8' := hf8.both i (by rw [xorUp_length]; exact hik)
        rw [xorUp_at 92 KK i hik] at hb8'
        have hf7 := hs7.far (p := ⟨g8, i, none⟩) (by have := HD.out; show g7 ≠ g8; omega) (.int .u8 (bits .xor .u8 (rd KK i) 92))
        have hf4 := (HE.out.2.2.1.far (p := ⟨g7, i, none⟩) (by have := HD.out; show g4 ≠ g7; omega) (.int .u8 (bits .xor .u8 (rd KK i) 54))).far (p := ⟨g8, i, none⟩) (by have := HD.out; show g4 ≠ g8; omega) (.int .u8 (bits .xor .u8 (rd KK i) 92))
        have hbl := (HE.out.2.2.2.setCell (p := ⟨g7, i, none⟩) (by have := HD.out; show g4 ≤ g7; omega) (.int .u8 (bits .xor .u8 (rd KK i) 54))).setCell (p := ⟨g8, i, none⟩) (by have := HD.out; show g4 ≤ g8; omega) (.int .u8 (bits .xor .u8 (rd KK i) 92))
        have HN := Lib.hid (And.intro hf7 (And.intro hs8 (And.intro hf4 hbl)))
        obtain ⟨y, hy⟩ : ∃ y, y = rd KK (i : Int) := ⟨_, rfl⟩
        rw [← hy] at hb7 hb8' HN
        obtain ⟨c7, f7⟩ := hb7
        obtain ⟨c8, f8⟩ := hb8'
        clear hb8 hs7 hf8 hs8 hf7 hf4 hbl hy hik
        go_wp2
        go_roundw
        case rel => exact ⟨i + 1, by go_num, by omega, HN⟩
        case measure => simp [intOf]; omega
      · obtain rfl : i = 64 := by omega
        have hx7 : xorUp 54 KK 64 = xorB 54 KK := by have := xorUp_all 54 KK; rwa [HC.out.2.2.2.1] at this
        have hx8 : xorUp 92 KK 64 = xorB 92 KK := by have := xorUp_all 92 KK; rwa [HC.out.2.2.2.1] at this
        have HE3 := Lib.hid (show Blk wr g7 85 .u8 (xorB 54 KK) ∧ Blk wr g8 85 .u8 (xorB 92 KK) ∧ Blk wr g4 66 .u8 (List.replicate 32 0) ∧ Below g4 w wr ∧ (xorB 54 KK).length = 64 ∧ (xorB 92 KK).length = 64 from ⟨by rw [← hx7]; exact HE.out.1, by rw [← hx8]; exact HE.out.2.1, HE.out.2.2.1, HE.out.2.2.2, by rw [xorB_length]; exact HC.out.2.2.2.1, by rw [xorB_length]; exact HC.out.2.2.2.1⟩)
        clear HE hx7 hx8
        have hr1 : Rd wr A1 n1 l1 := Kd.C_below HI.out.2.2.1 (HI.out.2.2.2.2.2.1 ▸ HE3.out.2.2.2.1)
        have HR1 := Lib.hid hr1
        have hlim : 64 + n1 ≤ 140737488355328 := by have := HI.out; omega
        clear hr1
        go_wp2_with (at_builtin; refine app_full rfl rfl rfl rfl HE3.out.2.2.2.2.1 HE3.out.1 HR1.out hlim ?_)
        intro A9 c9 w9 hc9 hr9 hb9
        have HR9 := Lib.hid (show Rd w9 A9 (64 + n1) (xorB 54 KK ++ l1) ∧ 64 + n1 ≤ c9 ∧ Below w.heap.size w w9 from ⟨hr9, hc9, HI.out.2.2.2.2.2.1 ▸ (HE3.out.2.2.2.1.trans (hb9.mono (Nat.le_of_lt HE3.out.2.2.1.lt)))⟩)
        have hk8 := HE3.out.2.1.below hb9 HE3.out.2.1.lt
        have hk4 := HE3.out.2.2.1.below hb9 HE3.out.2.2.1.lt
        have HK8 := Lib.hid (And.intro hk8 hk4)
        clear hr9 hc9 hb9 hk8 hk4
        go_wp2_with fail
        refine (Sha256_calls A9 c9 _ _ HR9.out.1 (app_Bytes (xorB_Bytes _ _) HI.out.2.2.2.1) HR9.out.2.1 (by have := HI.out; omega) (HI.out.2.2.2.2.1.below HR9.out.2.2 HI.out.2.2.2.2.1.lt)).mono ?_
        rintro e w10 ⟨rfl, hb10⟩
        obtain ⟨D, hD⟩ : ∃ D, D = sha2 (xorB 54 KK ++ l1) := ⟨_, rfl⟩
        have hDl : D.length = 32 := by rw [hD]; rfl
        rw [← hD]
        obtain ⟨g10, hg10⟩ : ∃ g10, g10 = w10.heap.size := ⟨_, rfl⟩
        obtain ⟨W11, hW11⟩ : ∃ W11, W11 = w10.alloc (.cells #[.int .u8 0, .int .u8 0, .int .u8 0, .int .u8 0, .int .u8 0, .int .u8 0, .int .u8 0, .int .u8 0, .int .u8 0, .int .u8 0, .int .u8 0, .int .u8 0, .int .u8 0, .int .u8 0, .int .u8 0, .int .u8 0, .int .u8 0, .int .u8 0, .int .u8 0, .int .u8 0, .int .u8 0, .int .u8 0, .int .u8 0, .int .u8 0, .int .u8 0, .int .u8 0, .int .u8 0, .int .u8 0, .int .u8 0, .int .u8 0, .int .u8 0, .int .u8 0] 66) := ⟨_, rfl⟩
        have hB11 : Below g10 w10 W11 := by rw [hW11, hg10]; exact below_alloc (Below.refl _ _) _
        have hk8 := HK8.out.1.below hb10 HK8.out.1.lt
        have hk4 := HK8.out.2.below hb10 HK8.out.2.lt
        have hbw := below_step HR9.out.2.2 hb10
        have HL := Lib.hid (show Blk W11 g10 66 .u8 (List.replicate 32 0) ∧ Blk W11 g8 85 .u8 (xorB 92 KK) ∧ Blk W11 g4 66 .u8 (List.replicate 32 0) ∧ Below w.heap.size w W11 ∧ g8 < g10 ∧ g4 < g10 ∧ w.heap.size ≤ g10 ∧ D.length = 32 ∧ D = sha2 (xorB 54 KK ++ l1) from
          ⟨by rw [hW11, hg10]; exact Blk.new w10 66 .u8 (List.replicate 32 0), hk8.below hB11 (by rw [hg10]; exact hk8.lt), hk4.below hB11 (by rw [hg10]; exact hk4.lt), hbw.trans (hB11.mono (by rw [hg10]; exact hbw.size)), by rw [hg10]; exact hk8.lt, by rw [hg10]; exact hk4.lt, by rw [hg10]; exact hbw.size, hDl, hD⟩)
        have HS11 := Lib.hid (show g10 = w10.heap.size ∧ W11 = w10.alloc _ from ⟨hg10, hW11⟩)
        clear hk8 hk4 hbw hB11 hg10 hW11 hb10 hD hDl
        go_upto_region 14 with (refine gate_ (.store 66 (.tmp 10) (.tmp 39)) rfl ?_; rw [← HS11.out.1, ← HS11.out.2]; refine store_blk2 (m := D) rfl rfl rfl rfl rfl HL.out.1 (by rw [HL.out.2.2.2.2.2.2.2.1]; rfl) (by rw [HL.out.2.2.2.2.2.2.2.1]; kernel_rfl) ?_; intro w12 hk12 hb12 hf12; have HM := Lib.hid (show Blk w12 g10 66 .u8 D ∧ Blk w12 g8 85 .u8 (xorB 92 KK) ∧ Blk w12 g4 66 .u8 (List.replicate 32 0) ∧ Below w.heap.size w w12 from ⟨hk12, hf12 _ _ _ _ (by have := HL.out; omega) HL.out.2.1, hf12 _ _ _ _ (by have := HL.out; omega) HL.out.2.2.1, hb12 _ _ HL.out.2.2.2.1 (by have := HL.out; omega)⟩); clear hk12 hb12 hf12)
        refine wp_region_quiet_tailC_at 2 (by kernel_rfl) (by kernel_rfl) (by kernel_rfl) (by kernel_rfl) ?_
        simp only [List.take_succ_cons, List.take_zero, List.drop_succ_cons, List.drop_zero]
        repeat (quiet_step (fail))
        refine wpQuiet_nil ?_
        intro _ hw'
        obtain ⟨nq, hw''⟩ := hw'
        subst hw''
        have HP := Lib.hid (show Blk (w12.drewN nq) g10 66 .u8 D ∧ Blk (w12.drewN nq) g8 85 .u8 (xorB 92 KK) ∧ Blk (w12.drewN nq) g4 66 .u8 (List.replicate 32 0) ∧ Below w.heap.size w (w12.drewN nq) from ⟨HM.out.1.drew nq, HM.out.2.1.drew nq, HM.out.2.2.1.drew nq, below_drewN HM.out.2.2.2 nq⟩)
        generalize w12.drewN nq = W12 at HP ⊢
        have hrD : Rd W12 (some ⟨g10, 0, none⟩) 32 D := by have := HP.out.1.row (by rw [HL.out.2.2.2.2.2.2.2.1]; decide); rwa [HL.out.2.2.2.2.2.2.2.1] at this
        have HRD := Lib.hid hrD
        clear hrD
        go_wp2_with (at_builtin; refine app_full rfl rfl rfl rfl HE3.out.2.2.2.2.2 HP.out.2.1 HRD.out (by decide) ?_)
        intro A13 c13 w13 hc13 hr13 hb13
        have HR13 := Lib.hid (show Rd w13 A13 (64 + 32) (xorB 92 KK ++ D) ∧ 64 + 32 ≤ c13 ∧ Below w.heap.size w w13 ∧ Blk w13 g4 66 .u8 (List.replicate 32 0) from ⟨hr13, hc13, below_step HP.out.2.2.2 hb13, HP.out.2.2.1.below hb13 HP.out.2.2.1.lt⟩)
        clear hr13 hc13 hb13
        go_wp2_with fail
        have HY := Lib.hid (show Bytes (xorB 92 KK ++ D) by rw [HL.out.2.2.2.2.2.2.2.2]; exact app_Bytes (xorB_Bytes _ _) (sha2_Bytes _))
        refine (Sha256_calls A13 c13 _ _ HR13.out.1 HY.out HR13.out.2.1 (by decide) (HI.out.2.2.2.2.1.below HR13.out.2.2.1 HI.out.2.2.2.2.1.lt)).mono ?_
        rintro e w14 ⟨rfl, hb14⟩
        have HZ := Lib.hid (show Blk w14 g4 66 .u8 (List.replicate 32 0) ∧ Below w.heap.size w w14 from ⟨HR13.out.2.2.2.below hb14 HR13.out.2.2.2.lt, below_step HR13.out.2.2.1 hb14⟩)
        clear hb14
        go_wp2_with (refine gate_ (.store 66 (.tmp 4) (.tmp 43)) rfl ?_; refine store_blk2 (m := sha2 (xorB 92 KK ++ D)) rfl rfl rfl rfl rfl HZ.out.1 rfl (by rw [sha2_length]; kernel_rfl) ?_; intro w15 hk15 hb15 hf15)
        refine bodyPost_ret (results_blk rfl rfl hk15 (by kernel_rfl) (by rw [sha2_length]; kernel_rfl)) rfl ?_
        refine ⟨?_, hb15 _ _ HZ.out.2 (by have := HI.out; omega)⟩
        have he : mac l0 l1 = sha2 (xorB 92 KK ++ D) := by rw [HL.out.2.2.2.2.2.2.2.2, HC.out.2.2.2.2]; rfl
        rw [he]
end Go.Proofs.YtcgenmogedndjaaDoor
namespace Go.Proofs.YtcgenmogedndjaaDoor
open Go.RowKit Go.Proofs.YtcgenmogedndjaaDoorW.PrintWords
/-- One bit's step, as the walk spells it. -/
def sumBit (c : Int) : Int := bits BinOp.xor IntKind.u32 (c / 2) (bits BinOp.and IntKind.u32 2197175160 (-(bits BinOp.and IntKind.u32 c 1) % 4294967296))
def sumByte (c x : Int) : Int := iter sumBit 8 (bits BinOp.xor IntKind.u32 c (x % 4294967296))
def sumBytes (l : List Int) : Int := l.foldl sumByte 4294967295
def wireSum (l : List Int) : Int := bits .xor .u32 4294967295 (sumBytes l)
def wire_Sum.f (l : List Int) : Option Int := some (wireSum l)
end Go.Proofs.YtcgenmogedndjaaDoor
namespace Go.Proofs.YtcgenmogedndjaaDoor
open Go.RowKit Go.Proofs.YtcgenmogedndjaaDoorW.PrintWords
theorem Rd.take {w : World} {A : Option Addr} {n : Nat} {l : List Int} (h : Rd w A n l) (m : Nat) (hm : m ≤ n) : Rd w A m (l.take m) := by
  have hl := Kd.C_len h
  have := Kd.C_take (k := Kd.int .u8) (m := m) (hl ▸ h) (by omega)
  rwa [List.length_take, Nat.min_eq_left (by omega)] at this
end Go.Proofs.YtcgenmogedndjaaDoor
namespace Go.Proofs.YtcgenmogedndjaaDoor
open Go.RowKit Go.Proofs.YtcgenmogedndjaaDoorW.PrintWords
theorem wrap_id {x : Int} (h0 : 0 ≤ x) (h1 : x < 9223372036854775808) : IntKind.i64.wrap x = x := by rw [IntKind.wrap_i64]; omega
end Go.Proofs.YtcgenmogedndjaaDoor
namespace Go.Proofs.YtcgenmogedndjaaDoor
open Go.RowKit Go.Proofs.YtcgenmogedndjaaDoorW.PrintWords
/-- A cursor over bytes, a of which are read: its own block g, the place's block p. -/
structure Cur (w : World) (g p : Nat) (A : Option Addr) (n c : Nat) (l : List Int) (a : Nat) : Prop where
  own : w.heap[g]? = some (.cells #[.pointer (some ⟨p, 0, none⟩)] 100 (0, 0))
  place : w.heap[p]? = some (.cells #[.slice A n c, .int .i64 a] 98 (0, 0))
  row : Rd w A n l
  part : g ≠ p
  far : ∀ ad, A = some ad → ad.block ≠ p
  cap : n ≤ c
  le : a ≤ n
theorem Cur.x0 {w : World} {g p : Nat} {A : Option Addr} {n c : Nat} {l : List Int} {a : Nat} (h : Cur w g p A n c l a) : w.cell? ⟨g, 0, none⟩ = some (.pointer (some ⟨p, 0, none⟩)) := by
  simp [World.cell?, h.own]
theorem Cur.x1 {w : World} {g p : Nat} {A : Option Addr} {n c : Nat} {l : List Int} {a : Nat} (h : Cur w g p A n c l a) : w.cell? ⟨p, 0, none⟩ = some (.slice A n c) := by
  simp [World.cell?, h.place]
theorem Cur.x2 {w : World} {g p : Nat} {A : Option Addr} {n c : Nat} {l : List Int} {a : Nat} (h : Cur w g p A n c l a) : w.cell? ⟨p, 1, none⟩ = some (.int .i64 a) := by
  simp [World.cell?, h.place]
theorem Cur.f2 {w : World} {g p : Nat} {A : Option Addr} {n c : Nat} {l : List Int} {a : Nat} (h : Cur w g p A n c l a) : w.frozen? ⟨p, 1, none⟩ = false := by
  simp [World.frozen?, h.place]
theorem lt_of_heap {w : World} {k : Nat} {o : Obj} (h : w.heap[k]? = some o) : k < w.heap.size := by
  rcases Nat.lt_or_ge k w.heap.size with hl | hl
  · exact hl
  · rw [Array.getElem?_eq_none hl] at h
    cases h
theorem addr_block (a : Addr) (n : Nat) : (a.add n).block = a.block := by unfold Addr.add; split <;> rfl
theorem Rd.grown {w w' : World} {row : Option Nat} {A : Option Addr} {n : Nat} {l : List Int} (h : Rd w A n l) (hg : w.grownBy w' row) (hf : ∀ ad, A = some ad → some ad.block ≠ row) : Rd w' A n l := by
  cases A with
  | none =>
    obtain ⟨rfl, rfl⟩ := h.isNil
    exact Rd.empty _ _
  | some ad =>
    refine Rd.mk (Kd.C_len h) (Kd.C_max h) fun j hj => ?_
    obtain ⟨ad', e, hc⟩ := Rd.cells h (by omega)
    cases e
    exact hg.cell (hc j hj) (by rw [addr_block]; exact hf ad rfl)
theorem Cur.grown {w w' : World} {g p : Nat} {A : Option Addr} {n c : Nat} {l : List Int} {a : Nat} (h : Cur w g p A n c l a) {row : Option Nat} (hg : w.grownBy w' row) (h1 : some g ≠ row) (h2 : some p ≠ row) (h3 : ∀ ad, A = some ad → some ad.block ≠ row) : Cur w' g p A n c l a :=
  ⟨(hg.block g (lt_of_heap h.own) h1).trans h.own, (hg.block p (lt_of_heap h.place) h2).trans h.place, h.row.grown hg h3, h.part, h.far, h.cap, h.le⟩
theorem Cur.below {w w' : World} {g p : Nat} {A : Option Addr} {n c : Nat} {l : List Int} {a : Nat} (h : Cur w g p A n c l a) (hb : Below w.heap.size w w') : Cur w' g p A n c l a :=
  ⟨(hb.block g (lt_of_heap h.own)).trans h.own, (hb.block p (lt_of_heap h.place)).trans h.place, Kd.C_below h.row hb, h.part, h.far, h.cap, h.le⟩
theorem Cur.set {w : World} {g p : Nat} {A : Option Addr} {n c : Nat} {l : List Int} {a : Nat} (h : Cur w g p A n c l a) (b : Nat) (hb : b ≤ n) : Cur (w.setCell ⟨p, 1, none⟩ (.int .i64 b)) g p A n c l b := by
  have hg := Lib.grownBy_setCell w p 1 (.int .i64 b)
  refine ⟨(hg.block g (lt_of_heap h.own) (by intro e; exact h.part (Option.some.inj e))).trans h.own, ?_, h.row.grown hg (fun ad he e => h.far ad he (Option.some.inj e)), h.part, h.far, h.cap, hb⟩
  have hp := h.place
  simp [World.setCell, Array.getElem?_modify, hp]
set_option maxHeartbeats 400000 in
theorem made_calls {g p : Nat} {A : Option Addr} {n c : Nat} {l : List Int} {a : Nat} (w : World) (h : Cur w g p A n c l a) :
    Calls Tryd.prog 66 #[.pointer (some ⟨g, 0, none⟩)] w fun e w' => e = .returned (.bool true) ∧ w' = w := by
  have x0 := h.x0
  clear h
  go_enter Tryd.func66, Tryd.ntmps66
  go_wp2
  go_ret
  exact ⟨rfl, rfl⟩
set_option maxHeartbeats 400000 in
theorem left_calls {g p : Nat} {A : Option Addr} {n c : Nat} {l : List Int} {a : Nat} (w : World) (h : Cur w g p A n c l a) :
    Calls Tryd.prog 65 #[.pointer (some ⟨p, 0, none⟩)] w fun e w' => e = .returned (.int .i64 ((n : Int) - a)) ∧ Drawn0 w w' := by
  have x1 := h.x1
  have x2 := h.x2
  have hm := Kd.C_max h.row
  have hle := h.le
  clear h
  go_enter Tryd.func65, Tryd.ntmps65
  have hw : IntKind.i64.wrap ((n : Int) - a) = n - a := wrap_id (by omega) (by omega)
  go_wp2_with fail
  go_quiet (fail)
  go_wp2
  go_ret
  exact ⟨rfl, (Drawn0.refl _).step _⟩
end Go.Proofs.YtcgenmogedndjaaDoor
namespace Go.Proofs.YtcgenmogedndjaaDoor
open Go.RowKit Go.Proofs.YtcgenmogedndjaaDoorW.PrintWords
set_option maxHeartbeats 400000 in
theorem End_more {g p : Nat} {A : Option Addr} {n c : Nat} {l : List Int} {a : Nat} (w : World) (h : Cur w g p A n c l a) (ha : a < n) :
    Calls Tryd.prog 52 #[.pointer (some ⟨g, 0, none⟩)] w fun e w' => e = .returned (.int .i64 3) ∧ Drawn0 w w' := by
  have H := Lib.hid h
  have x0 := h.x0
  have hd : decide ((0 : Int) < n - a) = true := decide_eq_true (by omega)
  clear h
  go_enter Tryd.func52, Tryd.ntmps52
  go_wp2_with fail
  refine (made_calls _ H.out).mono ?_
  rintro e w1 ⟨rfl, rfl⟩
  go_wp2_with fail
  refine (left_calls _ H.out).mono ?_
  rintro e w2 ⟨rfl, hd2⟩
  have HD := Lib.hid hd2
  clear hd2
  go_wp2
  go_ret
  exact ⟨rfl, HD.out⟩
set_option maxHeartbeats 400000 in
theorem End_ok {g p : Nat} {A : Option Addr} {n c : Nat} {l : List Int} {a : Nat} (w : World) (h : Cur w g p A n c l a) (ha : a = n) :
    Calls Tryd.prog 52 #[.pointer (some ⟨g, 0, none⟩)] w fun e w' => e = .returned (.int .i64 0) ∧ Drawn0 w w' := by
  have H := Lib.hid h
  have x0 := h.x0
  have hd : decide ((0 : Int) < n - a) = false := decide_eq_false (by omega)
  clear h
  go_enter Tryd.func52, Tryd.ntmps52
  go_wp2_with fail
  refine (made_calls _ H.out).mono ?_
  rintro e w1 ⟨rfl, rfl⟩
  go_wp2_with fail
  refine (left_calls _ H.out).mono ?_
  rintro e w2 ⟨rfl, hd2⟩
  have HD := Lib.hid hd2
  clear hd2
  go_wp2
  go_ret
  exact ⟨rfl, HD.out⟩
set_option maxHeartbeats 400000 in
theorem From_calls {n : Nat} (A0 : Option Addr) (c0 : Nat) (l : List Int) (w : World) (hr0 : Rd w A0 n l) (hs : n ≤ 140737488351232) :
    Calls Tryd.prog 49 #[.slice A0 n c0] w fun e w' => ∃ (g p : Nat) (A : Option Addr) (c : Nat), e = .returned (.pointer (some ⟨g, 0, none⟩)) ∧ Cur w' g p A n c l 0 ∧ w.heap.size ≤ g ∧ w.heap.size ≤ p ∧ (∀ ad, A = some ad → w.heap.size ≤ ad.block) ∧ Below w.heap.size w w' := by
  have HR := Lib.hid hr0
  have hlen := Kd.C_len hr0
  have HL := Lib.hid hlen
  clear hr0 hlen
  go_enter Tryd.func49, Tryd.ntmps49
  go_wp2_with (at_builtin; refine app_row (Own.nil w w) HR.out (Below.refl _ _) (by simp; omega) rfl rfl rfl rfl ?_)
  intro v1 w1 ho1 hb1 _ _
  have hge := ho1.ge
  have hlt := ho1.lt
  obtain ⟨A1, c1, rfl, hc1, hrd1⟩ := ho1.reads
  have HGE := Lib.hid hge
  have HLT := Lib.hid hlt
  have HB := Lib.hid hb1
  have HR1 := Lib.hid hrd1
  have HC1 := Lib.hid hc1
  clear ho1 hge hlt hb1 hrd1 hc1 HR
  go_wp2
  go_ret
  rw [HL.out]
  rw [HL.out] at HR1 HC1
  have hq : Below w1.heap.size w1 ((w1.alloc (.cells #[.slice A1 n c1, .int .i64 0] 98)).alloc (.cells #[.pointer (some ⟨w1.heap.size, 0, none⟩)] 100)) := below_alloc (below_alloc (Below.refl _ _) _) _
  refine ⟨w1.heap.size + 1, w1.heap.size, A1, c1, rfl, ⟨?_, ?_, Kd.C_below HR1.out hq, by omega, fun ad he => ?_, HC1.out, Nat.zero_le _⟩, by have := HB.out.size; omega, HB.out.size, fun ad he => HGE.out ad.block (by rw [he]; rfl), below_step HB.out hq⟩
  · have := heap_alloc_new (w1.alloc (.cells #[.slice A1 n c1, .int .i64 0] 98)) (.cells #[.pointer (some ⟨w1.heap.size, 0, none⟩)] 100)
    simpa using this
  · rw [Below.heap_alloc _ _ _ (by simp)]
    exact heap_alloc_new _ _
  · have := HLT.out ad.block (by rw [he]; rfl)
    omega
end Go.Proofs.YtcgenmogedndjaaDoor
namespace Go.Proofs.YtcgenmogedndjaaDoor
open Go.RowKit Go.Proofs.YtcgenmogedndjaaDoorW.PrintWords
def valOf (l : List Int) : Int := l.foldl (fun x d => 256 * x + d) 0
/-- The number with which bytes begin, how many bytes it has, or why there is none. -/
def readNum : List Int → Int × Int × Int
  | [] => (0, 0, 2)
  | b :: t =>
    if b ≤ 247 then (b, 1, 0)
    else if t.length < (b - 247).toNat then (0, 0, 2)
    else if valOf (t.take (b - 247).toNat) ≤ 247 ∨ valOf (t.take (b - 247).toNat) / 256 ^ ((b - 247).toNat - 1) = 0 then (0, 0, 10)
    else if 9223372036854775808 ≤ valOf (t.take (b - 247).toNat) then (0, 0, 5)
    else (valOf (t.take (b - 247).toNat), b - 246, 0)
theorem valOf_snoc (l : List Int) (d : Int) : valOf (l ++ [d]) = 256 * valOf l + d := by
  unfold valOf
  rw [List.foldl_append]
  rfl
theorem foldl_range (l : List Int) (h : Bytes l) : ∀ x : Int, 0 ≤ x → 0 ≤ l.foldl (fun x d => 256 * x + d) x ∧ l.foldl (fun x d => 256 * x + d) x < (x + 1) * 256 ^ l.length := by
  induction l with
  | nil => intro x hx; simp; omega
  | cons d t ih =>
    intro x hx
    have hd := h d (by simp)
    have h1 := ih (fun y hy => h y (by simp [hy])) (256 * x + d) (by omega)
    rw [List.foldl_cons, List.length_cons, Int.pow_succ]
    refine ⟨h1.1, Int.lt_of_lt_of_le h1.2 ?_⟩
    have hp : (0 : Int) ≤ 256 ^ t.length := Int.pow_nonneg (by decide)
    have h2 := Int.mul_le_mul_of_nonneg_right (show 256 * x + d + 1 ≤ (x + 1) * 256 by omega) hp
    rw [show (x + 1) * (256 ^ t.length * 256) = (x + 1) * 256 * 256 ^ t.length by rw [Int.mul_comm (256 ^ t.length) 256, Int.mul_assoc]]
    exact h2
theorem valOf_range (l : List Int) (h : Bytes l) : 0 ≤ valOf l ∧ valOf l < 256 ^ l.length := by
  have := foldl_range l h 0 (by omega)
  simpa [valOf] using this
theorem pow256 (j : Nat) (h : j ≤ 7) : (256 : Int) ^ j ≤ 72057594037927936 := by
  have hj : j = 0 ∨ j = 1 ∨ j = 2 ∨ j = 3 ∨ j = 4 ∨ j = 5 ∨ j = 6 ∨ j = 7 := by omega
  rcases hj with rfl | rfl | rfl | rfl | rfl | rfl | rfl | rfl
  all_goals decide
theorem or_u64 (a b : Nat) (ha : a < 18446744073709551616) (hb : b < 18446744073709551616) : bits .or .u64 a b = ((a ||| b : Nat) : Int) := (bits_nat .u64 64 (by decide) (fun n h₀ h₁ => by rw [IntKind.wrap_u64]; omega) a b ha hb).2
theorem or_byte_u64 (x d : Int) (x0 : 0 ≤ x) (x1 : x < 72057594037927936) (d0 : 0 ≤ d) (d1 : d < 256) : bits .or .u64 (x * 256) d = 256 * x + d := by
  obtain ⟨m, rfl⟩ := Int.eq_ofNat_of_zero_le x0
  obtain ⟨k, rfl⟩ := Int.eq_ofNat_of_zero_le d0
  rw [show (m : Int) * 256 = ((m * 256 : Nat) : Int) by omega, or_u64 _ _ (by omega) (by omega), show m * 256 = m <<< 8 by rw [Nat.shiftLeft_eq], ← Nat.shiftLeft_add_eq_or_of_lt (by omega), Nat.shiftLeft_eq]
  omega
set_option maxHeartbeats 400000 in
theorem peek_none {g p : Nat} {A : Option Addr} {n c : Nat} {l : List Int} {a : Nat} (w : World) (h : Cur w g p A n c l a) (ha : a = n) :
    Calls Tryd.prog 64 #[.pointer (some ⟨g, 0, none⟩)] w fun e w' => e = .returned (.tuple #[.int .i64 0, .int .i64 0, .int .i64 2]) ∧ Drawn0 w w' := by
  have H := Lib.hid h
  have x0 := h.x0
  have hd : ((n : Int) - a == 0) = true := by rw [ha, Int.sub_self]; rfl
  clear h ha
  go_enter Tryd.func64, Tryd.ntmps64
  go_wp2_with fail
  refine (made_calls _ H.out).mono ?_
  rintro e w1 ⟨rfl, rfl⟩
  go_wp2_with fail
  refine (left_calls _ H.out).mono ?_
  rintro e w2 ⟨rfl, hd2⟩
  have HD := Lib.hid hd2
  clear hd2
  go_wp2
  go_ret3
  exact ⟨rfl, HD.out⟩
set_option maxHeartbeats 400000 in
theorem peek_one {g p : Nat} {A : Option Addr} {n c : Nat} {l : List Int} {a : Nat} (w : World) (h : Cur w g p A n c l a) (hb : Bytes l) (ha : a < n) (hfst : rd l a ≤ 247) :
    Calls Tryd.prog 64 #[.pointer (some ⟨g, 0, none⟩)] w fun e w' => e = .returned (.tuple #[.int .i64 (rd l a), .int .i64 1, .int .i64 0]) ∧ Drawn0 w w' := by
  have H := Lib.hid h
  have x0 := h.x0
  have hd : ((n : Int) - a == 0) = false := beq_eq_false_iff_ne.2 (by omega)
  have hm := Kd.C_max h.row
  have hcap := h.cap
  have hlen := Kd.C_len h.row
  obtain ⟨b0, b1⟩ := bytes_rd hb a (by omega)
  obtain ⟨ad, rfl, hcell⟩ := Rd.cells h.row (by omega)
  have HC := Lib.hid hcell
  have HY := Lib.hid hb
  have HL := Lib.hid hlen
  obtain ⟨b, hbq⟩ : ∃ b, b = rd l a := ⟨_, rfl⟩
  rw [← hbq] at b0 b1 hfst
  have hw3 := wrap_id b0 (by omega)
  have HBQ := Lib.hid hbq
  have i0 : (a : Int) < n := by omega
  clear h hb hlen hcell hbq
  have hq : decide (b ≤ 247) = true := decide_eq_true hfst
  go_enter Tryd.func64, Tryd.ntmps64
  go_wp2_with fail
  refine (made_calls _ H.out).mono ?_
  rintro e w1 ⟨rfl, rfl⟩
  go_wp2_with fail
  refine (left_calls _ H.out).mono ?_
  rintro e w2 ⟨rfl, hd2⟩
  have H2 := Lib.hid (H.out.below hd2.below)
  have HD2 := Lib.hid hd2
  clear x0 hd2
  have x0 := H2.out.x0
  have x1 := H2.out.x1
  have x2 := H2.out.x2
  obtain ⟨ad', e, hcell⟩ := Rd.cells H2.out.row (by omega)
  cases e
  have hx := hcell a (by omega)
  rw [show rd l a = b from HBQ.out.symm] at hx
  clear hcell
  go_wp2_with fail
  go_quiet (fail)
  go_wp2
  go_ret3
  exact ⟨HBQ.out ▸ rfl, HD2.out.step _⟩
set_option maxHeartbeats 400000 in
theorem peek_short {g p : Nat} {A : Option Addr} {n c : Nat} {l : List Int} {a : Nat} (w : World) (h : Cur w g p A n c l a) (hb : Bytes l) (ha : a < n) (hfst : 247 < rd l a) (hsh : (n : Int) - a ≤ rd l a - 247) :
    Calls Tryd.prog 64 #[.pointer (some ⟨g, 0, none⟩)] w fun e w' => e = .returned (.tuple #[.int .i64 0, .int .i64 0, .int .i64 2]) ∧ Drawn0 w w' := by
  have H := Lib.hid h
  have x0 := h.x0
  have hd : ((n : Int) - a == 0) = false := beq_eq_false_iff_ne.2 (by omega)
  have hm := Kd.C_max h.row
  have hcap := h.cap
  have hlen := Kd.C_len h.row
  obtain ⟨b0, b1⟩ := bytes_rd hb a (by omega)
  obtain ⟨ad, rfl, hcell⟩ := Rd.cells h.row (by omega)
  have HC := Lib.hid hcell
  have HY := Lib.hid hb
  have HL := Lib.hid hlen
  obtain ⟨b, hbq⟩ : ∃ b, b = rd l a := ⟨_, rfl⟩
  rw [← hbq] at b0 b1 hfst hsh
  have hw3 := wrap_id b0 (by omega)
  have HBQ := Lib.hid hbq
  have i0 : (a : Int) < n := by omega
  clear h hb hlen hcell hbq
  have hq : decide (b ≤ 247) = false := decide_eq_false (by omega)
  have hq2 : decide ((n : Int) - a ≤ b - 247) = true := decide_eq_true hsh
  have hw4 := wrap_id (x := b - 247) (by omega) (by omega)
  go_enter Tryd.func64, Tryd.ntmps64
  go_wp2_with fail
  refine (made_calls _ H.out).mono ?_
  rintro e w1 ⟨rfl, rfl⟩
  go_wp2_with fail
  refine (left_calls _ H.out).mono ?_
  rintro e w2 ⟨rfl, hd2⟩
  have H2 := Lib.hid (H.out.below hd2.below)
  have HD2 := Lib.hid hd2
  clear x0 hd2
  have x0 := H2.out.x0
  have x1 := H2.out.x1
  have x2 := H2.out.x2
  obtain ⟨ad', e, hcell⟩ := Rd.cells H2.out.row (by omega)
  cases e
  have hx := hcell a (by omega)
  rw [show rd l a = b from HBQ.out.symm] at hx
  clear hcell
  go_wp2_with fail
  go_quiet (fail)
  go_wp2_with fail
  clear x1 x2 hx
  refine (left_calls _ (H2.out.below (pw_below_drewN (Below.refl _ _) _))).mono ?_
  rintro e w3 ⟨rfl, hd3⟩
  have HD4 := Lib.hid (Drawn0.trans (HD2.out.step _) hd3)
  clear hd3
  go_wp2
  go_ret3
  exact ⟨rfl, HD4.out⟩
set_option maxHeartbeats 4000000 in
theorem peek_long {g p : Nat} {A : Option Addr} {n c : Nat} {l : List Int} {a : Nat} (w : World) (h : Cur w g p A n c l a) (hb : Bytes l) (m : Nat) (hm1 : 1 ≤ m) (hm8 : m ≤ 8) (hfst : rd l a = 247 + (m : Int)) (hsh : a + 1 + m ≤ n) (x : Int) (hx : x = valOf ((l.take (a + 1 + m)).drop (a + 1))) (res : Value)
    (hres : (((x ≤ 247 ∨ x / 256 ^ (m - 1) = 0) ∧ res = .tuple #[.int .i64 0, .int .i64 0, .int .i64 10]) ∨ (¬ (x ≤ 247 ∨ x / 256 ^ (m - 1) = 0) ∧ 9223372036854775808 ≤ x ∧ res = .tuple #[.int .i64 0, .int .i64 0, .int .i64 5]) ∨ (¬ (x ≤ 247 ∨ x / 256 ^ (m - 1) = 0) ∧ x < 9223372036854775808 ∧ res = .tuple #[.int .i64 x, .int .i64 ((m : Int) + 1), .int .i64 0]))) :
    Calls Tryd.prog 64 #[.pointer (some ⟨g, 0, none⟩)] w fun e w' => e = .returned res ∧ Drawn0 w w' := by
  have H := Lib.hid h
  have x0 := h.x0
  have ha : a < n := by omega
  have hd : ((n : Int) - a == 0) = false := beq_eq_false_iff_ne.2 (by omega)
  have hm := Kd.C_max h.row
  have hcap := h.cap
  have hlen := Kd.C_len h.row
  obtain ⟨b0, b1⟩ := bytes_rd hb a (by omega)
  obtain ⟨ad, rfl, hcell⟩ := Rd.cells h.row (by omega)
  have HC := Lib.hid hcell
  have HY := Lib.hid hb
  have HL := Lib.hid hlen
  obtain ⟨b, hbq⟩ : ∃ b, b = rd l a := ⟨_, rfl⟩
  rw [← hbq] at b0 b1 hfst
  have hw3 := wrap_id b0 (by omega)
  have HBQ := Lib.hid hbq
  have i0 : (a : Int) < n := by omega
  clear h hb hlen hcell hbq
  obtain rfl : b = 247 + (m : Int) := hfst
  have hq : decide (247 + (m : Int) ≤ 247) = false := decide_eq_false (by omega)
  have hq2 : decide ((n : Int) - a ≤ m) = false := decide_eq_false (by omega)
  have hw4 : IntKind.i64.wrap (247 + (m : Int) - 247) = m := by rw [wrap_id (by omega) (by omega)]; omega
  have HRES := Lib.hid hres
  obtain ⟨t, ht⟩ : ∃ t, t = (l.take (a + 1 + m)).drop (a + 1) := ⟨_, rfl⟩
  rw [← ht] at hx
  have HT := Lib.hid ht
  have HTL := Lib.hid (show t.length = m by rw [ht, List.length_drop, List.length_take, HL.out]; omega)
  have HTB := Lib.hid (show Bytes t from ht ▸ (HY.out.tk _).dp _)
  have HX := Lib.hid hx
  clear hres ht hx
  go_enter Tryd.func64, Tryd.ntmps64
  go_wp2_with fail
  refine (made_calls _ H.out).mono ?_
  rintro e w1 ⟨rfl, rfl⟩
  go_wp2_with fail
  refine (left_calls _ H.out).mono ?_
  rintro e w2 ⟨rfl, hd2⟩
  have H2 := Lib.hid (H.out.below hd2.below)
  have HD2 := Lib.hid hd2
  clear x0 hd2
  have x0 := H2.out.x0
  have x1 := H2.out.x1
  have x2 := H2.out.x2
  obtain ⟨ad', e, hcell⟩ := Rd.cells H2.out.row (by omega)
  cases e
  have hx := hcell a (by omega)
  rw [show rd l a = 247 + (m : Int) from HBQ.out.symm] at hx
  clear hcell
  go_wp2_with fail
  go_quiet (fail)
  go_wp2_with fail
  clear x1 x2 hx
  refine (left_calls _ (H2.out.below (pw_below_drewN (Below.refl _ _) _))).mono ?_
  rintro e w3 ⟨rfl, hd3⟩
  have HD4 := Lib.hid (Drawn0.trans (HD2.out.step _) hd3)
  have H4 := Lib.hid (Cur.below (H2.out.below (pw_below_drewN (Below.refl _ _) _)) hd3.below)
  clear hd3 x0
  have x0 := H4.out.x0
  have x1 := H4.out.x1
  have x2 := H4.out.x2
  have g1 := wrap_id (x := (a : Int) + 1) (by omega) (by omega)
  have g2 := wrap_id (x := (a : Int) + 1 + m) (by omega) (by omega)
  have g3 : (0 : Int) ≤ (a : Int) + 1 := by omega
  have g4 : (0 : Int) ≤ (a : Int) + 1 + m := by omega
  have g5 : (a : Int) + 1 ≤ c := by omega
  have g6 : (a : Int) + 1 + m ≤ c := by omega
  have g7 : (a : Int) + 1 ≤ (a : Int) + 1 + m := by omega
  have g8 : ((a : Int) + 1).toNat = a + 1 := by omega
  have g9 : ((a : Int) + 1 + m).toNat = a + 1 + m := by omega
  have g10 : ¬ c = a + 1 := by omega
  have g11 : a + 1 + m - (a + 1) = m := by omega
  go_wp2_with fail
  go_quiet (fail)
  clear x0 x1 x2 g1 g2 g3 g4 g5 g6 g7 g8 g9 g10 g11
  have HROW := Lib.hid (fun (W : World) (hb : Below w3.heap.size w3 W) => (show Rd W (some ⟨ad.block, ad.off + (a + 1), none⟩) m t by
    have hq := Rd.mid (x := ⟨ad.block, ad.off + (a + 1), none⟩) (Kd.C_below H4.out.row hb) (a + 1) (a + 1 + m) (by omega) hsh (fun _ => by show _ = (if a + 1 = 0 then _ else _); rw [if_neg (by omega)])
    rwa [← HT.out, show a + 1 + m - (a + 1) = m by omega] at hq))
  go_wp2_with fail
  obtain ⟨bd, hbd⟩ : ∃ bd : Addr, bd = ⟨ad.block, ad.off + (a + 1), none⟩ := ⟨_, rfl⟩
  rw [← hbd] at HROW ⊢
  clear hbd
  go_loopw [7, 77] (fun v i wr => ∃ (j : Nat) (y : Int), j ≤ m ∧ i = .int .i64 j ∧ v = .int .u64 y ∧ Hid (y = valOf (t.take j)) ∧ Hid (Drawn0 w1 wr) ∧ Hid (Below w3.heap.size w3 wr)) (fun _ i _ => m - (intOf i).toNat)
  case atStart => exact ⟨0, 0, by omega, rfl, rfl, Lib.hid rfl, Lib.hid (HD4.out.step _), Lib.hid (pw_below_drewN (Below.refl _ _) _)⟩
  case round =>
    obtain ⟨j, y, hj, rfl, rfl, HYJ, HD, HB⟩ := hrel
    have HRW := Lib.hid (HROW.out _ HB.out)
    by_cases hjm : j < m
    · obtain ⟨ad', e, hx⟩ := Kd.at_int HRW.out j (by omega) (by omega)
      cases e
      rw [show ((j : Int)).toNat = j from rfl] at hx
      obtain ⟨d0, d1⟩ := bytes_rd HTB.out j (by rw [HTL.out]; exact hjm)
      have hstep : valOf (t.take (j + 1)) = 256 * y + rd t j := by
        rw [List.take_add_one, List.getElem?_eq_getElem (by rw [HTL.out]; exact hjm), rd_get t j (by rw [HTL.out]; exact hjm), HYJ.out]
        exact valOf_snoc _ _
      have hyr := valOf_range (t.take j) (HTB.out.tk j)
      rw [← HYJ.out, List.length_take, HTL.out, Nat.min_eq_left hj] at hyr
      have hp := pow256 j (by omega)
      obtain ⟨y0, y1'⟩ := hyr
      have y1 : y < 72057594037927936 := Int.lt_of_lt_of_le y1' hp
      obtain ⟨d, hd'⟩ : ∃ d, d = rd t j := ⟨_, rfl⟩
      rw [← hd'] at hx d0 d1 hstep
      have HSTEP := Lib.hid hstep
      have hor := or_byte_u64 y d y0 y1 d0 d1
      have hwd : IntKind.u64.wrap d = d := by rw [IntKind.wrap_u64]; omega
      clear hstep hd' hp y1'
      go_wp2
      go_roundw
      case rel => exact ⟨j + 1, 256 * y + d, by omega, by go_num, by first | rfl | (rw [hor]), Lib.hid HSTEP.out.symm, HD, HB⟩
      case measure => simp [intOf]; omega
    · obtain rfl : j = m := by omega
      have hyx : y = x := by rw [HYJ.out, HX.out, List.take_of_length_le (by rw [HTL.out]; exact Nat.le_refl _)]
      subst hyx
      have hyr := valOf_range t HTB.out
      rw [← HX.out, HTL.out] at hyr
      have hj8 : j = 1 ∨ j = 2 ∨ j = 3 ∨ j = 4 ∨ j = 5 ∨ j = 6 ∨ j = 7 ∨ j = 8 := by omega
      clear hsh hq hq2 hw4 i0
      rcases hj8 with rfl | rfl | rfl | rfl | rfl | rfl | rfl | rfl
      · have hres := HRES.out
        rw [show (256 : Int) ^ (1 - 1) = 1 by decide] at hres
        rw [show (256 : Int) ^ 1 = 256 by decide] at hyr
        rcases hres with ⟨hc, rfl⟩ | ⟨hc, hc2, rfl⟩ | ⟨hc, hc2, rfl⟩
        · by_cases e1 : y ≤ 247
          · have d1 : decide (y ≤ 247) = true := decide_eq_true e1
            go_wp2
            go_ret3
            exact ⟨rfl, HD.out⟩
          · have d1 : decide (y ≤ 247) = false := decide_eq_false e1
            have d2 : (y == 0) = true := beq_iff_eq.2 (by omega)
            go_wp2
            go_ret3
            exact ⟨rfl, HD.out⟩
        · have d1 : decide (y ≤ 247) = false := decide_eq_false (by omega)
          have d2 : (y == 0) = false := beq_eq_false_iff_ne.2 (by omega)
          have d3 : (y / 9223372036854775808 == 0) = false := beq_eq_false_iff_ne.2 (by omega)
          have d4 : (y / 9223372036854775808 != 0) = true := by rw [bne, d3]; rfl
          go_wp2
          go_ret3
          exact ⟨rfl, HD.out⟩
        · have d1 : decide (y ≤ 247) = false := decide_eq_false (by omega)
          have d2 : (y == 0) = false := beq_eq_false_iff_ne.2 (by omega)
          have d3 : (y / 9223372036854775808 == 0) = true := beq_iff_eq.2 (by omega)
          have d4 : (y / 9223372036854775808 != 0) = false := by rw [bne, d3]; rfl
          have d5 : IntKind.i64.wrap y = y := wrap_id (by omega) (by omega)
          go_wp2
          go_ret3
          exact ⟨rfl, HD.out⟩
      · have hres := HRES.out
        rw [show (256 : Int) ^ (2 - 1) = 256 by decide] at hres
        rw [show (256 : Int) ^ 2 = 65536 by decide] at hyr
        rcases hres with ⟨hc, rfl⟩ | ⟨hc, hc2, rfl⟩ | ⟨hc, hc2, rfl⟩
        · by_cases e1 : y ≤ 247
          · have d1 : decide (y ≤ 247) = true := decide_eq_true e1
            go_wp2
            go_ret3
            exact ⟨rfl, HD.out⟩
          · have d1 : decide (y ≤ 247) = false := decide_eq_false e1
            have d2 : (y / 256 == 0) = true := beq_iff_eq.2 (by omega)
            go_wp2
            go_ret3
            exact ⟨rfl, HD.out⟩
        · have d1 : decide (y ≤ 247) = false := decide_eq_false (by omega)
          have d2 : (y / 256 == 0) = false := beq_eq_false_iff_ne.2 (by omega)
          have d3 : (y / 9223372036854775808 == 0) = false := beq_eq_false_iff_ne.2 (by omega)
          have d4 : (y / 9223372036854775808 != 0) = true := by rw [bne, d3]; rfl
          go_wp2
          go_ret3
          exact ⟨rfl, HD.out⟩
        · have d1 : decide (y ≤ 247) = false := decide_eq_false (by omega)
          have d2 : (y / 256 == 0) = false := beq_eq_false_iff_ne.2 (by omega)
          have d3 : (y / 9223372036854775808 == 0) = true := beq_iff_eq.2 (by omega)
          have d4 : (y / 9223372036854775808 != 0) = false := by rw [bne, d3]; rfl
          have d5 : IntKind.i64.wrap y = y := wrap_id (by omega) (by omega)
          go_wp2
          go_ret3
          exact ⟨rfl, HD.out⟩
      · have hres := HRES.out
        rw [show (256 : Int) ^ (3 - 1) = 65536 by decide] at hres
        rw [show (256 : Int) ^ 3 = 16777216 by decide] at hyr
        rcases hres with ⟨hc, rfl⟩ | ⟨hc, hc2, rfl⟩ | ⟨hc, hc2, rfl⟩
        · by_cases e1 : y ≤ 247
          · have d1 : decide (y ≤ 247) = true := decide_eq_true e1
            go_wp2
            go_ret3
            exact ⟨rfl, HD.out⟩
          · have d1 : decide (y ≤ 247) = false := decide_eq_false e1
            have d2 : (y / 65536 == 0) = true := beq_iff_eq.2 (by omega)
            go_wp2
            go_ret3
            exact ⟨rfl, HD.out⟩
        · have d1 : decide (y ≤ 247) = false := decide_eq_false (by omega)
          have d2 : (y / 65536 == 0) = false := beq_eq_false_iff_ne.2 (by omega)
          have d3 : (y / 9223372036854775808 == 0) = false := beq_eq_false_iff_ne.2 (by omega)
          have d4 : (y / 9223372036854775808 != 0) = true := by rw [bne, d3]; rfl
          go_wp2
          go_ret3
          exact ⟨rfl, HD.out⟩
        · have d1 : decide (y ≤ 247) = false := decide_eq_false (by omega)
          have d2 : (y / 65536 == 0) = false := beq_eq_false_iff_ne.2 (by omega)
          have d3 : (y / 9223372036854775808 == 0) = true := beq_iff_eq.2 (by omega)
          have d4 : (y / 9223372036854775808 != 0) = false := by rw [bne, d3]; rfl
          have d5 : IntKind.i64.wrap y = y := wrap_id (by omega) (by omega)
          go_wp2
          go_ret3
          exact ⟨rfl, HD.out⟩
      · have hres := HRES.out
        rw [show (256 : Int) ^ (4 - 1) = 16777216 by decide] at hres
        rw [show (256 : Int) ^ 4 = 4294967296 by decide] at hyr
        rcases hres with ⟨hc, rfl⟩ | ⟨hc, hc2, rfl⟩ | ⟨hc, hc2, rfl⟩
        · by_cases e1 : y ≤ 247
          · have d1 : decide (y ≤ 247) = true := decide_eq_true e1
            go_wp2
            go_ret3
            exact ⟨rfl, HD.out⟩
          · have d1 : decide (y ≤ 247) = false := decide_eq_false e1
            have d2 : (y / 16777216 == 0) = true := beq_iff_eq.2 (by omega)
            go_wp2
            go_ret3
            exact ⟨rfl, HD.out⟩
        · have d1 : decide (y ≤ 247) = false := decide_eq_false (by omega)
          have d2 : (y / 16777216 == 0) = false := beq_eq_false_iff_ne.2 (by omega)
          have d3 : (y / 9223372036854775808 == 0) = false := beq_eq_false_iff_ne.2 (by omega)
          have d4 : (y / 9223372036854775808 != 0) = true := by rw [bne, d3]; rfl
          go_wp2
          go_ret3
          exact ⟨rfl, HD.out⟩
        · have d1 : decide (y ≤ 247) = false := decide_eq_false (by omega)
          have d2 : (y / 16777216 == 0) = false := beq_eq_false_iff_ne.2 (by omega)
          have d3 : (y / 9223372036854775808 == 0) = true := beq_iff_eq.2 (by omega)
          have d4 : (y / 9223372036854775808 != 0) = false := by rw [bne, d3]; rfl
          have d5 : IntKind.i64.wrap y = y := wrap_id (by omega) (by omega)
          go_wp2
          go_ret3
          exact ⟨rfl, HD.out⟩
      · have hres := HRES.out
        rw [show (256 : Int) ^ (5 - 1) = 4294967296 by decide] at hres
        rw [show (256 : Int) ^ 5 = 1099511627776 by decide] at hyr
        rcases hres with ⟨hc, rfl⟩ | ⟨hc, hc2, rfl⟩ | ⟨hc, hc2, rfl⟩
        · by_cases e1 : y ≤ 247
          · have d1 : decide (y ≤ 247) = true := decide_eq_true e1
            go_wp2
            go_ret3
            exact ⟨rfl, HD.out⟩
          · have d1 : decide (y ≤ 247) = false := decide_eq_false e1
            have d2 : (y / 4294967296 == 0) = true := beq_iff_eq.2 (by omega)
            go_wp2
            go_ret3
            exact ⟨rfl, HD.out⟩
        · have d1 : decide (y ≤ 247) = false := decide_eq_false (by omega)
          have d2 : (y / 4294967296 == 0) = false := beq_eq_false_iff_ne.2 (by omega)
          have d3 : (y / 9223372036854775808 == 0) = false := beq_eq_false_iff_ne.2 (by omega)
          have d4 : (y / 9223372036854775808 != 0) = true := by rw [bne, d3]; rfl
          go_wp2
          go_ret3
          exact ⟨rfl, HD.out⟩
        · have d1 : decide (y ≤ 247) = false := decide_eq_false (by omega)
          have d2 : (y / 4294967296 == 0) = false := beq_eq_false_iff_ne.2 (by omega)
          have d3 : (y / 9223372036854775808 == 0) = true := beq_iff_eq.2 (by omega)
          have d4 : (y / 9223372036854775808 != 0) = false := by rw [bne, d3]; rfl
          have d5 : IntKind.i64.wrap y = y := wrap_id (by omega) (by omega)
          go_wp2
          go_ret3
          exact ⟨rfl, HD.out⟩
      · have hres := HRES.out
        rw [show (256 : Int) ^ (6 - 1) = 1099511627776 by decide] at hres
        rw [show (256 : Int) ^ 6 = 281474976710656 by decide] at hyr
        rcases hres with ⟨hc, rfl⟩ | ⟨hc, hc2, rfl⟩ | ⟨hc, hc2, rfl⟩
        · by_cases e1 : y ≤ 247
          · have d1 : decide (y ≤ 247) = true := decide_eq_true e1
            go_wp2
            go_ret3
            exact ⟨rfl, HD.out⟩
          · have d1 : decide (y ≤ 247) = false := decide_eq_false e1
            have d2 : (y / 1099511627776 == 0) = true := beq_iff_eq.2 (by omega)
            go_wp2
            go_ret3
            exact ⟨rfl, HD.out⟩
        · have d1 : decide (y ≤ 247) = false := decide_eq_false (by omega)
          have d2 : (y / 1099511627776 == 0) = false := beq_eq_false_iff_ne.2 (by omega)
          have d3 : (y / 9223372036854775808 == 0) = false := beq_eq_false_iff_ne.2 (by omega)
          have d4 : (y / 9223372036854775808 != 0) = true := by rw [bne, d3]; rfl
          go_wp2
          go_ret3
          exact ⟨rfl, HD.out⟩
        · have d1 : decide (y ≤ 247) = false := decide_eq_false (by omega)
          have d2 : (y / 1099511627776 == 0) = false := beq_eq_false_iff_ne.2 (by omega)
          have d3 : (y / 9223372036854775808 == 0) = true := beq_iff_eq.2 (by omega)
          have d4 : (y / 9223372036854775808 != 0) = false := by rw [bne, d3]; rfl
          have d5 : IntKind.i64.wrap y = y := wrap_id (by omega) (by omega)
          go_wp2
          go_ret3
          exact ⟨rfl, HD.out⟩
      · have hres := HRES.out
        rw [show (256 : Int) ^ (7 - 1) = 281474976710656 by decide] at hres
        rw [show (256 : Int) ^ 7 = 72057594037927936 by decide] at hyr
        rcases hres with ⟨hc, rfl⟩ | ⟨hc, hc2, rfl⟩ | ⟨hc, hc2, rfl⟩
        · by_cases e1 : y ≤ 247
          · have d1 : decide (y ≤ 247) = true := decide_eq_true e1
            go_wp2
            go_ret3
            exact ⟨rfl, HD.out⟩
          · have d1 : decide (y ≤ 247) = false := decide_eq_false e1
            have d2 : (y / 281474976710656 == 0) = true := beq_iff_eq.2 (by omega)
            go_wp2
            go_ret3
            exact ⟨rfl, HD.out⟩
        · have d1 : decide (y ≤ 247) = false := decide_eq_false (by omega)
          have d2 : (y / 281474976710656 == 0) = false := beq_eq_false_iff_ne.2 (by omega)
          have d3 : (y / 9223372036854775808 == 0) = false := beq_eq_false_iff_ne.2 (by omega)
          have d4 : (y / 9223372036854775808 != 0) = true := by rw [bne, d3]; rfl
          go_wp2
          go_ret3
          exact ⟨rfl, HD.out⟩
        · have d1 : decide (y ≤ 247) = false := decide_eq_false (by omega)
          have d2 : (y / 281474976710656 == 0) = false := beq_eq_false_iff_ne.2 (by omega)
          have d3 : (y / 9223372036854775808 == 0) = true := beq_iff_eq.2 (by omega)
          have d4 : (y / 9223372036854775808 != 0) = false := by rw [bne, d3]; rfl
          have d5 : IntKind.i64.wrap y = y := wrap_id (by omega) (by omega)
          go_wp2
          go_ret3
          exact ⟨rfl, HD.out⟩
      · have hres := HRES.out
        rw [show (256 : Int) ^ (8 - 1) = 72057594037927936 by decide] at hres
        rw [show (256 : Int) ^ 8 = 18446744073709551616 by decide] at hyr
        rcases hres with ⟨hc, rfl⟩ | ⟨hc, hc2, rfl⟩ | ⟨hc, hc2, rfl⟩
        · by_cases e1 : y ≤ 247
          · have d1 : decide (y ≤ 247) = true := decide_eq_true e1
            go_wp2
            go_ret3
            exact ⟨rfl, HD.out⟩
          · have d1 : decide (y ≤ 247) = false := decide_eq_false e1
            have d2 : (y / 72057594037927936 == 0) = true := beq_iff_eq.2 (by omega)
            go_wp2
            go_ret3
            exact ⟨rfl, HD.out⟩
        · have d1 : decide (y ≤ 247) = false := decide_eq_false (by omega)
          have d2 : (y / 72057594037927936 == 0) = false := beq_eq_false_iff_ne.2 (by omega)
          have d3 : (y / 9223372036854775808 == 0) = false := beq_eq_false_iff_ne.2 (by omega)
          have d4 : (y / 9223372036854775808 != 0) = true := by rw [bne, d3]; rfl
          go_wp2
          go_ret3
          exact ⟨rfl, HD.out⟩
        · have d1 : decide (y ≤ 247) = false := decide_eq_false (by omega)
          have d2 : (y / 72057594037927936 == 0) = false := beq_eq_false_iff_ne.2 (by omega)
          have d3 : (y / 9223372036854775808 == 0) = true := beq_iff_eq.2 (by omega)
          have d4 : (y / 9223372036854775808 != 0) = false := by rw [bne, d3]; rfl
          have d5 : IntKind.i64.wrap y = y := wrap_id (by omega) (by omega)
          go_wp2
          go_ret3
          exact ⟨rfl, HD.out⟩
end Go.Proofs.YtcgenmogedndjaaDoor
namespace Go.Proofs.YtcgenmogedndjaaDoor
open Go.RowKit Go.Proofs.YtcgenmogedndjaaDoorW.PrintWords
theorem drop_cons (l : List Int) (a : Nat) (h : a < l.length) : l.drop a = rd l a :: l.drop (a + 1) := by
  rw [rd_get l a h]
  exact List.drop_eq_getElem_cons h
theorem readNum_small (b : Int) (t : List Int) (h : b ≤ 247) : readNum (b :: t) = (b, 1, 0) := if_pos h
theorem readNum_short (b : Int) (t : List Int) (h : 247 < b) (hs : t.length < (b - 247).toNat) : readNum (b :: t) = (0, 0, 2) := (if_neg (by omega)).trans (if_pos hs)
theorem readNum_form (b : Int) (t : List Int) (h : 247 < b) (hs : ¬ t.length < (b - 247).toNat) (hf : valOf (t.take (b - 247).toNat) ≤ 247 ∨ valOf (t.take (b - 247).toNat) / 256 ^ ((b - 247).toNat - 1) = 0) : readNum (b :: t) = (0, 0, 10) :=
  (if_neg (by omega)).trans ((if_neg hs).trans (if_pos hf))
theorem readNum_big (b : Int) (t : List Int) (h : 247 < b) (hs : ¬ t.length < (b - 247).toNat) (hf : ¬ (valOf (t.take (b - 247).toNat) ≤ 247 ∨ valOf (t.take (b - 247).toNat) / 256 ^ ((b - 247).toNat - 1) = 0)) (hb : 9223372036854775808 ≤ valOf (t.take (b - 247).toNat)) : readNum (b :: t) = (0, 0, 5) :=
  (if_neg (by omega)).trans ((if_neg hs).trans ((if_neg hf).trans (if_pos hb)))
theorem readNum_long (b : Int) (t : List Int) (h : 247 < b) (hs : ¬ t.length < (b - 247).toNat) (hf : ¬ (valOf (t.take (b - 247).toNat) ≤ 247 ∨ valOf (t.take (b - 247).toNat) / 256 ^ ((b - 247).toNat - 1) = 0)) (hb : ¬ 9223372036854775808 ≤ valOf (t.take (b - 247).toNat)) : readNum (b :: t) = (valOf (t.take (b - 247).toNat), b - 246, 0) :=
  (if_neg (by omega)).trans ((if_neg hs).trans ((if_neg hf).trans (if_neg hb)))
theorem peek_calls {g p : Nat} {A : Option Addr} {n c : Nat} {l : List Int} {a : Nat} (w : World) (h : Cur w g p A n c l a) (hb : Bytes l) :
    Calls Tryd.prog 64 #[.pointer (some ⟨g, 0, none⟩)] w fun e w' => e = .returned (.tuple #[.int .i64 (readNum (l.drop a)).1, .int .i64 (readNum (l.drop a)).2.1, .int .i64 (readNum (l.drop a)).2.2]) ∧ Drawn0 w w' := by
  have hlen := Kd.C_len h.row
  have hle := h.le
  by_cases ha : a = n
  · rw [List.drop_eq_nil_of_le (by omega)]
    exact peek_none w h ha
  have hd := drop_cons l a (by omega)
  obtain ⟨b0, b1⟩ := bytes_rd hb a (by omega)
  rw [hd]
  by_cases h1 : rd l a ≤ 247
  · rw [readNum_small _ _ h1]
    exact peek_one w h hb (by omega) h1
  have htl : (l.drop (a + 1)).length = n - (a + 1) := by rw [List.length_drop, hlen]
  by_cases h2 : (l.drop (a + 1)).length < (rd l a - 247).toNat
  · rw [readNum_short _ _ (by omega) h2]
    exact peek_short w h hb (by omega) (by omega) (by omega)
  obtain ⟨m, hm⟩ : ∃ m, m = (rd l a - 247).toNat := ⟨_, rfl⟩
  have hx : valOf ((l.take (a + 1 + m)).drop (a + 1)) = valOf ((l.drop (a + 1)).take m) := by rw [List.drop_take, show a + 1 + m - (a + 1) = m by omega]
  by_cases h3 : valOf ((l.drop (a + 1)).take m) ≤ 247 ∨ valOf ((l.drop (a + 1)).take m) / 256 ^ (m - 1) = 0
  · rw [readNum_form _ _ (by omega) h2 (hm ▸ h3)]
    exact peek_long w h hb m (by omega) (by omega) (by omega) (by omega) _ hx.symm _ (.inl ⟨h3, rfl⟩)
  by_cases h4 : 9223372036854775808 ≤ valOf ((l.drop (a + 1)).take m)
  · rw [readNum_big _ _ (by omega) h2 (hm ▸ h3) (hm ▸ h4)]
    exact peek_long w h hb m (by omega) (by omega) (by omega) (by omega) _ hx.symm _ (.inr (.inl ⟨h3, h4, rfl⟩))
  · rw [readNum_long _ _ (by omega) h2 (hm ▸ h3) (hm ▸ h4)]
    have := peek_long w h hb m (by omega) (by omega) (by omega) (by omega) _ hx.symm _ (.inr (.inr ⟨h3, by omega, rfl⟩))
    rw [← hm, show rd l a - 246 = (m : Int) + 1 by omega]
    exact this
/-- What a number that is read has. -/
theorem readNum_ok (r : List Int) (hb : Bytes r) (h : (readNum r).2.2 = 0) : 1 ≤ (readNum r).2.1 ∧ (readNum r).2.1 ≤ r.length ∧ 0 ≤ (readNum r).1 ∧ (readNum r).1 < 9223372036854775808 := by
  cases r with
  | nil => simp [readNum] at h
  | cons b t =>
    have hb0 := hb b (by simp)
    have hv := (valOf_range (t.take (b - 247).toNat) (fun x hx => hb x (by simp [List.mem_of_mem_take hx]))).1
    unfold readNum at h ⊢
    simp only at h ⊢
    repeat' split
    all_goals simp_all
    all_goals omega
theorem readNum_bad (r : List Int) (h : (readNum r).2.2 ≠ 0) : (readNum r).1 = 0 ∧ (readNum r).2.1 = 0 := by
  cases r with
  | nil => simp [readNum]
  | cons b t =>
    unfold readNum at h ⊢
    simp only at h ⊢
    repeat' split
    all_goals simp_all
end Go.Proofs.YtcgenmogedndjaaDoor
namespace Go.Proofs.YtcgenmogedndjaaDoor
open Go.RowKit Go.Proofs.YtcgenmogedndjaaDoorW.PrintWords
theorem own_made {w0 W : World} (h : w0.heap.size ≤ W.heap.size) (c : Nat) (hc : c ≤ maxLen) : Own w0 (W.alloc (.cells (madeCells #[.int .u8 0] c) 5)) (.slice (some ⟨W.heap.size, 0, none⟩) 0 c) [] :=
  ⟨fun _ _ => trivial, [], World.ownsRow_made W _ c h hc (by rw [size_madeCells]; exact (Nat.mul_one c).symm), Reps.none _ _⟩
theorem and_63 (x : Int) (h0 : 0 ≤ x) (h1 : x < 9223372036854775808) : bits .and .i64 x 63 = x % 64 := by
  obtain ⟨k, rfl⟩ := Int.eq_ofNat_of_zero_le h0
  have h := and_i64 k 63 (by omega) (by omega)
  have e : k &&& 63 = k % 64 := Nat.and_two_pow_sub_one_eq_mod k 6
  rw [e] at h
  exact h.trans (by omega)
theorem or_shl8 (x d : Int) (x0 : 0 ≤ x) (x1 : x < 36028797018963968) (d0 : 0 ≤ d) (d1 : d < 256) : bits .or .i64 (x * 256) d = x * 256 + d :=
  bits_join .i64 63 (by decide) wraps_i64 8 (x * 256) d (by omega) (by omega) (by omega) (by omega) (by omega) (by omega)
set_option maxHeartbeats 1600000 in
theorem Spell_calls {n : Nat} (A0 : Option Addr) (c0 : Nat) (l0 : List Int) (w : World) (hr0 : Rd w A0 n l0) (hb0 : Bytes l0) (hs : n ≤ 35184372088832) :
    Calls Tryd.prog 46 #[.slice A0 n c0] w fun e w' => e = .returned (.string (strOfNums (sp3 l0))) ∧ Below w.heap.size w w' := by
  have HR := Lib.hid hr0
  have HY := Lib.hid hb0
  have HL := Lib.hid (Kd.C_len hr0)
  clear hr0 hb0
  obtain ⟨i0, hi, hzz⟩ := Option.map_eq_some_iff.1 (show (Tryd.prog.info? 5).map (fun i => (i.zero, i.size, i.bytes)) = some (some (.int .u8 0), 1, 1) from info_u8)
  simp only [Prod.mk.injEq] at hzz
  obtain ⟨hz0, hz1, hz2⟩ := hzz
  have hmk := run_make (P := Tryd.prog) w 34 5 i0 (.int .u8 0) Tryd.underlying34 hi hz0 .i64 .i64 0 ((n : Int) + (n : Int) / 2 + 2) (by omega) (by omega) (by rw [hz2]; omega) (by omega)
  rw [hz1, Nat.mul_one, show ((n : Int) + (n : Int) / 2 + 2).toNat = n + n / 2 + 2 by omega, Int.toNat_zero] at hmk
  have hOm := own_made (w0 := w) (W := w) (Nat.le_refl _) (n + n / 2 + 2) (by simp [maxLen]; omega)
  have hBm : Below w.heap.size w (w.alloc (.cells (madeCells #[.int .u8 0] (n + n / 2 + 2)) 5)) := below_alloc (Below.refl _ _) _
  have HOm := Lib.hid hOm
  have HBm := Lib.hid hBm
  clear hi hz0 hz1 hz2 hOm hBm
  go_enter Tryd.func46, Tryd.ntmps46
  go_wp2
  go_loopw [3, 4, 5, 18] (fun v hd mn i wr => ∃ (k : Nat) (h : Int) (m : Nat) (O : List Int), k ≤ n ∧ i = .int .i64 k ∧ hd = .int .i64 h ∧ mn = .int .i64 m ∧ (m = 0 ∨ m = 2 ∨ m = 4) ∧ 0 ≤ h ∧ h < 64 ∧ Hid (spRun (l0.drop k) h m O = sp3 l0) ∧ Hid (Own w wr v O) ∧ Hid (Below w.heap.size w wr) ∧ O.length ≤ 2 * k) (fun _ _ _ i _ => n - (intOf i).toNat)
  case atStart => exact ⟨0, 0, 0, [], by omega, rfl, rfl, rfl, by omega, by omega, by omega, Lib.hid (by rw [List.drop_zero, spRun_sp3 _ _ _ HY.out]; rfl), HOm, HBm, by simp⟩
  case round =>
    obtain ⟨k, h, m, O, hk, rfl, rfl, rfl, hm, h0, h1, HS, HO, HB, hOl⟩ := hrel
    by_cases hkn : k < n
    · have dkn : decide ((k : Int) < n) = true := decide_eq_true (by omega)
      obtain ⟨x, hx⟩ : ∃ x, x = rd l0 k := ⟨_, rfl⟩
      obtain ⟨x0, x1⟩ := bytes_rd HY.out k (by rw [HL.out]; exact hkn)
      rw [← hx] at x0 x1
      have HDR := Lib.hid (show l0.drop k = x :: l0.drop (k + 1) by rw [hx]; exact drop_cons l0 k (by rw [HL.out]; exact hkn))
      obtain ⟨ad, rfl, hcell⟩ := Rd.cells (Kd.C_below HR.out HB.out) (by omega)
      have hxc := hcell k hkn
      rw [← hx] at hxc
      clear hcell
      obtain ⟨Hh, hH⟩ : ∃ Hh, Hh = h * 256 + x := ⟨_, rfl⟩
      have hH0 : 0 ≤ Hh ∧ Hh < 16384 := by omega
      have hor : bits .or .i64 (h * 256) x = Hh := by rw [or_shl8 h x h0 (by omega) x0 x1, hH]
      have hwh : IntKind.i64.wrap (h * 256) = h * 256 := wrap_id (by omega) (by omega)
      have hwx : IntKind.i64.wrap x = x := wrap_id (by omega) (by omega)
      have hwm : IntKind.i64.wrap ((m : Int) + 8) = ((m + 8 : Nat) : Int) := by rw [wrap_id (by omega) (by omega)]; omega
      have HHH := Lib.hid hH
      obtain ⟨D, hD⟩ : ∃ D, D = drain Hh (m + 8) O := ⟨_, rfl⟩
      have HDD := Lib.hid hD
      clear hx hH hD
      go_wp2
      go_loopw [3, 5] (fun v mn wr => ∃ (M : Nat) (Oi : List Int), mn = .int .i64 M ∧ Hid (Own w wr v Oi) ∧ Hid (Below w.heap.size w wr) ∧ Hid (drain Hh M Oi = D) ∧ (M = 0 ∨ M = 2 ∨ M = 4 ∨ M = 6 ∨ M = 8 ∨ M = 10 ∨ M = 12) ∧ Oi.length * 6 + M ≤ O.length * 6 + 12) (fun _ mn _ => (intOf mn).toNat)
      case atStart => exact ⟨m + 8, O, rfl, HO, HB, Lib.hid HDD.out.symm, by omega, by omega⟩
      case round =>
        obtain ⟨M, Oi, rfl, HOi, HBi, HDi, hM, hOl2⟩ := hrel
        rcases hM with rfl | rfl | rfl | rfl | rfl | rfl | rfl
        · have HD2 := Lib.hid (show D = (0, Oi) from HDi.out.symm)
          have hA : bits .and .i64 Hh 63 = Hh % 64 := and_63 _ (by omega) (by omega)
          have HS2 := Lib.hid (show spRun (l0.drop (k + 1)) (Hh % 64) 0 Oi = sp3 l0 by rw [← HS.out, HDR.out, spRun, ← HHH.out, ← HDD.out, HD2.out])
          go_wp2
          go_roundw
          case rel => exact ⟨k + 1, Hh % 64, 0, Oi, by omega, by go_num, by go_num, by go_num, by omega, by omega, by omega, HS2, HOi, HBi, by omega⟩
          case measure => simp [intOf]; omega
        · have HD2 := Lib.hid (show D = (2, Oi) from HDi.out.symm)
          have hA : bits .and .i64 Hh 63 = Hh % 64 := and_63 _ (by omega) (by omega)
          have HS2 := Lib.hid (show spRun (l0.drop (k + 1)) (Hh % 64) 2 Oi = sp3 l0 by rw [← HS.out, HDR.out, spRun, ← HHH.out, ← HDD.out, HD2.out])
          go_wp2
          go_roundw
          case rel => exact ⟨k + 1, Hh % 64, 2, Oi, by omega, by go_num, by go_num, by go_num, by omega, by omega, by omega, HS2, HOi, HBi, by omega⟩
          case measure => simp [intOf]; omega
        · have HD2 := Lib.hid (show D = (4, Oi) from HDi.out.symm)
          have hA : bits .and .i64 Hh 63 = Hh % 64 := and_63 _ (by omega) (by omega)
          have HS2 := Lib.hid (show spRun (l0.drop (k + 1)) (Hh % 64) 4 Oi = sp3 l0 by rw [← HS.out, HDR.out, spRun, ← HHH.out, ← HDD.out, HD2.out])
          go_wp2
          go_roundw
          case rel => exact ⟨k + 1, Hh % 64, 4, Oi, by omega, by go_num, by go_num, by go_num, by omega, by omega, by omega, HS2, HOi, HBi, by omega⟩
          case measure => simp [intOf]; omega
        · obtain ⟨N, hN⟩ : ∃ N, N = Hh % 64 := ⟨_, rfl⟩
          have hA : bits .and .i64 (Hh) 63 = N := by rw [and_63 _ (by omega) (by omega), hN]
          have N0 : 0 ≤ N := by omega
          have N1 : N < 64 := by omega
          have hbn : N.toNat < alphaS.size := by show N.toNat < 64; omega
          have HA := Lib.hid (bt_at alphaS N hbn)
          have HD2 := Lib.hid (show drain Hh 0 (Oi ++ [alpha N]) = D by rw [← HDi.out, hN]; simp [drain])
          clear hN
          go_wp2_with (at_builtin; refine app_one HOi.out HBi.out (by omega) rfl rfl rfl rfl ?_)
          intro v3 w3 ho3 hb3 _ _
          have HO3 := Lib.hid (ho3.cast (show _ = Oi ++ [alpha N] from congrArg (fun x => Oi ++ [x]) HA.out))
          have HB3 := Lib.hid hb3
          clear ho3 hb3
          go_wp2
          go_roundw
          case rel => exact ⟨0, _, by go_num, HO3, HB3, HD2, by omega, by simp; omega⟩
          case measure => simp [intOf]
        · obtain ⟨N, hN⟩ : ∃ N, N = Hh / 4 % 64 := ⟨_, rfl⟩
          have hA : bits .and .i64 (Hh / 4) 63 = N := by rw [and_63 _ (by omega) (by omega), hN]
          have N0 : 0 ≤ N := by omega
          have N1 : N < 64 := by omega
          have hbn : N.toNat < alphaS.size := by show N.toNat < 64; omega
          have HA := Lib.hid (bt_at alphaS N hbn)
          have HD2 := Lib.hid (show drain Hh 2 (Oi ++ [alpha N]) = D by rw [← HDi.out, hN]; simp [drain])
          clear hN
          go_wp2_with (at_builtin; refine app_one HOi.out HBi.out (by omega) rfl rfl rfl rfl ?_)
          intro v3 w3 ho3 hb3 _ _
          have HO3 := Lib.hid (ho3.cast (show _ = Oi ++ [alpha N] from congrArg (fun x => Oi ++ [x]) HA.out))
          have HB3 := Lib.hid hb3
          clear ho3 hb3
          go_wp2
          go_roundw
          case rel => exact ⟨2, _, by go_num, HO3, HB3, HD2, by omega, by simp; omega⟩
          case measure => simp [intOf]
        · obtain ⟨N, hN⟩ : ∃ N, N = Hh / 16 % 64 := ⟨_, rfl⟩
          have hA : bits .and .i64 (Hh / 16) 63 = N := by rw [and_63 _ (by omega) (by omega), hN]
          have N0 : 0 ≤ N := by omega
          have N1 : N < 64 := by omega
          have hbn : N.toNat < alphaS.size := by show N.toNat < 64; omega
          have HA := Lib.hid (bt_at alphaS N hbn)
          have HD2 := Lib.hid (show drain Hh 4 (Oi ++ [alpha N]) = D by rw [← HDi.out, hN]; simp [drain])
          clear hN
          go_wp2_with (at_builtin; refine app_one HOi.out HBi.out (by omega) rfl rfl rfl rfl ?_)
          intro v3 w3 ho3 hb3 _ _
          have HO3 := Lib.hid (ho3.cast (show _ = Oi ++ [alpha N] from congrArg (fun x => Oi ++ [x]) HA.out))
          have HB3 := Lib.hid hb3
          clear ho3 hb3
          go_wp2
          go_roundw
          case rel => exact ⟨4, _, by go_num, HO3, HB3, HD2, by omega, by simp; omega⟩
          case measure => simp [intOf]
        · obtain ⟨N, hN⟩ : ∃ N, N = Hh / 64 % 64 := ⟨_, rfl⟩
          have hA : bits .and .i64 (Hh / 64) 63 = N := by rw [and_63 _ (by omega) (by omega), hN]
          have N0 : 0 ≤ N := by omega
          have N1 : N < 64 := by omega
          have hbn : N.toNat < alphaS.size := by show N.toNat < 64; omega
          have HA := Lib.hid (bt_at alphaS N hbn)
          have HD2 := Lib.hid (show drain Hh 6 (Oi ++ [alpha N]) = D by rw [← HDi.out, hN]; simp [drain])
          clear hN
          go_wp2_with (at_builtin; refine app_one HOi.out HBi.out (by omega) rfl rfl rfl rfl ?_)
          intro v3 w3 ho3 hb3 _ _
          have HO3 := Lib.hid (ho3.cast (show _ = Oi ++ [alpha N] from congrArg (fun x => Oi ++ [x]) HA.out))
          have HB3 := Lib.hid hb3
          clear ho3 hb3
          go_wp2
          go_roundw
          case rel => exact ⟨6, _, by go_num, HO3, HB3, HD2, by omega, by simp; omega⟩
          case measure => simp [intOf]
    · obtain rfl : k = n := by omega
      have dkn : decide ((k : Int) < k) = false := decide_eq_false (by omega)
      have HD := Lib.hid (show l0.drop k = [] from List.drop_of_length_le (by rw [HL.out]; exact Nat.le_refl _))
      rcases hm with rfl | rfl | rfl
      · have HE := Lib.hid (show O = sp3 l0 by rw [← HS.out, HD.out]; rfl)
        obtain ⟨A4, c4, rfl, hc4, hrd4⟩ := HO.out.reads
        have ks := fun a => Kd.C_string (P := Tryd.prog) (src := 34) (dst := 9) (e := 5) Tryd.underlying34 Tryd.underlying5 Tryd.underlying9 (c := c4) (Kd.C_drewN hrd4 a)
        have ks0 := Kd.C_string (P := Tryd.prog) (src := 34) (dst := 9) (e := 5) Tryd.underlying34 Tryd.underlying5 Tryd.underlying9 (c := c4) hrd4
        clear hrd4
        go_wp2
        go_ret
        exact ⟨congrArg (fun x => Ending.returned (Value.string (strOfNums x))) HE.out, HB.out⟩
      · obtain ⟨N, hN⟩ : ∃ N, N = h * 16 % 64 := ⟨_, rfl⟩
        have hA : bits .and .i64 (h * 16) 63 = N := by rw [and_63 _ (by omega) (by omega), hN]
        have hwq : IntKind.i64.wrap (h * 16) = h * 16 := wrap_id (by omega) (by omega)
        have N0 : 0 ≤ N := by omega
        have N1 : N < 64 := by omega
        have hbn : N.toNat < alphaS.size := by show N.toNat < 64; omega
        have HA := Lib.hid (bt_at alphaS N hbn)
        have HE := Lib.hid (show O ++ [alpha N] = sp3 l0 by rw [← HS.out, HD.out, hN]; rfl)
        clear hN
        go_wp2_with (at_builtin; refine app_one HO.out HB.out (by omega) rfl rfl rfl rfl ?_)
        intro v3 w3 ho3 hb3 _ _
        replace ho3 := ho3.cast (show _ = sp3 l0 from (congrArg (fun x => O ++ [x]) HA.out).trans HE.out)
        obtain ⟨A4, c4, rfl, hc4, hrd4⟩ := ho3.reads
        have HB3 := Lib.hid hb3
        have ks := fun a => Kd.C_string (P := Tryd.prog) (src := 34) (dst := 9) (e := 5) Tryd.underlying34 Tryd.underlying5 Tryd.underlying9 (c := c4) (Kd.C_drewN hrd4 a)
        have ks0 := Kd.C_string (P := Tryd.prog) (src := 34) (dst := 9) (e := 5) Tryd.underlying34 Tryd.underlying5 Tryd.underlying9 (c := c4) hrd4
        clear hrd4 ho3 hb3
        go_wp2
        go_ret
        exact ⟨rfl, HB3.out⟩
      · obtain ⟨N, hN⟩ : ∃ N, N = h * 4 % 64 := ⟨_, rfl⟩
        have hA : bits .and .i64 (h * 4) 63 = N := by rw [and_63 _ (by omega) (by omega), hN]
        have hwq : IntKind.i64.wrap (h * 4) = h * 4 := wrap_id (by omega) (by omega)
        have N0 : 0 ≤ N := by omega
        have N1 : N < 64 := by omega
        have hbn : N.toNat < alphaS.size := by show N.toNat < 64; omega
        have HA := Lib.hid (bt_at alphaS N hbn)
        have HE := Lib.hid (show O ++ [alpha N] = sp3 l0 by rw [← HS.out, HD.out, hN]; rfl)
        clear hN
        go_wp2_with (at_builtin; refine app_one HO.out HB.out (by omega) rfl rfl rfl rfl ?_)
        intro v3 w3 ho3 hb3 _ _
        replace ho3 := ho3.cast (show _ = sp3 l0 from (congrArg (fun x => O ++ [x]) HA.out).trans HE.out)
        obtain ⟨A4, c4, rfl, hc4, hrd4⟩ := ho3.reads
        have HB3 := Lib.hid hb3
        have ks := fun a => Kd.C_string (P := Tryd.prog) (src := 34) (dst := 9) (e := 5) Tryd.underlying34 Tryd.underlying5 Tryd.underlying9 (c := c4) (Kd.C_drewN hrd4 a)
        have ks0 := Kd.C_string (P := Tryd.prog) (src := 34) (dst := 9) (e := 5) Tryd.underlying34 Tryd.underlying5 Tryd.underlying9 (c := c4) hrd4
        clear hrd4 ho3 hb3
        go_wp2
        go_ret
        exact ⟨rfl, HB3.out⟩
end Go.Proofs.YtcgenmogedndjaaDoor
namespace Go.Proofs.YtcgenmogedndjaaDoor
open Go.RowKit Go.Proofs.YtcgenmogedndjaaDoorW.PrintWords
theorem or_shl6 (x d : Int) (x0 : 0 ≤ x) (x1 : x < 36028797018963968) (d0 : 0 ≤ d) (d1 : d < 64) : bits .or .i64 (x * 64) d = x * 64 + d :=
  bits_join .i64 63 (by decide) wraps_i64 6 (x * 64) d (by omega) (by omega) (by omega) (by omega) (by omega) (by omega)
theorem and_mask (j : Nat) (hj : j ≤ 32) (x : Int) (h0 : 0 ≤ x) (h1 : x < 9223372036854775808) (m : Int) (hm : m = 2 ^ j - 1) : bits .and .i64 x m = x % 2 ^ j := by
  obtain ⟨k, rfl⟩ := Int.eq_ofNat_of_zero_le h0
  have h2 : (2 : Nat) ^ j ≤ 2 ^ 32 := Nat.pow_le_pow_right (by decide) hj
  have h3 : 1 ≤ (2 : Nat) ^ j := Nat.one_le_two_pow
  have h := and_i64 k (2 ^ j - 1) (by omega) (by omega)
  rw [Nat.and_two_pow_sub_one_eq_mod] at h
  have e : m = ((2 ^ j - 1 : Nat) : Int) := by rw [hm, Int.ofNat_sub h3]; simp
  rw [e, h]
  simp
theorem str_reads (W : World) (s : ByteArray) (hs : s.size ≤ 9223372036854775807) : Rd (Lib.bytesWorld W 5 s) (some ⟨W.heap.size, 0, none⟩) s.size (bytesOf s) :=
  Kd.C_of_reads (d := (0 : Int)) (h1 := fun _ => rfl) (bytes_reads W 5 s hs)
set_option maxHeartbeats 1600000 in
theorem Unspell_calls (s : ByteArray) (w : World) (hs : s.size ≤ 35184372088832) :
    Calls Tryd.prog 30 #[.string s] w fun e w' => ∃ v0_ : Value, e = .returned (.tuple #[v0_, .bool (unRun (bytesOf s) 0 0 []).isSome]) ∧ Own w w' v0_ ((unRun (bytesOf s) 0 0 []).getD []) ∧ Below w.heap.size w w' := by
  obtain ⟨R, hR⟩ : ∃ R, R = unRun (bytesOf s) 0 0 [] := ⟨_, rfl⟩
  rw [← hR]
  have HRR := Lib.hid hR
  have HY := Lib.hid (Bytes_bytesOf s)
  have HL := Lib.hid (bytesOf_length s)
  clear hR
  have kb := fun W => print_bytes (P := Tryd.prog) 9 34 5 Tryd.underlying9 Tryd.underlying34 Tryd.underlying5 s W
  go_enter Tryd.func30, Tryd.ntmps30
  go_wp2
  have hr0 := str_reads w s (by omega)
  have hb0 : Below w.heap.size w (Lib.bytesWorld w 5 s) := bytes_below (Below.refl _ _) (Nat.le_refl _) _ _
  obtain ⟨c0, hc0⟩ : ∃ c0, c0 = grownCap w s.size 0 5 := ⟨_, rfl⟩
  rw [← hc0]
  obtain ⟨w0, hw0⟩ : ∃ w0, w0 = Lib.bytesWorld w 5 s := ⟨_, rfl⟩
  rw [← hw0] at hr0 hb0 ⊢
  have HR := Lib.hid hr0
  have HB0 := Lib.hid hb0
  obtain ⟨ad, had⟩ : ∃ ad : Addr, ad = ⟨w.heap.size, 0, none⟩ := ⟨_, rfl⟩
  rw [← had] at HR ⊢
  clear hc0 hr0 hb0 kb had hw0
  go_loopw [4, 5, 6, 13] (fun v hd mn i wr => ∃ (k : Nat) (h : Int) (m : Nat) (O : List Int), k ≤ s.size ∧ i = .int .i64 k ∧ hd = .int .i64 h ∧ mn = .int .i64 m ∧ (m = 0 ∨ m = 2 ∨ m = 4 ∨ m = 6) ∧ ((m = 0 → h = 0) ∧ (m = 2 → h < 4) ∧ (m = 4 → h < 16) ∧ 0 ≤ h ∧ h < 64) ∧ Hid (unRun ((bytesOf s).drop k) h m O = R) ∧ Hid (Own w0 wr v O) ∧ Hid (Below w0.heap.size w0 wr) ∧ O.length ≤ k) (fun _ _ _ i _ => s.size - (intOf i).toNat)
  case atStart => exact ⟨0, 0, 0, [], by omega, rfl, rfl, rfl, by omega, by omega, Lib.hid (by rw [List.drop_zero, HRR.out]), Lib.hid (Own.nil w0 w0), Lib.hid (Below.refl _ _), by simp⟩
  case round =>
    obtain ⟨k, h, m, O, hk, rfl, rfl, rfl, hm, hh, HS, HO, HB, hOl⟩ := hrel
    by_cases hkn : k < s.size
    · have dkn : decide ((k : Int) < s.size) = true := decide_eq_true (by omega)
      obtain ⟨x, hx⟩ : ∃ x, x = rd (bytesOf s) k := ⟨_, rfl⟩
      obtain ⟨x0, x1⟩ := bytes_rd HY.out k (by rw [HL.out]; exact hkn)
      rw [← hx] at x0 x1
      have HDR := Lib.hid (show (bytesOf s).drop k = x :: (bytesOf s).drop (k + 1) by rw [hx]; exact drop_cons _ k (by rw [HL.out]; exact hkn))
      obtain ⟨ad', e, hcell⟩ := Rd.cells (Kd.C_below HR.out HB.out) (by omega)
      cases e
      have hxc := hcell k hkn
      rw [← hx] at hxc
      clear hcell hx
      have hx6 : sixOf x < 64 := by
        by_cases h6 : 0 ≤ sixOf x
        · exact (alpha_sixOf x x0 x1 h6).2
        · omega
      obtain ⟨y, hy⟩ : ∃ y, y = sixOf x := ⟨_, rfl⟩
      rw [← hy] at hx6
      have HYE := Lib.hid hy
      clear hy
      by_cases hy0 : y < 0
      · have dy : decide (y < 0) = true := decide_eq_true hy0
        have HE := Lib.hid (show R = none by rw [← HS.out, HDR.out, unRun, if_pos (by rw [← HYE.out]; exact hy0)])
        go_wp2_with fail
        refine (six_calls x _ x0 x1).mono ?_
        rintro e w1 ⟨rfl, hd1⟩
        have HB1 := Lib.hid (below_step HB.out hd1.below)
        rw [← HYE.out]
        clear hd1
        go_wp2
        go_ret2
        exact ⟨_, by rw [HE.out]; rfl, by rw [HE.out]; exact Own.nil _ _, below_step HB0.out HB1.out⟩
      · have dy : decide (y < 0) = false := decide_eq_false hy0
        have y0 : 0 ≤ y := by omega
        have y1 := hx6
        rcases hm with rfl | rfl | rfl | rfl
        · obtain rfl : h = 0 := hh.1 rfl
          have hor : bits .or .i64 0 y = y := by have := or_shl6 0 y (by omega) (by omega) y0 y1; rwa [Int.zero_mul, Int.zero_add] at this
          have HS2 := Lib.hid (show unRun ((bytesOf s).drop (k + 1)) y 6 O = R by rw [← HS.out, HDR.out, unRun, if_neg (by rw [← HYE.out]; omega), if_neg (by omega), ← HYE.out]; simp)
          go_wp2_with fail
          refine (six_calls x _ x0 x1).mono ?_
          rintro e w1 ⟨rfl, hd1⟩
          have HB1 := Lib.hid (below_step HB.out hd1.below)
          have HO1 := Lib.hid (HO.out.below hd1.below)
          rw [← HYE.out]
          clear hd1
          go_wp2
          go_roundw
          case rel => exact ⟨k + 1, y, 6, O, by omega, by go_num, by go_num, rfl, by omega, by omega, HS2, HO1, HB1, by omega⟩
          case measure => simp [intOf]; omega
        · have hor : bits .or .i64 (h * 64) y = h * 64 + y := or_shl6 h y (by omega) (by omega) y0 y1
          have hwh : IntKind.i64.wrap (h * 64) = h * 64 := wrap_id (by omega) (by omega)
          obtain ⟨Hh, hH⟩ : ∃ Hh, Hh = h * 64 + y := ⟨_, rfl⟩
          rw [← hH] at hor
          have hH0 : 0 ≤ Hh ∧ Hh < 4096 := by omega
          have hand : bits .and .i64 Hh 0 = Hh % 1 := and_mask 0 (by omega) Hh (by omega) (by omega) 0 (by decide)
          have hu8 : IntKind.u8.wrap (Hh) = Hh % 256 := by rw [IntKind.wrap_u8]
          have HS2 := Lib.hid (show unRun ((bytesOf s).drop (k + 1)) (Hh % 1) 0 (O ++ [Hh % 256]) = R by rw [← HS.out, HDR.out, unRun, if_neg (by rw [← HYE.out]; omega), if_pos (by omega), ← HYE.out, ← hH]; simp)
          clear hH
          go_wp2_with fail
          refine (six_calls x _ x0 x1).mono ?_
          rintro e w1 ⟨rfl, hd1⟩
          have HB1 := Lib.hid (below_step HB.out hd1.below)
          have HO1 := Lib.hid (HO.out.below hd1.below)
          rw [← HYE.out]
          clear hd1
          go_wp2_with (at_builtin; refine app_one HO1.out HB1.out (by omega) rfl rfl rfl rfl ?_)
          intro v3 w3 ho3 hb3 _ _
          have HO3 := Lib.hid (ho3.cast (show _ = O ++ [Hh % 256] from by first | rfl | rw [hu8]))
          have HB3 := Lib.hid hb3
          clear ho3 hb3
          go_wp2
          go_roundw
          case rel => exact ⟨k + 1, Hh % 1, 0, O ++ [Hh % 256], by omega, by go_num, by first | rfl | go_num, rfl, by omega, by omega, HS2, HO3, HB3, by simp; omega⟩
          case measure => simp [intOf]; omega
        · have hor : bits .or .i64 (h * 64) y = h * 64 + y := or_shl6 h y (by omega) (by omega) y0 y1
          have hwh : IntKind.i64.wrap (h * 64) = h * 64 := wrap_id (by omega) (by omega)
          obtain ⟨Hh, hH⟩ : ∃ Hh, Hh = h * 64 + y := ⟨_, rfl⟩
          rw [← hH] at hor
          have hH0 : 0 ≤ Hh ∧ Hh < 4096 := by omega
          have hand : bits .and .i64 Hh 3 = Hh % 4 := and_mask 2 (by omega) Hh (by omega) (by omega) 3 (by decide)
          have hu8 : IntKind.u8.wrap (Hh / 4) = Hh / 4 % 256 := by rw [IntKind.wrap_u8]
          have HS2 := Lib.hid (show unRun ((bytesOf s).drop (k + 1)) (Hh % 4) 2 (O ++ [Hh / 4 % 256]) = R by rw [← HS.out, HDR.out, unRun, if_neg (by rw [← HYE.out]; omega), if_pos (by omega), ← HYE.out, ← hH]; simp)
          clear hH
          go_wp2_with fail
          refine (six_calls x _ x0 x1).mono ?_
          rintro e w1 ⟨rfl, hd1⟩
          have HB1 := Lib.hid (below_step HB.out hd1.below)
          have HO1 := Lib.hid (HO.out.below hd1.below)
          rw [← HYE.out]
          clear hd1
          go_wp2_with (at_builtin; refine app_one HO1.out HB1.out (by omega) rfl rfl rfl rfl ?_)
          intro v3 w3 ho3 hb3 _ _
          have HO3 := Lib.hid (ho3.cast (show _ = O ++ [Hh / 4 % 256] from by first | rfl | rw [hu8]))
          have HB3 := Lib.hid hb3
          clear ho3 hb3
          go_wp2
          go_roundw
          case rel => exact ⟨k + 1, Hh % 4, 2, O ++ [Hh / 4 % 256], by omega, by go_num, by first | rfl | go_num, rfl, by omega, by omega, HS2, HO3, HB3, by simp; omega⟩
          case measure => simp [intOf]; omega
        · have hor : bits .or .i64 (h * 64) y = h * 64 + y := or_shl6 h y (by omega) (by omega) y0 y1
          have hwh : IntKind.i64.wrap (h * 64) = h * 64 := wrap_id (by omega) (by omega)
          obtain ⟨Hh, hH⟩ : ∃ Hh, Hh = h * 64 + y := ⟨_, rfl⟩
          rw [← hH] at hor
          have hH0 : 0 ≤ Hh ∧ Hh < 4096 := by omega
          have hand : bits .and .i64 Hh 15 = Hh % 16 := and_mask 4 (by omega) Hh (by omega) (by omega) 15 (by decide)
          have hu8 : IntKind.u8.wrap (Hh / 16) = Hh / 16 % 256 := by rw [IntKind.wrap_u8]
          have HS2 := Lib.hid (show unRun ((bytesOf s).drop (k + 1)) (Hh % 16) 4 (O ++ [Hh / 16 % 256]) = R by rw [← HS.out, HDR.out, unRun, if_neg (by rw [← HYE.out]; omega), if_pos (by omega), ← HYE.out, ← hH]; simp)
          clear hH
          go_wp2_with fail
          refine (six_calls x _ x0 x1).mono ?_
          rintro e w1 ⟨rfl, hd1⟩
          have HB1 := Lib.hid (below_step HB.out hd1.below)
          have HO1 := Lib.hid (HO.out.below hd1.below)
          rw [← HYE.out]
          clear hd1
          go_wp2_with (at_builtin; refine app_one HO1.out HB1.out (by omega) rfl rfl rfl rfl ?_)
          intro v3 w3 ho3 hb3 _ _
          have HO3 := Lib.hid (ho3.cast (show _ = O ++ [Hh / 16 % 256] from by first | rfl | rw [hu8]))
          have HB3 := Lib.hid hb3
          clear ho3 hb3
          go_wp2
          go_roundw
          case rel => exact ⟨k + 1, Hh % 16, 4, O ++ [Hh / 16 % 256], by omega, by go_num, by first | rfl | go_num, rfl, by omega, by omega, HS2, HO3, HB3, by simp; omega⟩
          case measure => simp [intOf]; omega
    · obtain rfl : k = s.size := by omega
      have dkn : decide ((s.size : Int) < s.size) = false := decide_eq_false (by omega)
      have HD := Lib.hid (show (bytesOf s).drop s.size = [] from List.drop_of_length_le (by rw [HL.out]; exact Nat.le_refl _))
      by_cases hne : m = 6 ∨ h ≠ 0
      · have HE := Lib.hid (show R = none by rw [← HS.out, HD.out, unRun, if_pos hne])
        by_cases h6 : m = 6
        case' pos =>
          have d6 : ((m : Int) == 6) = true := beq_iff_eq.2 (by omega)
        case' neg =>
          have d6 : ((m : Int) == 6) = false := beq_eq_false_iff_ne.2 (by omega)
          have d7 : (h == 0) = false := beq_eq_false_iff_ne.2 (by omega)
          have d8 : (h != 0) = true := by rw [bne, d7]; rfl
        all_goals
          clear hm hh hne h6
          go_wp2
          go_ret2
          exact ⟨_, by rw [HE.out]; rfl, by rw [HE.out]; exact Own.nil _ _, below_step HB0.out HB.out⟩
      · have HE := Lib.hid (show R = some O by rw [← HS.out, HD.out, unRun, if_neg hne])
        have d6 : ((m : Int) == 6) = false := beq_eq_false_iff_ne.2 (by omega)
        obtain rfl : h = 0 := by omega
        clear hm hh hne
        go_wp2
        go_ret2
        exact ⟨_, by rw [HE.out]; rfl, by rw [HE.out]; exact HO.out.lower HB0.out.size, below_step HB0.out HB.out⟩
end Go.Proofs.YtcgenmogedndjaaDoor
