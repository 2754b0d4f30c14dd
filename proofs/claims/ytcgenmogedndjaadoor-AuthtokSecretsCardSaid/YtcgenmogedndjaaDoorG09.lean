/- The texts Base64, QuietTail2, MacLaw, Awake in one. -/
import Derived.Test.YtcgenmogedndjaaDoorG01
import Derived.Test.YtcgenmogedndjaaDoorG02
import Derived.Test.YtcgenmogedndjaaDoorG08
import Derived.ArgAppend
import Derived.Lib.SmallJoins
namespace Go.Proofs.YtcgenmogedndjaaDoor
open Go.RowKit Go.Proofs.YtcgenmogedndjaaDoorW.PrintWords
def x3 (l : List Int) : Int := rd l 0 * 65536 + rd l 1 * 256 + rd l 2
end Go.Proofs.YtcgenmogedndjaaDoor
namespace Go.Proofs.YtcgenmogedndjaaDoor
open Go
section
variable {P : Program} {hd tl : List Oper} {C : World → Prop}
/-- The operations ahead ask for what stands ahead of them alone, and have no guard; those behind wait for each of them. -/
def headC (hd tl : List Oper) : Bool :=
  ((List.range hd.length).all fun i => match hd[i]? with
    | some o => o.guard.isNone && o.after.all fun e => decide (e.on < i)
    | none => false) &&
  tl.all fun o => ((List.range hd.length).all fun i => o.after.any fun e => Region.binds .any e && e.on == i) || o.after.any fun e => Region.binds .any e && decide (hd.length ≤ e.on)
theorem headC_tail (h : headC hd tl = true) (o : Oper) (ho : o ∈ tl) : (∀ i, i < hd.length → ∃ e ∈ o.after, Region.binds .any e = true ∧ e.on = i) ∨ ∃ e ∈ o.after, Region.binds .any e = true ∧ hd.length ≤ e.on := by
  unfold headC at h
  rw [Bool.and_eq_true] at h
  have h1 := List.all_eq_true.1 h.2 o ho
  rw [Bool.or_eq_true] at h1
  rcases h1 with h1 | h1
  · refine .inl fun i hi => ?_
    obtain ⟨e, he, hb⟩ := Array.any_eq_true'.1 (List.all_eq_true.1 h1 i (List.mem_range.2 hi))
    rw [Bool.and_eq_true, beq_iff_eq] at hb
    exact ⟨e, he, hb.1, hb.2⟩
  · obtain ⟨e, he, hb⟩ := Array.any_eq_true'.1 h1
    rw [Bool.and_eq_true, decide_eq_true_eq] at hb
    exact .inr ⟨e, he, hb.1, hb.2⟩
theorem headC_head (h : headC hd tl = true) (i : Nat) (o : Oper) (hi : hd[i]? = some o) : o.guard = none ∧ ∀ e ∈ o.after, e.on < i := by
  unfold headC at h
  rw [Bool.and_eq_true] at h
  have h1 := List.all_eq_true.1 h.1 i (List.mem_range.2 (List.getElem?_eq_some_iff.1 hi).1)
  rw [hi] at h1
  simp only [Bool.and_eq_true, Option.isNone_iff_eq_none] at h1
  exact ⟨h1.1, fun e he => by simpa using Array.all_eq_true_iff_forall_mem.1 h1.2 e he⟩
theorem getD_over (L : Array Bool) (g j : Nat) (hj : L.size ≤ j) : (L ++ falses g).getD j false = false := by
  have : ¬ j < L.size := by omega
  simp only [falses, Array.getD_eq_getD_getElem?, Array.getElem?_append, this, if_false, Array.getElem?_replicate]
  split <;> rfl
theorem ready_oneC (hB : headC hd tl = true) (L : Array Bool) (hL : L.size = hd.length) : ∀ (i0 : Nat), i0 < L.size → L.getD i0 false = false → Region.ready .any hd.toArray L ≠ [] := by
  intro i0
  induction i0 using Nat.strongRecOn with
  | _ i0 ih =>
    intro hi0 h0 he
    have hlt : i0 < hd.length := by omega
    by_cases hr : i0 ∈ Region.ready .any hd.toArray L
    · rw [he] at hr; cases hr
    · refine hr (mem_ready.2 ⟨getD_in hi0 h0, hd[i0], by simp [hlt], fun e hem _ => ?_⟩)
      have hon := (headC_head hB i0 _ (by simp [hlt])).2 e hem
      cases hv : L.getD e.on false with
      | true => rfl
      | false => exact absurd he (ih e.on hon (by omega) hv)
/-- While one of the head is open, what is ready is of the head. -/
theorem ready_headC (hB : headC hd tl = true) (L : Array Bool) (hL : L.size = hd.length) (i0 : Nat) (hi0 : i0 < L.size) (h0 : L.getD i0 false = false) (j : Nat) :
    j ∈ Region.ready .any (hd ++ tl).toArray (L ++ falses tl.length) ↔ j ∈ Region.ready .any hd.toArray L := by
  rw [mem_ready, mem_ready]
  by_cases hj : j < hd.length
  · have e1 : (hd ++ tl).toArray[j]? = hd.toArray[j]? := by simp [List.getElem?_append_left hj]
    rw [getD_head _ _ _ _ (by omega), e1]
    refine and_congr_right fun _ => exists_congr fun o => and_congr_right fun ho => ?_
    have := (headC_head hB j o (by simpa using ho)).2
    refine forall_congr' fun e => forall_congr' fun he => ?_
    rw [getD_head _ _ _ _ (by have := this e he; omega)]
  · constructor
    · rintro ⟨h1, o, ho, hall⟩
      have hjt : j < hd.length + tl.length := by have := (Array.getElem?_eq_some_iff.1 ho).1; simpa using this
      have hmem : o ∈ tl := by
        have h2 : (hd ++ tl)[j]? = some o := by simpa using ho
        rw [List.getElem?_append_right (by omega)] at h2
        exact List.mem_of_getElem? h2
      rcases headC_tail hB o hmem with hw | ⟨e, he, hb, hon⟩
      · obtain ⟨e, he, hb, hon⟩ := hw i0 (by omega)
        have := hall e he hb
        rw [hon, getD_head _ _ _ _ hi0, h0] at this
        cases this
      · have := hall e he hb
        rw [getD_over _ _ _ (by omega)] at this
        cases this
    · rintro ⟨_, o, ho, _⟩
      have := (Array.getElem?_eq_some_iff.1 ho).1
      exact absurd (by simpa using this) hj
theorem tail_of_headC (hB : headC hd tl = true) {Q1 : Act → Prop} {Q' : Exit → Act → World → Prop}
    (hQ : ∀ a w, C w → Q1 a → wpAny P .any (hd ++ tl).toArray Q' tl.length (Array.replicate hd.length true ++ falses tl.length) a w) :
    ∀ (f : Nat) (L : Array Bool) (a : Act) (w : World), C w → L.size = hd.length → L.toList.count false = f → wpAnyQ P .any hd.toArray C Q1 f L a →
      wpAny P .any (hd ++ tl).toArray Q' (f + tl.length) (L ++ falses tl.length) a w
  | 0, L, a, w, hw, hs, hc, h => by
    have hE : L = Array.replicate hd.length true := by
      have h1 : ∀ b ∈ L.toList, b = true := by
        intro b hb
        cases b with
        | true => rfl
        | false => exact absurd (List.count_pos_iff.2 hb) (by omega)
      apply Array.ext_getElem?
      intro j
      by_cases hj : j < L.size
      · have := h1 L[j] (by simp)
        simp [hj, this, ← hs]
      · simp [Array.getElem?_eq_none (Nat.le_of_not_lt hj)]
        omega
    rw [hE, Nat.zero_add]
    exact hQ a w hw h.2
  | f + 1, L, a, w, hw, hs, hc, h => by
    obtain ⟨i0, hi0, h0⟩ : ∃ i0, i0 < L.size ∧ L.getD i0 false = false := by
      have : false ∈ L.toList := List.count_pos_iff.1 (by omega)
      obtain ⟨i, hi, e⟩ := List.mem_iff_getElem.1 this
      have hi' : i < L.size := by simpa using hi
      exact ⟨i, hi', by simpa [hi'] using e⟩
    have hrd := ready_headC (tl := tl) hB L hs i0 hi0 h0
    have hne := ready_oneC hB L hs i0 hi0 h0
    rw [show f + 1 + tl.length = (f + tl.length) + 1 by omega]
    refine ⟨fun he => ?_, fun i hi => ?_⟩
    · obtain ⟨j, hj⟩ := List.exists_mem_of_ne_nil _ hne
      have := (hrd j).2 hj
      rw [he] at this
      cases this
    · have hi' := (hrd i).1 hi
      obtain ⟨hu, o, ho, _⟩ := mem_ready.1 hi'
      have hin : i < hd.length := by have := (Array.getElem?_eq_some_iff.1 ho).1; simpa using this
      have hg := (headC_head hB i o (by simpa using ho)).1
      have hq := h.2 i hi'
      have ho2 : (hd ++ tl).toArray[i]? = some o := by rw [← ho]; simp [List.getElem?_append_left hin]
      have hq2 : qOp P (hd ++ tl).toArray C i (wpAnyQ P .any hd.toArray C Q1 f (L.setIfInBounds i true)) a := by
        unfold qOp at hq ⊢
        simp only [ho] at hq
        simp only [ho2]
        rw [wanted_none hg] at hq ⊢
        exact hq
      have hc' := count_set L i (by omega) hu
      rw [set_head L _ i (by omega)]
      exact wpOp_of_qOp hw (fun a' w' hw' h' => tail_of_headC hB hQ f _ a' w' hw' (by simpa using hs) (by omega) h') hq2
/-- A region that draws its order: the head by one quiet walk, the tail in its order. -/
theorem wp_region_quiet_tailC {id : Nat} {Q : Exit → Act → World → Prop} {a : Act} {w : World} (hd tl : List Oper) (hm : P.follows .mixedOrders = true) (hB : headC hd tl = true) (hH : Region.lexB .any hd.toArray = true)
    (hT : Region.seqB .any (hd ++ tl).toArray tl.length hd.length (Array.replicate hd.length true ++ falses tl.length) = true)
    (h : wpQuiet P hd.toArray (fun w' => ∃ n, w' = w.drewN n) (fun a' => ∀ w', (∃ n, w' = w.drewN n) → wpList P (hd ++ tl).toArray Q tl a' w') hd a) : (Code.region id (hd ++ tl).toArray true).wp P Q a w := by
  simp only [Region.lexB, Bool.and_eq_true] at hH
  have h1 := wpAnyQ_lex (P := P) (C := fun w' => ∃ n, w' = w.drewN n) (md := .any) hH.1 hd 0 (Array.replicate hd.length false) a (by simp) (by simpa using hH.2) h
  have h2 := tail_of_headC (P := P) (C := fun w' => ∃ n, w' = w.drewN n) (Q' := Q) hB (fun a' w' hw' hq => wpAny_of_seq (md := .any) tl hd.length _ a' w' (fun j => by simp [List.getElem?_append_right]) hT (hq w' hw')) hd.length (Array.replicate hd.length false) a { w with drawn := w.drawn + 1 } ⟨1, rfl⟩ (by simp) (by simp) h1
  refine wp_region_any hm ?_
  have e : Array.replicate (hd ++ tl).toArray.size false = Array.replicate hd.length false ++ falses tl.length := by
    apply Array.ext_getElem?
    intro j
    simp [falses, Array.getElem?_replicate]
  rw [e, show (hd ++ tl).toArray.size = hd.length + tl.length by simp]
  exact h2
/-- The same for a region that is written out. -/
theorem wp_region_quiet_tailC_at {id : Nat} {Q : Exit → Act → World → Prop} {a : Act} {w : World} {l : List Oper} (n : Nat) (hm : P.follows .mixedOrders = true) (hB : headC (l.take n) (l.drop n) = true) (hH : Region.lexB .any (l.take n).toArray = true)
    (hT : Region.seqB .any l.toArray (l.drop n).length (l.take n).length (Array.replicate (l.take n).length true ++ falses (l.drop n).length) = true)
    (h : wpQuiet P (l.take n).toArray (fun w' => ∃ n, w' = w.drewN n) (fun a' => ∀ w', (∃ n, w' = w.drewN n) → wpList P l.toArray Q (l.drop n) a' w') (l.take n) a) : (Code.region id l.toArray true).wp P Q a w := by
  have e := List.take_append_drop n l
  have := wp_region_quiet_tailC (P := P) (id := id) (Q := Q) (a := a) (w := w) (l.take n) (l.drop n) hm hB hH
  rw [e] at this
  exact this hT h
end
end Go.Proofs.YtcgenmogedndjaaDoor
namespace Go.Proofs.YtcgenmogedndjaaDoor
open Go.RowKit Go.Proofs.YtcgenmogedndjaaDoorW.PrintWords
/-- A key of 64 bytes. -/
def pad64 (l : List Int) : List Int := l ++ List.replicate (64 - l.length) 0
def macKey (key : List Int) : List Int := pad64 (if 64 < key.length then sha2 key else key)
def xorB (c : Int) (l : List Int) : List Int := l.map fun x => bits .xor .u8 x c
def mac (key b : List Int) : List Int := sha2 (xorB 92 (macKey key) ++ sha2 (xorB 54 (macKey key) ++ b))
theorem sha2_length (l : List Int) : (sha2 l).length = 32 := rfl
theorem be4_Bytes (x : Int) : Bytes (be4 x) := by
  intro y hy
  unfold be4 at hy
  simp only [List.mem_cons, List.not_mem_nil, or_false] at hy
  rcases hy with rfl | rfl | rfl | rfl <;> omega
theorem app_Bytes {a b : List Int} (h : Bytes a) (k : Bytes b) : Bytes (a ++ b) := by
  intro x hx
  rcases List.mem_append.1 hx with hx | hx
  · exact h x hx
  · exact k x hx
theorem sha2_Bytes (l : List Int) : Bytes (sha2 l) := by
  unfold sha2
  repeat' apply app_Bytes
  all_goals exact be4_Bytes _
theorem pad64_length (l : List Int) (h : l.length ≤ 64) : (pad64 l).length = 64 := by unfold pad64; simp; omega
theorem macKey_length (key : List Int) : (macKey key).length = 64 := by
  unfold macKey
  split
  · exact pad64_length _ (by rw [sha2_length]; decide)
  · exact pad64_length _ (by omega)
theorem xorB_length (c : Int) (l : List Int) : (xorB c l).length = l.length := List.length_map ..
theorem xorB_Bytes (c : Int) (l : List Int) : Bytes (xorB c l) := by
  intro x hx
  unfold xorB at hx
  obtain ⟨y, _, rfl⟩ := List.mem_map.1 hx
  have := bits_within .xor .u8 y c
  have e1 : IntKind.u8.min = 0 := rfl
  have e2 : IntKind.u8.max = 255 := rfl
  omega
/-- The first i bytes turned. -/
def xorUp (c : Int) (l : List Int) (i : Nat) : List Int := xorB c (l.take i) ++ l.drop i
theorem xorUp_zero (c : Int) (l : List Int) : xorUp c l 0 = l := by simp [xorUp, xorB]
theorem xorUp_length (c : Int) (l : List Int) (i : Nat) : (xorUp c l i).length = l.length := by simp [xorUp, xorB]; omega
theorem xorUp_at (c : Int) (l : List Int) (i : Nat) (hi : i < l.length) : rd (xorUp c l i) (i : Int) = rd l i := by
  have h1 : (xorB c (l.take i)).length = i := by simp [xorB]; omega
  unfold rd xorUp
  simp only [Int.toNat_natCast, List.getD_eq_getElem?_getD]
  rw [List.getElem?_append_right (by omega), h1, Nat.sub_self, List.getElem?_drop, Nat.add_zero]
theorem xorUp_set (c : Int) (l : List Int) (i : Nat) (hi : i < l.length) : (xorUp c l i).set i (bits .xor .u8 (rd l i) c) = xorUp c l (i + 1) := by
  have h1 : (xorB c (l.take i)).length = i := by simp [xorB]; omega
  unfold xorUp
  rw [List.set_append_right _ _ (by omega), h1, Nat.sub_self, List.drop_eq_getElem_cons hi, List.set_cons_zero, List.take_succ_eq_append_getElem hi, rd_get l i hi]
  unfold xorB
  rw [List.map_append, List.append_assoc]
  rfl
theorem xorUp_all (c : Int) (l : List Int) : xorUp c l l.length = xorB c l := by simp [xorUp]
section
variable {ops : Array Oper} {rest : List Oper} {o : Oper} {a : Act} {Q : Exit → Act → World → Prop} {w : World}
theorem Blk.row {g t : Nat} {l : List Int} (h : Blk w g t .u8 l) (hm : l.length ≤ 9223372036854775807) : Rd w (some ⟨g, 0, none⟩) l.length l := by
  refine Kd.C_of_reads (d := (0 : Int)) (h1 := fun _ => rfl) ⟨rfl, hm, fun _ => ⟨_, rfl, fun j hj => ?_⟩⟩
  rw [add_plain]
  have := h.cell j hj
  rw [this]
  simp [rd, hj]
theorem app_full {s x : Operand} {g t m c n : Nat} {A : Option Addr} {l ys : List Int} (hgd : o.guard = none) (hop : o.op = .call { callee := .builtin .append, args := #[s, x], argTypes := #[34, 34] }) (hv : a.eval s = .slice (some ⟨g, 0, none⟩) n n) (hx : a.eval x = .slice A m c)
    (hn : l.length = n) (h : Blk w g t .u8 l) (hr : Rd w A m ys) (hl : n + m ≤ 140737488355328)
    (K : ∀ A1 c1 w1, n + m ≤ c1 → Rd w1 A1 (n + m) (l ++ ys) → Below w.heap.size w w1 → wpList Tryd.prog ops Q rest (a.put o.dst (.slice A1 (n + m) c1)) w1) : wpList Tryd.prog ops Q (o :: rest) a w := by
  obtain ⟨i, hi, hzz⟩ := Option.map_eq_some_iff.1 (show (Tryd.prog.info? 5).map (fun i => (i.zero, i.size, i.bytes)) = some (some (.int .u8 0), 1, 1) from info_u8)
  simp only [Prod.mk.injEq] at hzz
  obtain ⟨hz0, hz1, hz2⟩ := hzz
  have hys := Kd.C_len hr
  have hrl := h.row (by omega)
  rw [hn] at hrl
  rcases Nat.eq_zero_or_pos m with hm | hm
  · subst hm
    obtain rfl : ys = [] := List.eq_nil_of_length_eq_zero hys
    have hrun : (Builtin.append_ #[34, 34] o.type #[.slice (some ⟨g, 0, none⟩) n n, .slice A 0 c]).run Tryd.prog w = .ok (.slice (some ⟨g, 0, none⟩) (n + 0) n) w := by
      cases A with
      | none => simp [Builtin.append_, run_underlying Tryd.underlying34, Go.sizeOf, typeInfo, hi, Builtin.lenOf, run_firstCells_none, storeCells]
      | some ad =>
        have := run_append_room_cells (P := Tryd.prog) w 34 o.type 5 i Tryd.underlying34 hi g 0 n n ad 0 c [] (by simp) (by simp) (by simp) (by omega) (by simp) (by simp)
        exact this
    refine wpList_plain hgd fun K' hK' => ?_
    unfold Oper.wp execOp
    simp only [hop, resolve, invoke, builtin, Sem.run_bind, Sem.run_pure, Result.andThen_ok, List.map_toArray, List.map_cons, List.map_nil, hv, hx, hrun]
    exact hK' _ _ (K _ _ _ (by omega) (by rw [List.append_nil]; exact hrl) (Below.refl _ _))
  · obtain ⟨ad, rfl, hcell⟩ := Rd.cells hr hm
    obtain ⟨v', w', hrun, hown, hg⟩ := run_append_arg_grows (P := Tryd.prog) w 34 o.type 5 i (.int .u8 0) 1 1 Tryd.underlying34 hi hz0 hz1 hz2 rfl (by decide) ⟨g, 0, none⟩ n n (nums .u8 l) (by simp [nums, hn])
      (fun j u hu => by
        have hj : j < l.length := by have := (List.getElem?_eq_some_iff.1 hu).1; simpa [nums] using this
        have hc := h.cell j hj
        rw [show (⟨g, 0, none⟩ : Addr).add j = ⟨g, j, none⟩ by unfold Addr.add; split <;> simp_all]
        rw [hc, ← hu]
        simp [nums, rd, List.getD_eq_getElem?_getD, hj])
      ad m c (nums .u8 ys) (by simp [nums, hys])
      (fun j u hu => by
        have hj : j < ys.length := by have := (List.getElem?_eq_some_iff.1 hu).1; simpa [nums] using this
        rw [hcell j (by omega), ← hu]
        simp [nums, rd, List.getD_eq_getElem?_getD, hj])
      (by omega) (by simp [maxLen]; omega) (by omega)
    have hown2 : w'.ownsRow w.heap.size 5 1 v' (l ++ ys).length (encs (Value.int .u8) (l ++ ys)) := by
      rw [List.length_append, hn, hys]
      simpa [encs, nums] using hown
    have hR : Own w w' v' (l ++ ys) := Kd.R_of_own (h1 := fun _ => rfl) hown2 (fun _ _ => trivial)
    obtain ⟨A1, c1, rfl, hc1, hr1⟩ := hR.reads
    rw [List.length_append, hn, hys] at hc1 hr1 hrun
    refine wpList_plain hgd fun K' hK' => ?_
    unfold Oper.wp execOp
    simp only [hop, resolve, invoke, builtin, Sem.run_bind, Sem.run_pure, Result.andThen_ok, List.map_toArray, List.map_cons, List.map_nil, hv, hx, hrun]
    exact hK' _ _ (K _ _ _ hc1 hr1 (Below.grown (Below.refl _ _) hg (Nat.le_refl _) (fun k hk => by cases hk)))
end
end Go.Proofs.YtcgenmogedndjaaDoor
namespace Go.Proofs.YtcgenmogedndjaaDoor
open Go.RowKit Go.Proofs.YtcgenmogedndjaaDoorW.PrintWords
section
variable {ops : Array Oper} {rest : List Oper} {o : Oper} {a : Act} {Q : Exit → Act → World → Prop} {w : World}
theorem store_blk2 {g t : Nat} {k : IntKind} {l m : List Int} {T : TypeId} {p x : Operand} (hgd : o.guard = none) (hN : o.dst = none) (ho : o.op = .store T p x) (hp : a.eval p = .pointer (some ⟨g, 0, none⟩)) (hx : a.eval x = .agg (nums k m).toArray) (h : Blk w g t k l) (hl : m.length = l.length)
    (ht : (Tryd.prog.info? T).map (·.size) = some m.length) (hK : ∀ w1, Blk w1 g t k m → (∀ B a0, Below B a0 w → B ≤ g → Below B a0 w1) → (∀ g' t' k' l', g' ≠ g → Blk w g' t' k' l' → Blk w1 g' t' k' l') → wpList Tryd.prog ops Q rest a w1) : wpList Tryd.prog ops Q (o :: rest) a w := by
  have hnm : (nums k m).length = m.length := by simp [nums]
  have hrun := run_store_run (P := Tryd.prog) (w := w) (g := g) (o := 0) T (.agg (nums k m).toArray) (nums k m) h rfl (by rw [hnm]; exact ht) (by rw [hnm, hl]; simp [nums]) (fun q hq => by simp only [nums, List.mem_map] at hq; obtain ⟨x, _, rfl⟩ := hq; rfl)
  obtain ⟨cur', h1, h2, h3⟩ := setCells_row (nums k m) 0 w _ h (by rw [hnm, hl]; simp [nums])
  refine wpList_plain hgd fun K hK' => ?_
  unfold Oper.wp execOp
  simp only [ho, hp, hx, Sem.run_bind, Sem.run_pure, Result.andThen_ok, hrun]
  show K (a.put o.dst undef) _
  rw [hN]
  refine hK' a _ (hK _ ?_ ?_ ?_)
  · unfold Blk
    rw [h1]
    rw [show cur' = (nums k m).toArray from Array.ext' (by rw [h3]; simp [nums, hl])]
  · intro B a0 hb hB
    exact Below.setCells_ hb hB _
  · intro g' t' k' l' hne hb
    exact hb.farCells hne _
end
end Go.Proofs.YtcgenmogedndjaaDoor
