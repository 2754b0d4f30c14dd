/- The texts Base, QuietTail, Str, Clone, App, Bits, Ints, Rot, Padded in one. -/
import Derived.Test.YtcgenmogedndjaaDoorProg
import Derived.Test.YtcgenmogedndjaaDoorWWords
import Derived.Test.YtcgenmogedndjaaDoorWMore
import Derived.WalkKit
import Derived.RowKit3
import Derived.RowKit
import Derived.KernelRfl
import Derived.Outline
import Derived.Lib.Hide
import Derived.Deep.LoopGhost
import Derived.WalkLawsBesides
import Derived.WalkSpells
import Derived.Deep.QuietTactic
import Derived.BigQuiet
import Derived.Deep.RegionHeld3
import Derived.Deep.RegionWith
import Derived.StillTailTactics
import Derived.StillTail
import Derived.Laws.BitsLemmas
namespace Go.Proofs.YtcgenmogedndjaaDoor
theorem ret_bool {a b : Bool} (h : a = b) : Ending.returned (.bool a) = .returned (.bool b) := by rw [h]
/-- A function iterated. -/
def iter {α : Type} (f : α → α) : Nat → α → α
  | 0, c => c
  | n + 1, c => iter f n (f c)
/-- Every number of a list is a byte. -/
def Bytes (l : List Int) : Prop := ∀ x ∈ l, 0 ≤ x ∧ x < 256
open Go.Proofs.YtcgenmogedndjaaDoorW.PrintWords in
theorem rd_get (l : List Int) (k : Nat) (hk : k < l.length) : rd l k = l[k] := by
  unfold rd
  simp [List.getD_eq_getElem?_getD, hk]
open Go.Proofs.YtcgenmogedndjaaDoorW.PrintWords in
theorem bytes_rd {l : List Int} (h : Bytes l) (k : Nat) (hk : k < l.length) : 0 ≤ rd l k ∧ rd l k < 256 := by
  rw [rd_get l k hk]
  exact h _ (List.getElem_mem hk)
open Go.Proofs.YtcgenmogedndjaaDoorW.PrintWords in
/-- A literal of the call's own, just laid. -/
theorem R_laid (W : World) (base : Nat) (e : TypeId) (k : IntKind) (xs : List Int) (hb : base ≤ W.heap.size) (hm : xs.length ≤ 9223372036854775807) :
    (Kd.int k).R e (W.alloc (.cells (nums k xs).toArray e)) base (fun _ => True) (.slice (some ⟨W.heap.size, 0, none⟩) xs.length xs.length) xs :=
  Kd.R_of_own (own_lit W base e k xs hb hm) (fun _ _ => trivial)
open Go.Proofs.YtcgenmogedndjaaDoorW.PrintWords in
/-- A row of bytes that lies in a block, whatever mark it bears, reads. -/
theorem C_const (W : World) (e : TypeId) (xs : List Int) (fr : Nat × Nat) (hm : xs.length ≤ 9223372036854775807) :
    (Kd.int .u8).C (W.alloc (.cells (nums .u8 xs).toArray e fr)) (some ⟨W.heap.size, 0, none⟩) xs.length xs := by
  refine Kd.C_of_reads (d := (0 : Int)) (h1 := fun _ => rfl) ⟨rfl, hm, fun _ => ⟨_, rfl, fun j hj => ?_⟩⟩
  rw [add_plain]
  have : (W.alloc (.cells (nums .u8 xs).toArray e fr)).heap[W.heap.size]? = some (.cells (nums .u8 xs).toArray e fr) := by
    show (W.heap.push _)[W.heap.size]? = _
    simp
  unfold World.cell?
  rw [this]
  simp [nums, List.getD_eq_getElem?_getD, hj]
end Go.Proofs.YtcgenmogedndjaaDoor
namespace Go.Proofs.YtcgenmogedndjaaDoor
open Go
section
variable {P : Program} {hd tl : List Oper} {C : World → Prop}
/-- The operations ahead ask for what stands ahead of them alone, and have no guard; those behind wait for each of them. -/
def headB (hd tl : List Oper) : Bool :=
  ((List.range hd.length).all fun i => match hd[i]? with
    | some o => o.guard.isNone && o.after.all fun e => decide (e.on < i)
    | none => false) &&
  tl.all fun o => (List.range hd.length).all fun i => o.after.any fun e => Region.binds .any e && e.on == i
theorem headB_head (h : headB hd tl = true) (i : Nat) (o : Oper) (hi : hd[i]? = some o) : o.guard = none ∧ ∀ e ∈ o.after, e.on < i := by
  unfold headB at h
  rw [Bool.and_eq_true] at h
  have h1 := List.all_eq_true.1 h.1 i (List.mem_range.2 (List.getElem?_eq_some_iff.1 hi).1)
  rw [hi] at h1
  simp only [Bool.and_eq_true, Option.isNone_iff_eq_none] at h1
  exact ⟨h1.1, fun e he => by simpa using Array.all_eq_true_iff_forall_mem.1 h1.2 e he⟩
theorem headB_tail (h : headB hd tl = true) (o : Oper) (ho : o ∈ tl) (i : Nat) (hi : i < hd.length) : ∃ e ∈ o.after, Region.binds .any e = true ∧ e.on = i := by
  unfold headB at h
  rw [Bool.and_eq_true] at h
  have h1 := List.all_eq_true.1 (List.all_eq_true.1 h.2 o ho) i (List.mem_range.2 hi)
  obtain ⟨e, he, hb⟩ := Array.any_eq_true'.1 h1
  rw [Bool.and_eq_true, beq_iff_eq] at hb
  exact ⟨e, he, hb.1, hb.2⟩
def falses (g : Nat) : Array Bool := Array.replicate g false
theorem getD_head (L : Array Bool) (g j : Nat) (d : Bool) (hj : j < L.size) : (L ++ falses g).getD j d = L.getD j d := by
  simp [falses, Array.getElem?_append, hj]
theorem set_head (L : Array Bool) (g i : Nat) (hi : i < L.size) : (L ++ falses g).setIfInBounds i true = L.setIfInBounds i true ++ falses g := by
  apply Array.ext_getElem?
  intro j
  by_cases hij : i = j
  · subst hij
    have h2 : i < (L ++ falses g).size := by simp; omega
    rw [Array.getElem?_setIfInBounds_self_of_lt h2, Array.getElem?_append, if_pos (by simpa using hi), Array.getElem?_setIfInBounds_self_of_lt hi]
  · rw [Array.getElem?_setIfInBounds_ne hij, Array.getElem?_append, Array.getElem?_append]
    simp only [Array.size_setIfInBounds, Array.getElem?_setIfInBounds_ne hij]
theorem wanted_none {o : Oper} (h : o.guard = none) (f : Nat → Option Bool) : Region.wanted o f = true := by
  unfold Region.wanted
  rw [h]
/-- While one of the head is open, what is ready is of the head. -/
theorem ready_head (hB : headB hd tl = true) (L : Array Bool) (hL : L.size = hd.length) (i0 : Nat) (hi0 : i0 < L.size) (h0 : L.getD i0 false = false) (j : Nat) :
    j ∈ Region.ready .any (hd ++ tl).toArray (L ++ falses tl.length) ↔ j ∈ Region.ready .any hd.toArray L := by
  rw [mem_ready, mem_ready]
  by_cases hj : j < hd.length
  · have e1 : (hd ++ tl).toArray[j]? = hd.toArray[j]? := by simp [List.getElem?_append_left hj]
    rw [getD_head _ _ _ _ (by omega), e1]
    refine and_congr_right fun _ => exists_congr fun o => and_congr_right fun ho => ?_
    have := (headB_head hB j o (by simpa using ho)).2
    refine forall_congr' fun e => forall_congr' fun he => ?_
    rw [getD_head _ _ _ _ (by have := this e he; omega)]
  · constructor
    · rintro ⟨h1, o, ho, hall⟩
      have hjt : j < hd.length + tl.length := by have := (Array.getElem?_eq_some_iff.1 ho).1; simpa using this
      have hmem : o ∈ tl := by
        have h2 : (hd ++ tl)[j]? = some o := by simpa using ho
        rw [List.getElem?_append_right (by omega)] at h2
        exact List.mem_of_getElem? h2
      obtain ⟨e, he, hb, hon⟩ := headB_tail hB o hmem i0 (by omega)
      have := hall e he hb
      rw [hon, getD_head _ _ _ _ hi0, h0] at this
      cases this
    · rintro ⟨_, o, ho, _⟩
      have := (Array.getElem?_eq_some_iff.1 ho).1
      exact absurd (by simpa using this) hj
theorem ready_one (hB : headB hd tl = true) (L : Array Bool) (hL : L.size = hd.length) : ∀ (i0 : Nat), i0 < L.size → L.getD i0 false = false → Region.ready .any hd.toArray L ≠ [] := by
  intro i0
  induction i0 using Nat.strongRecOn with
  | _ i0 ih =>
    intro hi0 h0 he
    have hlt : i0 < hd.length := by omega
    by_cases hr : i0 ∈ Region.ready .any hd.toArray L
    · rw [he] at hr; cases hr
    · refine hr (mem_ready.2 ⟨getD_in hi0 h0, hd[i0], by simp [hlt], fun e hem _ => ?_⟩)
      have hon := (headB_head hB i0 _ (by simp [hlt])).2 e hem
      cases hv : L.getD e.on false with
      | true => rfl
      | false => exact absurd he (ih e.on hon (by omega) hv)
theorem count_set (L : Array Bool) (i : Nat) (hi : i < L.size) (h0 : L.getD i true = false) : (L.setIfInBounds i true).toList.count false + 1 = L.toList.count false := by
  have h1 : L[i] = false := by simpa [hi] using h0
  rw [Array.toList_setIfInBounds]
  have hl : i < L.toList.length := by simpa using hi
  have h2 := List.count_set (a := true) (b := false) (h := hl)
  have h3 : L.toList[i] = false := by simpa using h1
  have h4 : 0 < L.toList.count false := List.count_pos_iff.2 (h3 ▸ List.getElem_mem hl)
  rw [h2, if_pos (by rw [h3]; rfl), if_neg (by decide)]
  omega
theorem tail_of_head (hB : headB hd tl = true) {Q1 : Act → Prop} {Q' : Exit → Act → World → Prop}
    (hQ : ∀ a w, C w → Q1 a → wpAny P .any (hd ++ tl).toArray Q' tl.length (Array.replicate hd.length true ++ falses tl.length) a w) :
    ∀ (f : Nat) (L : Array Bool) (a : Act) (w : World), C w → L.size = hd.length → L.toList.count false = f → wpAnyQ P .any hd.toArray C Q1 f L a →
      wpAny P .any (hd ++ tl).toArray Q' (f + tl.length) (L ++ falses tl.length) a w
  | 0, L, a, w, hw, hs, hc, h => by
    have hE : L = Array.replicate hd.length true := by
      have h1 : ∀ b ∈ L.toList, b = true := by
        intro b hb
        cases b with
        | true => rfl
        | false => exact absurd (List.count_pos_iff.2 hb) (by omega)
      apply Array.ext_getElem?
      intro j
      by_cases hj : j < L.size
      · have := h1 L[j] (by simp)
        simp [hj, this, ← hs]
      · simp [Array.getElem?_eq_none (Nat.le_of_not_lt hj)]
        omega
    rw [hE, Nat.zero_add]
    exact hQ a w hw h.2
  | f + 1, L, a, w, hw, hs, hc, h => by
    obtain ⟨i0, hi0, h0⟩ : ∃ i0, i0 < L.size ∧ L.getD i0 false = false := by
      have : false ∈ L.toList := List.count_pos_iff.1 (by omega)
      obtain ⟨i, hi, e⟩ := List.mem_iff_getElem.1 this
      have hi' : i < L.size := by simpa using hi
      exact ⟨i, hi', by simpa [hi'] using e⟩
    have hrd := ready_head (tl := tl) hB L hs i0 hi0 h0
    have hne := ready_one hB L hs i0 hi0 h0
    rw [show f + 1 + tl.length = (f + tl.length) + 1 by omega]
    refine ⟨fun he => ?_, fun i hi => ?_⟩
    · obtain ⟨j, hj⟩ := List.exists_mem_of_ne_nil _ hne
      have := (hrd j).2 hj
      rw [he] at this
      cases this
    · have hi' := (hrd i).1 hi
      obtain ⟨hu, o, ho, _⟩ := mem_ready.1 hi'
      have hin : i < hd.length := by have := (Array.getElem?_eq_some_iff.1 ho).1; simpa using this
      have hg := (headB_head hB i o (by simpa using ho)).1
      have hq := h.2 i hi'
      have ho2 : (hd ++ tl).toArray[i]? = some o := by rw [← ho]; simp [List.getElem?_append_left hin]
      have hq2 : qOp P (hd ++ tl).toArray C i (wpAnyQ P .any hd.toArray C Q1 f (L.setIfInBounds i true)) a := by
        unfold qOp at hq ⊢
        simp only [ho] at hq
        simp only [ho2]
        rw [wanted_none hg] at hq ⊢
        exact hq
      have hc' := count_set L i (by omega) hu
      rw [set_head L _ i (by omega)]
      exact wpOp_of_qOp hw (fun a' w' hw' h' => tail_of_head hB hQ f _ a' w' hw' (by simpa using hs) (by omega) h') hq2
/-- A region that draws its order: the head by one quiet walk, the tail in its order. -/
theorem wp_region_quiet_tail {id : Nat} {Q : Exit → Act → World → Prop} {a : Act} {w : World} (hd tl : List Oper) (hm : P.follows .mixedOrders = true) (hB : headB hd tl = true) (hH : Region.lexB .any hd.toArray = true)
    (hT : Region.seqB .any (hd ++ tl).toArray tl.length hd.length (Array.replicate hd.length true ++ falses tl.length) = true)
    (h : wpQuiet P hd.toArray (fun w' => ∃ n, w' = w.drewN n) (fun a' => ∀ w', (∃ n, w' = w.drewN n) → wpList P (hd ++ tl).toArray Q tl a' w') hd a) : (Code.region id (hd ++ tl).toArray true).wp P Q a w := by
  simp only [Region.lexB, Bool.and_eq_true] at hH
  have h1 := wpAnyQ_lex (P := P) (C := fun w' => ∃ n, w' = w.drewN n) (md := .any) hH.1 hd 0 (Array.replicate hd.length false) a (by simp) (by simpa using hH.2) h
  have h2 := tail_of_head (P := P) (C := fun w' => ∃ n, w' = w.drewN n) (Q' := Q) hB (fun a' w' hw' hq => wpAny_of_seq (md := .any) tl hd.length _ a' w' (fun j => by simp [List.getElem?_append_right]) hT (hq w' hw')) hd.length (Array.replicate hd.length false) a { w with drawn := w.drawn + 1 } ⟨1, rfl⟩ (by simp) (by simp) h1
  refine wp_region_any hm ?_
  have e : Array.replicate (hd ++ tl).toArray.size false = Array.replicate hd.length false ++ falses tl.length := by
    apply Array.ext_getElem?
    intro j
    simp [falses, Array.getElem?_replicate]
  rw [e, show (hd ++ tl).toArray.size = hd.length + tl.length by simp]
  exact h2
/-- The same for a region that is written out. -/
theorem wp_region_quiet_tail_at {id : Nat} {Q : Exit → Act → World → Prop} {a : Act} {w : World} {l : List Oper} (n : Nat) (hm : P.follows .mixedOrders = true) (hB : headB (l.take n) (l.drop n) = true) (hH : Region.lexB .any (l.take n).toArray = true)
    (hT : Region.seqB .any l.toArray (l.drop n).length (l.take n).length (Array.replicate (l.take n).length true ++ falses (l.drop n).length) = true)
    (h : wpQuiet P (l.take n).toArray (fun w' => ∃ n, w' = w.drewN n) (fun a' => ∀ w', (∃ n, w' = w.drewN n) → wpList P l.toArray Q (l.drop n) a' w') (l.take n) a) : (Code.region id l.toArray true).wp P Q a w := by
  have e := List.take_append_drop n l
  have := wp_region_quiet_tail (P := P) (id := id) (Q := Q) (a := a) (w := w) (l.take n) (l.drop n) hm hB hH
  rw [e] at this
  exact this hT h
end
end Go.Proofs.YtcgenmogedndjaaDoor
namespace Go.Proofs.YtcgenmogedndjaaDoor
open Go.RowKit Go.Proofs.YtcgenmogedndjaaDoorW.PrintWords
theorem bytes_strOf {l : List Int} (h : Bytes l) : bytesOf (strOfNums l) = l := by
  unfold bytesOf
  rw [strOfNums_data, List.map_map]
  conv => rhs; rw [← List.map_id l]
  refine List.map_congr_left fun x hx => ?_
  obtain ⟨h0, h1⟩ := h x hx
  simp only [Function.comp, id]
  rw [UInt8.toNat_ofNat_of_lt' (by show x.toNat < 256; omega)]
  omega
theorem strOf_bytes (s : ByteArray) : strOfNums (bytesOf s) = s := by
  apply Go.WideShapes.bytes_inj
  rw [strOfNums_data]
  unfold bytesOf
  rw [List.map_map]
  conv => rhs; rw [← List.map_id s.data.toList]
  refine List.map_congr_left fun b _ => ?_
  simp
theorem Bytes_bytesOf (s : ByteArray) : Bytes (bytesOf s) := by
  intro x hx
  unfold bytesOf at hx
  obtain ⟨b, _, rfl⟩ := List.mem_map.1 hx
  have := b.toNat_lt
  omega
theorem strOf_inj {l m : List Int} (hl : Bytes l) (hm : Bytes m) (h : strOfNums l = strOfNums m) : l = m := by
  rw [← bytes_strOf hl, ← bytes_strOf hm, h]
theorem bytesOf_inj {s t : ByteArray} (h : bytesOf s = bytesOf t) : s = t := by
  rw [← strOf_bytes s, ← strOf_bytes t, h]
theorem toList_inj {s t : ByteArray} (h : s.toList = t.toList) : s = t := by
  rw [ByteArray.toList_eq, ByteArray.toList_eq] at h
  exact Go.WideShapes.bytes_inj h
theorem strOf_eql {l m : List Int} (hl : Bytes l) (hm : Bytes m) : ((strOfNums l).toList == (strOfNums m).toList) = decide (l = m) := by
  rw [Bool.eq_iff_iff]
  simp only [beq_iff_eq, decide_eq_true_eq]
  exact ⟨fun h => strOf_inj hl hm (toList_inj h), fun h => by rw [h]⟩
theorem Bytes.nil : Bytes [] := fun _ h => by cases h
theorem Bytes.app {l m : List Int} (hl : Bytes l) (hm : Bytes m) : Bytes (l ++ m) := fun x hx => by
  rcases List.mem_append.1 hx with h | h
  · exact hl x h
  · exact hm x h
theorem Bytes.con {x : Int} {m : List Int} (h0 : 0 ≤ x) (h1 : x < 256) (hm : Bytes m) : Bytes (x :: m) := fun y hy => by
  rcases List.mem_cons.1 hy with rfl | h
  · exact ⟨h0, h1⟩
  · exact hm y h
theorem Bytes.tk {l : List Int} (hl : Bytes l) (n : Nat) : Bytes (l.take n) := fun x hx => hl x (List.mem_of_mem_take hx)
theorem Bytes.dp {l : List Int} (hl : Bytes l) (n : Nat) : Bytes (l.drop n) := fun x hx => hl x (List.mem_of_mem_drop hx)
end Go.Proofs.YtcgenmogedndjaaDoor
namespace Go.Proofs.YtcgenmogedndjaaDoor
open Go.RowKit Go.Proofs.YtcgenmogedndjaaDoorW.PrintWords
theorem info_u8 : (Tryd.prog.info? 5).map (fun i => (i.zero, i.size, i.bytes)) = some (some (.int .u8 0), 1, 1) := by kernel_rfl
def bytes_Clone.f (l0 : List Int) : Option (List Int) := if l0.length < 140737488355328 then some l0 else none
set_option maxHeartbeats 800000 in
theorem bytes_Clone.calls (A0 : Option Addr) (c0 : Nat) (l0 : List Int) (r : List Int) (w : World) (hr0 : Kd.C (Kd.int .u8) w A0 l0.length l0) (hc0 : l0.length ≤ c0) (h : bytes_Clone.f l0 = some r) :
    Calls Tryd.prog 26 #[.slice A0 l0.length c0] w fun e w' => ∃ v0_ : Value, e = .returned (v0_) ∧ Kd.R (Kd.int .u8) 5 w' w.heap.size (fun _ => True) v0_ r ∧ Below w.heap.size w w' := by
  unfold bytes_Clone.f at h
  split at h
  case isFalse => cases h
  rename_i hm0
  obtain rfl := Option.some.inj h
  clear h
  have HR := Lib.hid hr0
  cases A0 with
  | none =>
    have hl : l0 = [] := by
      rcases Nat.eq_zero_or_pos l0.length with h0 | h0
      · exact List.eq_nil_of_length_eq_zero h0
      · obtain ⟨ad, e, _⟩ := hr0.2.2 h0
        cases e
    clear HR hr0
    subst hl
    have e1 := fun (n c : Nat) (W : World) => Lib.run_eql_slice_nil (P := Tryd.prog) W 34 5 none n c 0 0 Tryd.underlying34
    go_enter Tryd.func26, Tryd.ntmps26
    go_wp2
    go_ret
    exact ⟨_, rfl, Kd.R_nil _ _ _ _ _, Below.refl _ _⟩
  | some a =>
    clear hr0
    have e1 := fun (n c : Nat) (W : World) => Lib.run_eql_slice_nil (P := Tryd.prog) W 34 5 (some a) n c 0 0 Tryd.underlying34
    go_enter Tryd.func26, Tryd.ntmps26
    go_wp2_with (at_builtin; refine Kd.R_append_rows (Kd.int .u8) (w0 := w) w.heap.size rfl (.tmp 5) (.tmp 6) 34 5 (.int .u8 0) 1 rfl Tryd.underlying34 info_u8 rfl (by decide) (by omega) _ [] l0 _ _ _ (fun _ => True) (fun _ => False) rfl rfl ?aO ?aR (fun _ _ h => h) (fun _ h => h.elim) ?aF ?aB ?aS ?aL ?_)
    case aO => exact R_laid w _ _ _ [] (Nat.le_refl _) (by simp)
    case aR => exact Kd.C_alloc HR.out _
    case aF => exact fun _ _ => trivial
    case aB => exact below_alloc (Below.refl _ _) _
    case aS => simp
    case aL => simp; omega
    intro v1 w1 ho hb _ _
    go_wp2
    go_ret
    exact ⟨_, rfl, ho, hb⟩
end Go.Proofs.YtcgenmogedndjaaDoor
namespace Go.Proofs.YtcgenmogedndjaaDoor
open Go.RowKit Go.Proofs.YtcgenmogedndjaaDoorW.PrintWords
/-- A row of bytes of the call's own: whatever block it lies in, if it is younger than the call. -/
abbrev Own (w0 w : World) (v : Value) (l : List Int) : Prop := Kd.R (Kd.int .u8) 5 w w0.heap.size (fun _ => True) v l
abbrev Rd (w : World) (A : Option Addr) (n : Nat) (l : List Int) : Prop := Kd.C (Kd.int .u8) w A n l
theorem Rd.cells {w : World} {A : Option Addr} {n : Nat} {l : List Int} (h : Rd w A n l) (hn : 0 < n) : ∃ ad, A = some ad ∧ ∀ j, j < n → w.cell? (ad.add j) = some (.int .u8 (rd l j)) := by
  obtain ⟨ad, rfl, _⟩ := Kd.at_int h 0 (by omega) (by omega)
  refine ⟨ad, rfl, fun j hj => ?_⟩
  obtain ⟨ad', e, hx⟩ := Kd.at_int h j (by omega) (by omega)
  cases e
  exact hx
theorem Rd.mk {w : World} {a : Addr} {n : Nat} {l : List Int} (hl : l.length = n) (hm : n ≤ 9223372036854775807) (h : ∀ j, j < n → w.cell? (a.add j) = some (.int .u8 (rd l j))) : Rd w (some a) n l :=
  Kd.C_of_reads (d := (0 : Int)) (h1 := fun _ => rfl) ⟨hl, hm, fun _ => ⟨a, rfl, fun j hj => h j hj⟩⟩
theorem Rd.isNil {w : World} {n : Nat} {l : List Int} (h : Rd w none n l) : n = 0 ∧ l = [] := by
  rcases Nat.eq_zero_or_pos n with h0 | h0
  · exact ⟨h0, List.eq_nil_of_length_eq_zero (by rw [Kd.C_len h, h0])⟩
  · obtain ⟨ad, e, _⟩ := Rd.cells h h0
    cases e
theorem Rd.empty (w : World) (A : Option Addr) : Rd w A 0 [] := by
  cases A with
  | none => exact Kd.C_nil _ _
  | some a => exact Rd.mk rfl (by omega) (fun j hj => by omega)
theorem rd_mid (l : List Int) (lo hi j : Nat) (h : lo + j < hi) : rd ((l.take hi).drop lo) j = rd l ((lo + j : Nat) : Int) := by
  unfold rd
  simp only [Int.toNat_natCast, List.getD_eq_getElem?_getD, List.getElem?_drop, List.getElem?_take]
  rw [if_pos h]
/-- A cut out of the middle. -/
theorem Rd.mid {w : World} {ad x : Addr} {n : Nat} {l : List Int} (h : Rd w (some ad) n l) (lo hi : Nat) (h1 : lo ≤ hi) (h2 : hi ≤ n) (hx : lo < hi → x = ad.add lo) : Rd w (some x) (hi - lo) ((l.take hi).drop lo) := by
  have hl := Kd.C_len h
  have hm := Kd.C_max h
  refine Rd.mk (by simp; omega) (by omega) fun j hj => ?_
  obtain ⟨ad', e, hc⟩ := Rd.cells h (by omega)
  cases e
  rw [hx (by omega), add_add, rd_mid l lo hi j (by omega)]
  exact hc (lo + j) (by omega)
theorem Own.cast {w0 w : World} {v : Value} {l m : List Int} (h : Own w0 w v l) (he : l = m) : Own w0 w v m := he ▸ h
theorem Own.nil (w0 w : World) : Own w0 w (.slice none 0 0) [] := Kd.R_nil _ _ _ _ _
theorem Own.reads {w0 w : World} {v : Value} {l : List Int} (h : Own w0 w v l) : ∃ A c, v = .slice A l.length c ∧ l.length ≤ c ∧ Rd w A l.length l := by
  obtain ⟨A, c, rfl⟩ := Kd.R_slice h
  exact ⟨A, c, rfl, (Kd.R_reads' h).2.1, (Kd.R_reads' h).2.2⟩
theorem Own.below {w0 w w1 : World} {v : Value} {l : List Int} (h : Own w0 w v l) (hb : Below w.heap.size w w1) : Own w0 w1 v l := Kd.R_below h hb
theorem Own.cell {w0 w : World} {g n cap : Nat} {l : List Int} (h : Own w0 w (.slice (some ⟨g, 0, none⟩) n cap) l) (i : Nat) (hi : i < n) : w.cell? ⟨g, i, none⟩ = some (.int .u8 (rd l i)) ∧ w.frozen? ⟨g, i, none⟩ = false :=
  Kd.R_celln (0 : Int) h (i : Int) (by omega) (by omega)
theorem Own.put {w0 w : World} {g n cap : Nat} {l : List Int} (h : Own w0 w (.slice (some ⟨g, 0, none⟩) n cap) l) (i : Nat) (x : Int) : Own w0 (w.setCell ⟨g, i, none⟩ (.int .u8 x)) (.slice (some ⟨g, 0, none⟩) n cap) (l.set i x) :=
  Kd.R_putn h (i : Int) x
theorem Own.far {w0 w : World} {v : Value} {l : List Int} (h : Own w0 w v l) {p : Addr} (hne : some p.block ≠ v.ownBlock) (u : Value) : Own w0 (w.setCell p u) v l := Kd.R_drop (Kd.R_far (Kd.R_far1 h rfl hne) (fun _ hk => hk.2) u)
theorem Own.lt {w0 w : World} {v : Value} {l : List Int} (h : Own w0 w v l) : ∀ k, v.ownBlock = some k → k < w.heap.size := Kd.R_lt h
theorem Own.ge {w0 w : World} {v : Value} {l : List Int} (h : Own w0 w v l) : ∀ k, v.ownBlock = some k → w0.heap.size ≤ k := Kd.R_base h
theorem Own.lower {w0 w1 w : World} {v : Value} {l : List Int} (h : Own w1 w v l) (hs : w0.heap.size ≤ w1.heap.size) : Own w0 w v l := Kd.R_lower h hs
theorem lit_nil {w0 W : World} (hB : Below w0.heap.size w0 W) : Own w0 (W.alloc (.cells #[] 5)) (.slice (some ⟨W.heap.size, 0, none⟩) 0 0) [] := R_laid W _ _ _ [] hB.size (by simp)
theorem lit_one {w0 W : World} (hB : Below w0.heap.size w0 W) (p : Int) : Own w0 (W.alloc (.cells #[.int .u8 p] 5)) (.slice (some ⟨W.heap.size, 0, none⟩) 1 1) [p] := R_laid W _ _ _ [p] hB.size (by simp)
section
variable {ops : Array Oper} {rest : List Oper} {o : Oper} {a : Act} {Q : Exit → Act → World → Prop} {w0 W : World} {v : Value} {l ys : List Int} {A : Option Addr} {m c : Nat} {s x : Operand}
theorem app_row (hO : Own w0 W v l) (hR : Rd W A m ys) (hB : Below w0.heap.size w0 W) (hL : l.length + m ≤ 140737488355328)
    (hgd : o.guard = none) (hop : o.op = .call { callee := .builtin .append, args := #[s, x], argTypes := #[34, 34] }) (hv : a.eval s = v) (hx : a.eval x = .slice A m c)
    (K : ∀ v1 w1, Own w0 w1 v1 (l ++ ys) → Below w0.heap.size w0 w1 → W.grownBy w1 v.ownBlock → (v1.ownBlock = v.ownBlock ∨ ∃ b, v1.ownBlock = some b ∧ W.heap.size ≤ b) → wpList Tryd.prog ops Q rest (a.put o.dst v1) w1) : wpList Tryd.prog ops Q (o :: rest) a W :=
  Kd.R_append_rows (Kd.int .u8) (w0 := w0) w0.heap.size hgd s x 34 5 (.int .u8 0) 1 hop Tryd.underlying34 info_u8 rfl (by decide) (by omega) v l ys A m c (fun _ => True) (fun _ => False) hv hx hO hR (fun _ _ h => h) (fun _ h => h.elim) (fun _ _ => trivial) hB hB.size (by omega) K
theorem app_one {p : Int} (hO : Own w0 W v l) (hB : Below w0.heap.size w0 W) (hL : l.length + 1 ≤ 140737488355328)
    (hgd : o.guard = none) (hop : o.op = .call { callee := .builtin .append, args := #[s, x], argTypes := #[34, 34] }) (hv : a.eval s = v) (hx : a.eval x = .slice (some ⟨W.heap.size, 0, none⟩) 1 1)
    (K : ∀ v1 w1, Own w0 w1 v1 (l ++ [p]) → Below w0.heap.size w0 w1 → W.grownBy w1 v.ownBlock → (v1.ownBlock = v.ownBlock ∨ ∃ b, v1.ownBlock = some b ∧ W.heap.size ≤ b) → wpList Tryd.prog ops Q rest (a.put o.dst v1) w1) : wpList Tryd.prog ops Q (o :: rest) a (W.alloc (.cells #[.int .u8 p] 5)) :=
  Kd.R_append (Kd.int .u8) (w0 := w0) w0.heap.size hgd s x 34 5 (.int .u8 0) 1 hop Tryd.underlying34 info_u8 rfl (by decide) (by omega) v l p [.int .u8 p] (fun _ => True) (fun _ => False) hv hx rfl (fun _ hk => hk.elim) (fun _ _ => trivial) hO hB hB.size (by omega) K
theorem app_str {y : ByteArray} (hO : Own w0 W v l) (hB : Below w0.heap.size w0 W) (hL : l.length + y.size ≤ 140737488355328)
    (hgd : o.guard = none) (hop : o.op = .call { callee := .builtin .append, args := #[s, x], argTypes := #[34, 9] }) (hv : a.eval s = v) (hx : a.eval x = .string y)
    (K : ∀ v1 w1, Own w0 w1 v1 (l ++ bytesOf y) → Below w0.heap.size w0 w1 → W.grownBy w1 v.ownBlock → wpList Tryd.prog ops Q rest (a.put o.dst v1) w1) : wpList Tryd.prog ops Q (o :: rest) a W :=
  print_append_str (w0 := w0) w0.heap.size hgd s x 34 9 5 hop Tryd.underlying34 Tryd.underlying9 info_u8 v l y hv hx (Kd.own_of_R hO) hB hB.size hL (fun v1 w1 h1 h2 h3 => K v1 w1 (Kd.R_of_own h1 (fun _ _ => trivial)) h2 h3)
end
end Go.Proofs.YtcgenmogedndjaaDoor
namespace Go.Proofs.YtcgenmogedndjaaDoor
open Go.RowKit
theorem wraps_u32 (n : Int) (h₀ : 0 ≤ n) (h₁ : n < 2 ^ 32) : IntKind.u32.wrap n = n := by rw [IntKind.wrap_u32]; omega
theorem wraps_i64 (n : Int) (h₀ : 0 ≤ n) (h₁ : n < 2 ^ 63) : IntKind.i64.wrap n = n := by rw [IntKind.wrap_i64]; omega
theorem bits_xor_nat (k : IntKind) (j : Nat) (hj : j ≤ k.bits) (hk : ∀ n : Int, 0 ≤ n → n < 2 ^ j → k.wrap n = n) (a b : Nat) (ha : a < 2 ^ j) (hb : b < 2 ^ j) :
    bits .xor k a b = ((a ^^^ b : Nat) : Int) := by
  have hp : 2 ^ j ≤ 2 ^ k.bits := Nat.pow_le_pow_right (by decide) hj
  have ha' : a % 2 ^ k.bits = a := Nat.mod_eq_of_lt (Nat.lt_of_lt_of_le ha hp)
  have hb' : b % 2 ^ k.bits = b := Nat.mod_eq_of_lt (Nat.lt_of_lt_of_le hb hp)
  have cast : ∀ n : Nat, n < 2 ^ j → ((n : Nat) : Int) < 2 ^ j := fun n h => by exact_mod_cast h
  simp only [bits, BitVec.ofInt_natCast, BitVec.toNat_xor, BitVec.toNat_ofNat, ha', hb']
  exact hk _ (Int.natCast_nonneg _) (cast _ (Nat.xor_lt_two_pow ha hb))
theorem xor_u32 (a b : Nat) (ha : a < 4294967296) (hb : b < 4294967296) : bits .xor .u32 a b = ((a ^^^ b : Nat) : Int) := bits_xor_nat .u32 32 (by decide) wraps_u32 a b ha hb
theorem xor_u8 (a b : Nat) (ha : a < 256) (hb : b < 256) : bits .xor .u8 a b = ((a ^^^ b : Nat) : Int) := bits_xor_nat .u8 8 (by decide) wraps_u8 a b ha hb
theorem or_u32 (a b : Nat) (ha : a < 4294967296) (hb : b < 4294967296) : bits .or .u32 a b = ((a ||| b : Nat) : Int) := (bits_nat .u32 32 (by decide) wraps_u32 a b ha hb).2
theorem or_u8 (a b : Nat) (ha : a < 256) (hb : b < 256) : bits .or .u8 a b = ((a ||| b : Nat) : Int) := (bits_nat .u8 8 (by decide) wraps_u8 a b ha hb).2
theorem and_i64 (a b : Nat) (ha : a < 9223372036854775808) (hb : b < 9223372036854775808) : bits .and .i64 a b = ((a &&& b : Nat) : Int) := (bits_nat .i64 63 (by decide) wraps_i64 a b ha hb).1
end Go.Proofs.YtcgenmogedndjaaDoor
namespace Go.Proofs.YtcgenmogedndjaaDoor
theorem u64_wrap (x : Int) : IntKind.u64.wrap x = x % 18446744073709551616 := by simp [IntKind.wrap, IntKind.bits, IntKind.signed]
theorem u64_wrap_range (x : Int) : 0 ≤ IntKind.u64.wrap x ∧ IntKind.u64.wrap x < 18446744073709551616 := by rw [u64_wrap]; omega
theorem u64_id {x : Int} (h0 : 0 ≤ x) (h1 : x < 18446744073709551616) : IntKind.u64.wrap x = x := by rw [u64_wrap]; omega
end Go.Proofs.YtcgenmogedndjaaDoor
namespace Go.Proofs.YtcgenmogedndjaaDoor
open Go.RowKit Go.Proofs.YtcgenmogedndjaaDoorW.PrintWords
/-- A word turned left. -/
def rotl (x : Int) (s : Nat) : Int := x * 2 ^ s % 4294967296 + x / 2 ^ (32 - s)
theorem rotl_range (x : Int) (x0 : 0 ≤ x) (x1 : x < 4294967296) (s : Nat) (hs : s < 32) : 0 ≤ rotl x s ∧ rotl x s < 4294967296 := by
  have hp : (2 : Int) ^ s * 2 ^ (32 - s) = 4294967296 := by rw [← Int.pow_add, show s + (32 - s) = 32 by omega]; rfl
  have hs0 : (0 : Int) < 2 ^ s := Int.pow_pos (by decide)
  have ht0 : (0 : Int) < 2 ^ (32 - s) := Int.pow_pos (by decide)
  have h1 : x / 2 ^ (32 - s) < 2 ^ s := Int.ediv_lt_of_lt_mul ht0 (by rw [hp]; exact x1)
  have h2 : 0 ≤ x / 2 ^ (32 - s) := Int.ediv_nonneg x0 (Int.le_of_lt ht0)
  have h3 : x * 2 ^ s % 4294967296 = (x % 2 ^ (32 - s)) * 2 ^ s := by
    rw [← hp, Int.mul_comm x, Int.mul_emod_mul_of_pos _ _ hs0, Int.mul_comm]
  unfold rotl
  rw [h3]
  have h4 : 0 ≤ x % 2 ^ (32 - s) := Int.emod_nonneg _ (by omega)
  have h5 : x % 2 ^ (32 - s) < 2 ^ (32 - s) := Int.emod_lt_of_pos _ ht0
  have h6 : (x % 2 ^ (32 - s)) * 2 ^ s ≤ (2 ^ (32 - s) - 1) * 2 ^ s := Int.mul_le_mul_of_nonneg_right (by omega) (Int.le_of_lt hs0)
  have h7 : (2 ^ (32 - s) - 1 : Int) * 2 ^ s = 4294967296 - 2 ^ s := by rw [Int.sub_mul, Int.mul_comm, hp, Int.one_mul]
  have h8 : 0 ≤ (x % 2 ^ (32 - s)) * 2 ^ s := Int.mul_nonneg h4 (Int.le_of_lt hs0)
  omega
theorem rotl_or (x : Int) (x0 : 0 ≤ x) (x1 : x < 4294967296) (s : Nat) (hs : s < 32) : bits .or .u32 (x * 2 ^ s % 4294967296) (x / 2 ^ (32 - s)) = rotl x s := by
  have hp : (2 : Int) ^ s * 2 ^ (32 - s) = 4294967296 := by rw [← Int.pow_add, show s + (32 - s) = 32 by omega]; rfl
  have hs0 : (0 : Int) < 2 ^ s := Int.pow_pos (by decide)
  have ht0 : (0 : Int) < 2 ^ (32 - s) := Int.pow_pos (by decide)
  have h1 : x / 2 ^ (32 - s) < 2 ^ s := Int.ediv_lt_of_lt_mul ht0 (by rw [hp]; exact x1)
  have h2 : 0 ≤ x / 2 ^ (32 - s) := Int.ediv_nonneg x0 (Int.le_of_lt ht0)
  have h3 : x * 2 ^ s % 4294967296 = (x % 2 ^ (32 - s)) * 2 ^ s := by
    rw [← hp, Int.mul_comm x, Int.mul_emod_mul_of_pos _ _ hs0, Int.mul_comm]
  have hr := rotl_range x x0 x1 s hs
  have h8 : 0 ≤ x * 2 ^ s % 4294967296 ∧ x * 2 ^ s % 4294967296 < 4294967296 := ⟨Int.emod_nonneg _ (by decide), Int.emod_lt_of_pos _ (by decide)⟩
  exact bits_join .u32 32 (by decide) wraps_u32 s (x * 2 ^ s % 4294967296) (x / 2 ^ (32 - s)) h8.1 (by rw [h3]; exact Int.mul_emod_left _ _) h8.2 h2 h1 (by unfold rotl at hr; omega)
theorem and_31 (k : Int) : bits .and .u64 (IntKind.u64.wrap k) 31 = k % 32 := by
  have hr := u64_wrap_range k
  rw [u64_wrap] at hr ⊢
  obtain ⟨a, ha⟩ := Int.eq_ofNat_of_zero_le hr.1
  rw [ha]
  have h := (bits_nat .u64 64 (by decide) (fun n h₀ h₁ => by rw [IntKind.wrap_u64]; omega) a 31 (by omega) (by omega)).1
  have e : a &&& 31 = a % 32 := Nat.and_two_pow_sub_one_eq_mod a 5
  rw [e] at h
  exact h.trans (by omega)
set_option maxHeartbeats 800000 in
theorem rot_calls (x k : Int) (w : World) (x0 : 0 ≤ x) (x1 : x < 4294967296) (s : Nat) (hs : s < 32) (hk : k % 32 = s) :
    Calls Tryd.prog 70 #[.int .u32 x, .int .i64 k] w fun e w' => e = .returned (.int .u32 (rotl x s)) ∧ Drawn0 w w' := by
  have hA : bits .and .u64 (IntKind.u64.wrap k) 31 = s := by rw [and_31, hk]
  have hB : IntKind.u64.wrap (32 - (s : Int)) = 32 - s := u64_id (by omega) (by omega)
  have hC : IntKind.u32.wrap (x * 2 ^ min s 32) = x * 2 ^ s % 4294967296 := by rw [Nat.min_eq_left (by omega), IntKind.wrap_u32]
  have hD : x / 2 ^ min (32 - (s : Int)).toNat 32 = x / 2 ^ (32 - s) := by rw [show (32 - (s : Int)).toNat = 32 - s by omega, Nat.min_eq_left (by omega)]
  have hO := rotl_or x x0 x1 s hs
  have hs1 : (0 : Int) ≤ 32 - (s : Int) := by omega
  clear hk x0 x1
  go_enter Tryd.func70, Tryd.ntmps70
  go_wp2
  go_ret
  exact ⟨rfl, Drawn0.refl _⟩
end Go.Proofs.YtcgenmogedndjaaDoor
namespace Go.Proofs.YtcgenmogedndjaaDoor
open Go.RowKit Go.Proofs.YtcgenmogedndjaaDoorW.PrintWords
/-- A word's bytes, the highest first. -/
def be4 (x : Int) : List Int := [x / 16777216 % 256, x / 65536 % 256, x / 256 % 256, x % 256]
/-- Noughts up to 56 behind the last 64. -/
def padZ (m : Nat) : Nat := (119 - m % 64) % 64
/-- How long a slice is. -/
def slenB : Value → Nat
  | .slice _ m _ => m
  | _ => 0
def padSha (l : List Int) : List Int := l ++ 128 :: List.replicate (padZ l.length) 0 ++ be4 ((l.length : Int) * 8 / 4294967296) ++ be4 ((l.length : Int) * 8 % 4294967296)
theorem padSha_length (l : List Int) : (padSha l).length = l.length + 1 + padZ l.length + 8 := by simp [padSha, be4]; omega
theorem padSha_mod (l : List Int) : (padSha l).length % 64 = 0 := by rw [padSha_length]; unfold padZ; omega
set_option maxHeartbeats 400000 in
theorem laid_calls (x : Int) (w0 w : World) (v : Value) (l : List Int) (hO : Own w0 w v l) (hB : Below w0.heap.size w0 w) (hl : l.length + 4 ≤ 140737488355328) (_x0 : 0 ≤ x) (_x1 : x < 4294967296) :
    Calls Tryd.prog 72 #[v, .int .u32 x] w fun e w' => ∃ v', e = .returned v' ∧ Own w0 w' v' (l ++ be4 x) ∧ Below w0.heap.size w0 w' := by
  have HO := Lib.hid hO
  have HB := Lib.hid hB
  have h1 : IntKind.u8.wrap (x / 16777216) = x / 16777216 % 256 := by rw [IntKind.wrap_u8]
  have h2 : IntKind.u8.wrap (x / 65536) = x / 65536 % 256 := by rw [IntKind.wrap_u8]
  have h3 : IntKind.u8.wrap (x / 256) = x / 256 % 256 := by rw [IntKind.wrap_u8]
  have h4 : IntKind.u8.wrap x = x % 256 := by rw [IntKind.wrap_u8]
  obtain ⟨A, c, rfl⟩ := Kd.R_slice hO
  clear hO hB
  go_enter Tryd.func72, Tryd.ntmps72
  go_wp2_with (at_builtin; refine app_row (Kd.R_alloc HO.out _) (C_const _ _ [x / 16777216 % 256, x / 65536 % 256, x / 256 % 256, x % 256] (0, 0) (by simp)) (below_alloc HB.out _) (by simp only [List.length_cons, List.length_nil]; omega) rfl rfl rfl rfl ?_)
  intro v3 w3 ho3 hb3 _ _
  have HO3 := Lib.hid ho3
  have HB3 := Lib.hid hb3
  clear ho3 hb3
  go_wp2
  go_ret
  exact ⟨_, rfl, HO3.out.cast (by simp [be4]), HB3.out⟩
set_option maxHeartbeats 800000 in
theorem padded_calls {n : Nat} (A0 : Option Addr) (c0 : Nat) (l0 : List Int) (w : World) (hr0 : Rd w A0 n l0) (hc0 : n ≤ c0) (hs : n ≤ 1099511627776) :
    Calls Tryd.prog 67 #[.slice A0 n c0] w fun e w' => ∃ v', e = .returned v' ∧ Own w w' v' (padSha l0) ∧ Below w.heap.size w w' := by
  obtain rfl : n = l0.length := (Kd.C_len hr0).symm
  have HR := Lib.hid hr0
  clear hr0
  go_enter Tryd.func67, Tryd.ntmps67
  go_wp2_with fail
  refine (bytes_Clone.calls A0 c0 l0 l0 _ HR.out hc0 (if_pos (by omega))).mono ?_
  rintro e w1 ⟨v1, rfl, ho1, hb1⟩
  replace ho1 : Own w w1 v1 l0 := ho1
  have HO1 := Lib.hid ho1
  have HB1 := Lib.hid hb1
  obtain ⟨A1, c1, rfl⟩ := Kd.R_slice ho1
  obtain ⟨n, hn⟩ : ∃ n, n = l0.length := ⟨_, rfl⟩
  rw [← hn] at HO1 hc0 hs ⊢
  have HL := Lib.hid hn.symm
  have hl1 : l0.length + 1 ≤ 140737488355328 := by omega
  clear hn ho1 hb1
  go_wp2_with (at_builtin; refine app_one HO1.out HB1.out hl1 rfl rfl rfl rfl ?_)
  intro v2 w2 ho2 hb2 _ _
  have HO2 := Lib.hid ho2
  have HB2 := Lib.hid hb2
  clear ho2 hb2 HO1 HB1 hl1
  obtain ⟨pz, hpz⟩ : ∃ pz, pz = padZ n := ⟨_, rfl⟩
  have hz64 : pz < 64 ∧ (n + 1 + pz) % 64 = 56 ∧ ∀ z, z < pz → (n + 1 + z) % 64 ≠ 56 := by
    rw [hpz]
    unfold padZ
    refine ⟨by omega, by omega, fun z hz => by omega⟩
  have HPZ := Lib.hid hpz
  clear hpz
  go_wp2
  go_loopw [3] (fun v wr => ∃ (z : Nat) (A : Option Addr) (c : Nat), z ≤ pz ∧ v = .slice A (n + 1 + z) c ∧ Hid (Own w wr v (l0 ++ 128 :: List.replicate z 0)) ∧ Hid (Below w.heap.size w wr)) (fun v _ => n + 70 - slenB v)
  case atStart =>
    obtain ⟨A2, c2, h2, _, _⟩ := HO2.out.reads
    refine ⟨0, A2, c2, by omega, ?_, Lib.hid (HO2.out.cast (by simp)), HB2⟩
    rw [h2, List.length_append, HL.out]
    rfl
  case round =>
    obtain ⟨z, A, c, hz, rfl, HO, HB⟩ := hrel
    obtain ⟨q, hq⟩ : ∃ q, q = n + 1 + z := ⟨_, rfl⟩
    rw [← hq] at HO ⊢
    by_cases hzp : z < pz
    · have hne := hz64.2.2 z hzp
      rw [← hq] at hne
      have d1 : ((q : Int) % 64 == 56) = false := beq_eq_false_iff_ne.2 (by omega)
      have d2 : ((q : Int) % 64 != 56) = true := by rw [bne, d1]; rfl
      have hL1 : (l0 ++ 128 :: List.replicate z 0).length + 1 ≤ 140737488355328 := by simp [HL.out]; omega
      have HZ3 := Lib.hid (show l0 ++ 128 :: List.replicate z 0 ++ [0] = l0 ++ 128 :: List.replicate (z + 1) 0 by simp [List.replicate_succ'])
      have HZL := Lib.hid (show (l0 ++ 128 :: List.replicate (z + 1) (0 : Int)).length = n + 1 + (z + 1) by simp [HL.out]; omega)
      have hqn : q < n + 70 := by omega
      have HQ := Lib.hid hq
      clear hne hq
      go_wp2_with (at_builtin; refine app_one HO.out HB.out hL1 rfl rfl rfl rfl ?_)
      intro v3 w3 ho3 hb3 _ _
      have HO3 := Lib.hid (ho3.cast (show _ = l0 ++ 128 :: List.replicate (z + 1) 0 by rw [← HZ3.out]; simp only [List.append_assoc, List.cons_append]))
      have HB3 := Lib.hid hb3
      clear ho3 hb3 HO HB
      obtain ⟨A3, c3, rfl, _, _⟩ := HO3.out.reads
      rw [HZL.out] at HO3 ⊢
      go_wp2
      go_roundw
      case rel => exact ⟨z + 1, A3, c3, by omega, by first | rfl | go_num, HO3, HB3⟩
      case measure => have := HQ.out; simp [slenB]; omega
    · obtain rfl : z = pz := by omega
      have hq6 : q % 64 = 56 := by rw [hq]; exact hz64.2.1
      have d1 : ((q : Int) % 64 == 56) = true := beq_iff_eq.2 (by omega)
      have d2 : ((q : Int) % 64 != 56) = false := by rw [bne, d1]; rfl
      have hu1 : IntKind.u64.wrap (n : Int) = n := u64_id (by omega) (by omega)
      have hu2 : IntKind.u64.wrap ((n : Int) * 8) = (n : Int) * 8 := u64_id (by omega) (by omega)
      have hh : (n : Int) * 8 / 4294967296 < 4294967296 := by omega
      have hu3 : IntKind.u32.wrap ((n : Int) * 8 / 4294967296) = (n : Int) * 8 / 4294967296 := by rw [IntKind.wrap_u32]; omega
      have hu4 : IntKind.u32.wrap ((n : Int) * 8) = (n : Int) * 8 % 4294967296 := by rw [IntKind.wrap_u32]
      have HL1 := Lib.hid (show (l0 ++ 128 :: List.replicate z (0 : Int)).length + 4 ≤ 140737488355328 by simp [HL.out]; omega)
      have HL2 := Lib.hid (show (l0 ++ 128 :: List.replicate z (0 : Int) ++ be4 ((n : Int) * 8 / 4294967296)).length + 4 ≤ 140737488355328 by simp [HL.out, be4]; omega)
      have HE := Lib.hid (show l0 ++ 128 :: List.replicate z (0 : Int) ++ be4 ((n : Int) * 8 / 4294967296) ++ be4 ((n : Int) * 8 % 4294967296) = padSha l0 by rw [padSha, HL.out, ← HPZ.out])
      clear hq6 hz64 hq
      go_wp2_with fail
      refine (laid_calls ((n : Int) * 8 / 4294967296) w _ _ _ HO.out HB.out HL1.out (by omega) hh).mono ?_
      rintro e w3 ⟨v3, rfl, ho3, hb3⟩
      have HO3 := Lib.hid ho3
      have HB3 := Lib.hid hb3
      obtain ⟨A3, c3, rfl, _, _⟩ := HO3.out.reads
      obtain ⟨m3, hm3⟩ : ∃ m3, m3 = (l0 ++ 128 :: List.replicate z (0 : Int) ++ be4 ((n : Int) * 8 / 4294967296)).length := ⟨_, rfl⟩
      rw [← hm3] at HO3 ⊢
      clear ho3 hb3 hm3
      go_wp2_with fail
      refine (laid_calls ((n : Int) * 8 % 4294967296) w _ _ _ HO3.out HB3.out HL2.out (by omega) (by omega)).mono ?_
      rintro e w4 ⟨v4, rfl, ho4, hb4⟩
      have HO4 := Lib.hid (ho4.cast HE.out)
      have HB4 := Lib.hid hb4
      clear ho4 hb4
      go_wp2
      go_ret
      exact ⟨_, rfl, HO4.out, HB4.out⟩
end Go.Proofs.YtcgenmogedndjaaDoor
