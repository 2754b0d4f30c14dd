/- The texts Base, QuietTail, Str, Clone, App, Bits, Ints, Rot, Padded, Words, Blk, ShaSpec, Sched, ShaMem, LaidRow, OpenStruct, Six, Letter, SpellLaw, Sec, Form, ShelfLen, Number, Text in one. -/
import Derived.Test.YtcgenmogedndjaaDoorProg
import Derived.Test.YtcgenmogedndjaaDoorWWords
import Derived.Test.YtcgenmogedndjaaDoorWMore
import Derived.Test.YtcgenmogedndjaaDoorRows
import Derived.WalkKit
import Derived.RowKit3
import Derived.RowKit
import Derived.KernelRfl
import Derived.Outline
import Derived.Lib.Hide
import Derived.Deep.LoopGhost
import Derived.WalkLawsBesides
import Derived.WalkSpells
import Derived.Deep.QuietTactic
import Derived.BigQuiet
import Derived.Deep.RegionHeld3
import Derived.Deep.RegionWith
import Derived.StillTailTactics
import Derived.StillTail
import Derived.Laws.BitsLemmas
import Derived.Laws.IdiomCopy
import Derived.ProofKit
import Derived.LaidMore
import Derived.OpenShut
import Derived.Stop.Joined
import Derived.Deep.SlicePairs
import Derived.Lib.SmallJoins
import Derived.Lib.BitFns
import Derived.Shelf.Strconv.Itoa0
namespace Go.Proofs.YtcgenmogedndjaaDoor
/-- A function iterated. -/
def iter {α : Type} (f : α → α) : Nat → α → α
  | 0, c => c
  | n + 1, c => iter f n (f c)
/-- Every number of a list is a byte. -/
def Bytes (l : List Int) : Prop := ∀ x ∈ l, 0 ≤ x ∧ x < 256
open Go.Proofs.YtcgenmogedndjaaDoorW.PrintWords in
theorem rd_get (l : List Int) (k : Nat) (hk : k < l.length) : rd l k = l[k] := by
  unfold rd
  simp [List.getD_eq_getElem?_getD, hk]
open Go.Proofs.YtcgenmogedndjaaDoorW.PrintWords in
theorem bytes_rd {l : List Int} (h : Bytes l) (k : Nat) (hk : k < l.length) : 0 ≤ rd l k ∧ rd l k < 256 := by
  rw [rd_get l k hk]
  exact h _ (List.getElem_mem hk)
open Go.Proofs.YtcgenmogedndjaaDoorW.PrintWords in
/-- A literal of the call's own, just laid. -/
theorem R_laid (W : World) (base : Nat) (e : TypeId) (k : IntKind) (xs : List Int) (hb : base ≤ W.heap.size) (hm : xs.length ≤ 9223372036854775807) :
    (Kd.int k).R e (W.alloc (.cells (nums k xs).toArray e)) base (fun _ => True) (.slice (some ⟨W.heap.size, 0, none⟩) xs.length xs.length) xs :=
  Kd.R_of_own (own_lit W base e k xs hb hm) (fun _ _ => trivial)
open Go.Proofs.YtcgenmogedndjaaDoorW.PrintWords in
/-- A row of bytes that lies in a block, whatever mark it bears, reads. -/
theorem C_const (W : World) (e : TypeId) (xs : List Int) (fr : Nat × Nat) (hm : xs.length ≤ 9223372036854775807) :
    (Kd.int .u8).C (W.alloc (.cells (nums .u8 xs).toArray e fr)) (some ⟨W.heap.size, 0, none⟩) xs.length xs := by
  refine Kd.C_of_reads (d := (0 : Int)) (h1 := fun _ => rfl) ⟨rfl, hm, fun _ => ⟨_, rfl, fun j hj => ?_⟩⟩
  rw [add_plain]
  have : (W.alloc (.cells (nums .u8 xs).toArray e fr)).heap[W.heap.size]? = some (.cells (nums .u8 xs).toArray e fr) := by
    show (W.heap.push _)[W.heap.size]? = _
    simp
  unfold World.cell?
  rw [this]
  simp [nums, List.getD_eq_getElem?_getD, hj]
end Go.Proofs.YtcgenmogedndjaaDoor
namespace Go.Proofs.YtcgenmogedndjaaDoor
open Go
section
variable {P : Program} {hd tl : List Oper} {C : World → Prop}
/-- The operations ahead ask for what stands ahead of them alone, and have no guard; those behind wait for each of them. -/
def headB (hd tl : List Oper) : Bool :=
  ((List.range hd.length).all fun i => match hd[i]? with
    | some o => o.guard.isNone && o.after.all fun e => decide (e.on < i)
    | none => false) &&
  tl.all fun o => (List.range hd.length).all fun i => o.after.any fun e => Region.binds .any e && e.on == i
theorem headB_head (h : headB hd tl = true) (i : Nat) (o : Oper) (hi : hd[i]? = some o) : o.guard = none ∧ ∀ e ∈ o.after, e.on < i := by
  unfold headB at h
  rw [Bool.and_eq_true] at h
  have h1 := List.all_eq_true.1 h.1 i (List.mem_range.2 (List.getElem?_eq_some_iff.1 hi).1)
  rw [hi] at h1
  simp only [Bool.and_eq_true, Option.isNone_iff_eq_none] at h1
  exact ⟨h1.1, fun e he => by simpa using Array.all_eq_true_iff_forall_mem.1 h1.2 e he⟩
theorem headB_tail (h : headB hd tl = true) (o : Oper) (ho : o ∈ tl) (i : Nat) (hi : i < hd.length) : ∃ e ∈ o.after, Region.binds .any e = true ∧ e.on = i := by
  unfold headB at h
  rw [Bool.and_eq_true] at h
  have h1 := List.all_eq_true.1 (List.all_eq_true.1 h.2 o ho) i (List.mem_range.2 hi)
  obtain ⟨e, he, hb⟩ := Array.any_eq_true'.1 h1
  rw [Bool.and_eq_true, beq_iff_eq] at hb
  exact ⟨e, he, hb.1, hb.2⟩
def falses (g : Nat) : Array Bool := Array.replicate g false
theorem getD_head (L : Array Bool) (g j : Nat) (d : Bool) (hj : j < L.size) : (L ++ falses g).getD j d = L.getD j d := by
  simp [falses, Array.getElem?_append, hj]
theorem set_head (L : Array Bool) (g i : Nat) (hi : i < L.size) : (L ++ falses g).setIfInBounds i true = L.setIfInBounds i true ++ falses g := by
  apply Array.ext_getElem?
  intro j
  by_cases hij : i = j
  · subst hij
    have h2 : i < (L ++ falses g).size := by simp; omega
    rw [Array.getElem?_setIfInBounds_self_of_lt h2, Array.getElem?_append, if_pos (by simpa using hi), Array.getElem?_setIfInBounds_self_of_lt hi]
  · rw [Array.getElem?_setIfInBounds_ne hij, Array.getElem?_append, Array.getElem?_append]
    simp only [Array.size_setIfInBounds, Array.getElem?_setIfInBounds_ne hij]
theorem wanted_none {o : Oper} (h : o.guard = none) (f : Nat → Option Bool) : Region.wanted o f = true := by
  unfold Region.wanted
  rw [h]
/-- While one of the head is open, what is ready is of the head. -/
theorem ready_head (hB : headB hd tl = true) (L : Array Bool) (hL : L.size = hd.length) (i0 : Nat) (hi0 : i0 < L.size) (h0 : L.getD i0 false = false) (j : Nat) :
    j ∈ Region.ready .any (hd ++ tl).toArray (L ++ falses tl.length) ↔ j ∈ Region.ready .any hd.toArray L := by
  rw [mem_ready, mem_ready]
  by_cases hj : j < hd.length
  · have e1 : (hd ++ tl).toArray[j]? = hd.toArray[j]? := by simp [List.getElem?_append_left hj]
    rw [getD_head _ _ _ _ (by omega), e1]
    refine and_congr_right fun _ => exists_congr fun o => and_congr_right fun ho => ?_
    have := (headB_head hB j o (by simpa using ho)).2
    refine forall_congr' fun e => forall_congr' fun he => ?_
    rw [getD_head _ _ _ _ (by have := this e he; omega)]
  · constructor
    · rintro ⟨h1, o, ho, hall⟩
      have hjt : j < hd.length + tl.length := by have := (Array.getElem?_eq_some_iff.1 ho).1; simpa using this
      have hmem : o ∈ tl := by
        have h2 : (hd ++ tl)[j]? = some o := by simpa using ho
        rw [List.getElem?_append_right (by omega)] at h2
        exact List.mem_of_getElem? h2
      obtain ⟨e, he, hb, hon⟩ := headB_tail hB o hmem i0 (by omega)
      have := hall e he hb
      rw [hon, getD_head _ _ _ _ hi0, h0] at this
      cases this
    · rintro ⟨_, o, ho, _⟩
      have := (Array.getElem?_eq_some_iff.1 ho).1
      exact absurd (by simpa using this) hj
theorem ready_one (hB : headB hd tl = true) (L : Array Bool) (hL : L.size = hd.length) : ∀ (i0 : Nat), i0 < L.size → L.getD i0 false = false → Region.ready .any hd.toArray L ≠ [] := by
  intro i0
  induction i0 using Nat.strongRecOn with
  | _ i0 ih =>
    intro hi0 h0 he
    have hlt : i0 < hd.length := by omega
    by_cases hr : i0 ∈ Region.ready .any hd.toArray L
    · rw [he] at hr; cases hr
    · refine hr (mem_ready.2 ⟨getD_in hi0 h0, hd[i0], by simp [hlt], fun e hem _ => ?_⟩)
      have hon := (headB_head hB i0 _ (by simp [hlt])).2 e hem
      cases hv : L.getD e.on false with
      | true => rfl
      | false => exact absurd he (ih e.on hon (by omega) hv)
theorem count_set (L : Array Bool) (i : Nat) (hi : i < L.size) (h0 : L.getD i true = false) : (L.setIfInBounds i true).toList.count false + 1 = L.toList.count false := by
  have h1 : L[i] = false := by simpa [hi] using h0
  rw [Array.toList_setIfInBounds]
  have hl : i < L.toList.length := by simpa using hi
  have h2 := List.count_set (a := true) (b := false) (h := hl)
  have h3 : L.toList[i] = false := by simpa using h1
  have h4 : 0 < L.toList.count false := List.count_pos_iff.2 (h3 ▸ List.getElem_mem hl)
  rw [h2, if_pos (by rw [h3]; rfl), if_neg (by decide)]
  omega
theorem tail_of_head (hB : headB hd tl = true) {Q1 : Act → Prop} {Q' : Exit → Act → World → Prop}
    (hQ : ∀ a w, C w → Q1 a → wpAny P .any (hd ++ tl).toArray Q' tl.length (Array.replicate hd.length true ++ falses tl.length) a w) :
    ∀ (f : Nat) (L : Array Bool) (a : Act) (w : World), C w → L.size = hd.length → L.toList.count false = f → wpAnyQ P .any hd.toArray C Q1 f L a →
      wpAny P .any (hd ++ tl).toArray Q' (f + tl.length) (L ++ falses tl.length) a w
  | 0, L, a, w, hw, hs, hc, h => by
    have hE : L = Array.replicate hd.length true := by
      have h1 : ∀ b ∈ L.toList, b = true := by
        intro b hb
        cases b with
        | true => rfl
        | false => exact absurd (List.count_pos_iff.2 hb) (by omega)
      apply Array.ext_getElem?
      intro j
      by_cases hj : j < L.size
      · have := h1 L[j] (by simp)
        simp [hj, this, ← hs]
      · simp [Array.getElem?_eq_none (Nat.le_of_not_lt hj)]
        omega
    rw [hE, Nat.zero_add]
    exact hQ a w hw h.2
  | f + 1, L, a, w, hw, hs, hc, h => by
    obtain ⟨i0, hi0, h0⟩ : ∃ i0, i0 < L.size ∧ L.getD i0 false = false := by
      have : false ∈ L.toList := List.count_pos_iff.1 (by omega)
      obtain ⟨i, hi, e⟩ := List.mem_iff_getElem.1 this
      have hi' : i < L.size := by simpa using hi
      exact ⟨i, hi', by simpa [hi'] using e⟩
    have hrd := ready_head (tl := tl) hB L hs i0 hi0 h0
    have hne := ready_one hB L hs i0 hi0 h0
    rw [show f + 1 + tl.length = (f + tl.length) + 1 by omega]
    refine ⟨fun he => ?_, fun i hi => ?_⟩
    · obtain ⟨j, hj⟩ := List.exists_mem_of_ne_nil _ hne
      have := (hrd j).2 hj
      rw [he] at this
      cases this
    · have hi' := (hrd i).1 hi
      obtain ⟨hu, o, ho, _⟩ := mem_ready.1 hi'
      have hin : i < hd.length := by have := (Array.getElem?_eq_some_iff.1 ho).1; simpa using this
      have hg := (headB_head hB i o (by simpa using ho)).1
      have hq := h.2 i hi'
      have ho2 : (hd ++ tl).toArray[i]? = some o := by rw [← ho]; simp [List.getElem?_append_left hin]
      have hq2 : qOp P (hd ++ tl).toArray C i (wpAnyQ P .any hd.toArray C Q1 f (L.setIfInBounds i true)) a := by
        unfold qOp at hq ⊢
        simp only [ho] at hq
        simp only [ho2]
        rw [wanted_none hg] at hq ⊢
        exact hq
      have hc' := count_set L i (by omega) hu
      rw [set_head L _ i (by omega)]
      exact wpOp_of_qOp hw (fun a' w' hw' h' => tail_of_head hB hQ f _ a' w' hw' (by simpa using hs) (by omega) h') hq2
/-- A region that draws its order: the head by one quiet walk, the tail in its order. -/
theorem wp_region_quiet_tail {id : Nat} {Q : Exit → Act → World → Prop} {a : Act} {w : World} (hd tl : List Oper) (hm : P.follows .mixedOrders = true) (hB : headB hd tl = true) (hH : Region.lexB .any hd.toArray = true)
    (hT : Region.seqB .any (hd ++ tl).toArray tl.length hd.length (Array.replicate hd.length true ++ falses tl.length) = true)
    (h : wpQuiet P hd.toArray (fun w' => ∃ n, w' = w.drewN n) (fun a' => ∀ w', (∃ n, w' = w.drewN n) → wpList P (hd ++ tl).toArray Q tl a' w') hd a) : (Code.region id (hd ++ tl).toArray true).wp P Q a w := by
  simp only [Region.lexB, Bool.and_eq_true] at hH
  have h1 := wpAnyQ_lex (P := P) (C := fun w' => ∃ n, w' = w.drewN n) (md := .any) hH.1 hd 0 (Array.replicate hd.length false) a (by simp) (by simpa using hH.2) h
  have h2 := tail_of_head (P := P) (C := fun w' => ∃ n, w' = w.drewN n) (Q' := Q) hB (fun a' w' hw' hq => wpAny_of_seq (md := .any) tl hd.length _ a' w' (fun j => by simp [List.getElem?_append_right]) hT (hq w' hw')) hd.length (Array.replicate hd.length false) a { w with drawn := w.drawn + 1 } ⟨1, rfl⟩ (by simp) (by simp) h1
  refine wp_region_any hm ?_
  have e : Array.replicate (hd ++ tl).toArray.size false = Array.replicate hd.length false ++ falses tl.length := by
    apply Array.ext_getElem?
    intro j
    simp [falses, Array.getElem?_replicate]
  rw [e, show (hd ++ tl).toArray.size = hd.length + tl.length by simp]
  exact h2
/-- The same for a region that is written out. -/
theorem wp_region_quiet_tail_at {id : Nat} {Q : Exit → Act → World → Prop} {a : Act} {w : World} {l : List Oper} (n : Nat) (hm : P.follows .mixedOrders = true) (hB : headB (l.take n) (l.drop n) = true) (hH : Region.lexB .any (l.take n).toArray = true)
    (hT : Region.seqB .any l.toArray (l.drop n).length (l.take n).length (Array.replicate (l.take n).length true ++ falses (l.drop n).length) = true)
    (h : wpQuiet P (l.take n).toArray (fun w' => ∃ n, w' = w.drewN n) (fun a' => ∀ w', (∃ n, w' = w.drewN n) → wpList P l.toArray Q (l.drop n) a' w') (l.take n) a) : (Code.region id l.toArray true).wp P Q a w := by
  have e := List.take_append_drop n l
  have := wp_region_quiet_tail (P := P) (id := id) (Q := Q) (a := a) (w := w) (l.take n) (l.drop n) hm hB hH
  rw [e] at this
  exact this hT h
end
end Go.Proofs.YtcgenmogedndjaaDoor
namespace Go.Proofs.YtcgenmogedndjaaDoor
open Go.RowKit Go.Proofs.YtcgenmogedndjaaDoorW.PrintWords
theorem bytes_strOf {l : List Int} (h : Bytes l) : bytesOf (strOfNums l) = l := by
  unfold bytesOf
  rw [strOfNums_data, List.map_map]
  conv => rhs; rw [← List.map_id l]
  refine List.map_congr_left fun x hx => ?_
  obtain ⟨h0, h1⟩ := h x hx
  simp only [Function.comp, id]
  rw [UInt8.toNat_ofNat_of_lt' (by show x.toNat < 256; omega)]
  omega
theorem strOf_bytes (s : ByteArray) : strOfNums (bytesOf s) = s := by
  apply Go.WideShapes.bytes_inj
  rw [strOfNums_data]
  unfold bytesOf
  rw [List.map_map]
  conv => rhs; rw [← List.map_id s.data.toList]
  refine List.map_congr_left fun b _ => ?_
  simp
theorem Bytes_bytesOf (s : ByteArray) : Bytes (bytesOf s) := by
  intro x hx
  unfold bytesOf at hx
  obtain ⟨b, _, rfl⟩ := List.mem_map.1 hx
  have := b.toNat_lt
  omega
theorem bytesOf_inj {s t : ByteArray} (h : bytesOf s = bytesOf t) : s = t := by
  rw [← strOf_bytes s, ← strOf_bytes t, h]
theorem toList_inj {s t : ByteArray} (h : s.toList = t.toList) : s = t := by
  rw [ByteArray.toList_eq, ByteArray.toList_eq] at h
  exact Go.WideShapes.bytes_inj h
theorem Bytes.nil : Bytes [] := fun _ h => by cases h
theorem Bytes.app {l m : List Int} (hl : Bytes l) (hm : Bytes m) : Bytes (l ++ m) := fun x hx => by
  rcases List.mem_append.1 hx with h | h
  · exact hl x h
  · exact hm x h
theorem Bytes.con {x : Int} {m : List Int} (h0 : 0 ≤ x) (h1 : x < 256) (hm : Bytes m) : Bytes (x :: m) := fun y hy => by
  rcases List.mem_cons.1 hy with rfl | h
  · exact ⟨h0, h1⟩
  · exact hm y h
theorem Bytes.tk {l : List Int} (hl : Bytes l) (n : Nat) : Bytes (l.take n) := fun x hx => hl x (List.mem_of_mem_take hx)
theorem Bytes.dp {l : List Int} (hl : Bytes l) (n : Nat) : Bytes (l.drop n) := fun x hx => hl x (List.mem_of_mem_drop hx)
end Go.Proofs.YtcgenmogedndjaaDoor
namespace Go.Proofs.YtcgenmogedndjaaDoor
open Go.RowKit Go.Proofs.YtcgenmogedndjaaDoorW.PrintWords
theorem info_u8 : (Tryd.prog.info? 5).map (fun i => (i.zero, i.size, i.bytes)) = some (some (.int .u8 0), 1, 1) := by kernel_rfl
def bytes_Clone.f (l0 : List Int) : Option (List Int) := if l0.length < 140737488355328 then some l0 else none
set_option maxHeartbeats 800000 in
theorem bytes_Clone.calls (A0 : Option Addr) (c0 : Nat) (l0 : List Int) (r : List Int) (w : World) (hr0 : Kd.C (Kd.int .u8) w A0 l0.length l0) (hc0 : l0.length ≤ c0) (h : bytes_Clone.f l0 = some r) :
    Calls Tryd.prog 26 #[.slice A0 l0.length c0] w fun e w' => ∃ v0_ : Value, e = .returned (v0_) ∧ Kd.R (Kd.int .u8) 5 w' w.heap.size (fun _ => True) v0_ r ∧ Below w.heap.size w w' := by
  unfold bytes_Clone.f at h
  split at h
  case isFalse => cases h
  rename_i hm0
  obtain rfl := Option.some.inj h
  clear h
  have HR := Lib.hid hr0
  cases A0 with
  | none =>
    have hl : l0 = [] := by
      rcases Nat.eq_zero_or_pos l0.length with h0 | h0
      · exact List.eq_nil_of_length_eq_zero h0
      · obtain ⟨ad, e, _⟩ := hr0.2.2 h0
        cases e
    clear HR hr0
    subst hl
    have e1 := fun (n c : Nat) (W : World) => Lib.run_eql_slice_nil (P := Tryd.prog) W 34 5 none n c 0 0 Tryd.underlying34
    go_enter Tryd.func26, Tryd.ntmps26
    go_wp2
    go_ret
    exact ⟨_, rfl, Kd.R_nil _ _ _ _ _, Below.refl _ _⟩
  | some a =>
    clear hr0
    have e1 := fun (n c : Nat) (W : World) => Lib.run_eql_slice_nil (P := Tryd.prog) W 34 5 (some a) n c 0 0 Tryd.underlying34
    go_enter Tryd.func26, Tryd.ntmps26
    go_wp2_with (at_builtin; refine Kd.R_append_rows (Kd.int .u8) (w0 := w) w.heap.size rfl (.tmp 5) (.tmp 6) 34 5 (.int .u8 0) 1 rfl Tryd.underlying34 info_u8 rfl (by decide) (by omega) _ [] l0 _ _ _ (fun _ => True) (fun _ => False) rfl rfl ?aO ?aR (fun _ _ h => h) (fun _ h => h.elim) ?aF ?aB ?aS ?aL ?_)
    case aO => exact R_laid w _ _ _ [] (Nat.le_refl _) (by simp)
    case aR => exact Kd.C_alloc HR.out _
    case aF => exact fun _ _ => trivial
    case aB => exact below_alloc (Below.refl _ _) _
    case aS => simp
    case aL => simp; omega
    intro v1 w1 ho hb _ _
    go_wp2
    go_ret
    exact ⟨_, rfl, ho, hb⟩
end Go.Proofs.YtcgenmogedndjaaDoor
namespace Go.Proofs.YtcgenmogedndjaaDoor
open Go.RowKit Go.Proofs.YtcgenmogedndjaaDoorW.PrintWords
/-- A row of bytes of the call's own: whatever block it lies in, if it is younger than the call. -/
abbrev Own (w0 w : World) (v : Value) (l : List Int) : Prop := Kd.R (Kd.int .u8) 5 w w0.heap.size (fun _ => True) v l
abbrev Rd (w : World) (A : Option Addr) (n : Nat) (l : List Int) : Prop := Kd.C (Kd.int .u8) w A n l
theorem Rd.cells {w : World} {A : Option Addr} {n : Nat} {l : List Int} (h : Rd w A n l) (hn : 0 < n) : ∃ ad, A = some ad ∧ ∀ j, j < n → w.cell? (ad.add j) = some (.int .u8 (rd l j)) := by
  obtain ⟨ad, rfl, _⟩ := Kd.at_int h 0 (by omega) (by omega)
  refine ⟨ad, rfl, fun j hj => ?_⟩
  obtain ⟨ad', e, hx⟩ := Kd.at_int h j (by omega) (by omega)
  cases e
  exact hx
theorem Rd.mk {w : World} {a : Addr} {n : Nat} {l : List Int} (hl : l.length = n) (hm : n ≤ 9223372036854775807) (h : ∀ j, j < n → w.cell? (a.add j) = some (.int .u8 (rd l j))) : Rd w (some a) n l :=
  Kd.C_of_reads (d := (0 : Int)) (h1 := fun _ => rfl) ⟨hl, hm, fun _ => ⟨a, rfl, fun j hj => h j hj⟩⟩
theorem Rd.isNil {w : World} {n : Nat} {l : List Int} (h : Rd w none n l) : n = 0 ∧ l = [] := by
  rcases Nat.eq_zero_or_pos n with h0 | h0
  · exact ⟨h0, List.eq_nil_of_length_eq_zero (by rw [Kd.C_len h, h0])⟩
  · obtain ⟨ad, e, _⟩ := Rd.cells h h0
    cases e
theorem Rd.empty (w : World) (A : Option Addr) : Rd w A 0 [] := by
  cases A with
  | none => exact Kd.C_nil _ _
  | some a => exact Rd.mk rfl (by omega) (fun j hj => by omega)
theorem rd_mid (l : List Int) (lo hi j : Nat) (h : lo + j < hi) : rd ((l.take hi).drop lo) j = rd l ((lo + j : Nat) : Int) := by
  unfold rd
  simp only [Int.toNat_natCast, List.getD_eq_getElem?_getD, List.getElem?_drop, List.getElem?_take]
  rw [if_pos h]
/-- A cut out of the middle. -/
theorem Rd.mid {w : World} {ad x : Addr} {n : Nat} {l : List Int} (h : Rd w (some ad) n l) (lo hi : Nat) (h1 : lo ≤ hi) (h2 : hi ≤ n) (hx : lo < hi → x = ad.add lo) : Rd w (some x) (hi - lo) ((l.take hi).drop lo) := by
  have hl := Kd.C_len h
  have hm := Kd.C_max h
  refine Rd.mk (by simp; omega) (by omega) fun j hj => ?_
  obtain ⟨ad', e, hc⟩ := Rd.cells h (by omega)
  cases e
  rw [hx (by omega), add_add, rd_mid l lo hi j (by omega)]
  exact hc (lo + j) (by omega)
theorem Own.cast {w0 w : World} {v : Value} {l m : List Int} (h : Own w0 w v l) (he : l = m) : Own w0 w v m := he ▸ h
theorem Own.nil (w0 w : World) : Own w0 w (.slice none 0 0) [] := Kd.R_nil _ _ _ _ _
theorem Own.reads {w0 w : World} {v : Value} {l : List Int} (h : Own w0 w v l) : ∃ A c, v = .slice A l.length c ∧ l.length ≤ c ∧ Rd w A l.length l := by
  obtain ⟨A, c, rfl⟩ := Kd.R_slice h
  exact ⟨A, c, rfl, (Kd.R_reads' h).2.1, (Kd.R_reads' h).2.2⟩
theorem Own.below {w0 w w1 : World} {v : Value} {l : List Int} (h : Own w0 w v l) (hb : Below w.heap.size w w1) : Own w0 w1 v l := Kd.R_below h hb
theorem Own.cell {w0 w : World} {g n cap : Nat} {l : List Int} (h : Own w0 w (.slice (some ⟨g, 0, none⟩) n cap) l) (i : Nat) (hi : i < n) : w.cell? ⟨g, i, none⟩ = some (.int .u8 (rd l i)) ∧ w.frozen? ⟨g, i, none⟩ = false :=
  Kd.R_celln (0 : Int) h (i : Int) (by omega) (by omega)
theorem Own.put {w0 w : World} {g n cap : Nat} {l : List Int} (h : Own w0 w (.slice (some ⟨g, 0, none⟩) n cap) l) (i : Nat) (x : Int) : Own w0 (w.setCell ⟨g, i, none⟩ (.int .u8 x)) (.slice (some ⟨g, 0, none⟩) n cap) (l.set i x) :=
  Kd.R_putn h (i : Int) x
theorem Own.far {w0 w : World} {v : Value} {l : List Int} (h : Own w0 w v l) {p : Addr} (hne : some p.block ≠ v.ownBlock) (u : Value) : Own w0 (w.setCell p u) v l := Kd.R_drop (Kd.R_far (Kd.R_far1 h rfl hne) (fun _ hk => hk.2) u)
theorem Own.lt {w0 w : World} {v : Value} {l : List Int} (h : Own w0 w v l) : ∀ k, v.ownBlock = some k → k < w.heap.size := Kd.R_lt h
theorem Own.ge {w0 w : World} {v : Value} {l : List Int} (h : Own w0 w v l) : ∀ k, v.ownBlock = some k → w0.heap.size ≤ k := Kd.R_base h
theorem Own.lower {w0 w1 w : World} {v : Value} {l : List Int} (h : Own w1 w v l) (hs : w0.heap.size ≤ w1.heap.size) : Own w0 w v l := Kd.R_lower h hs
section
variable {ops : Array Oper} {rest : List Oper} {o : Oper} {a : Act} {Q : Exit → Act → World → Prop} {w0 W : World} {v : Value} {l ys : List Int} {A : Option Addr} {m c : Nat} {s x : Operand}
theorem app_row (hO : Own w0 W v l) (hR : Rd W A m ys) (hB : Below w0.heap.size w0 W) (hL : l.length + m ≤ 140737488355328)
    (hgd : o.guard = none) (hop : o.op = .call { callee := .builtin .append, args := #[s, x], argTypes := #[34, 34] }) (hv : a.eval s = v) (hx : a.eval x = .slice A m c)
    (K : ∀ v1 w1, Own w0 w1 v1 (l ++ ys) → Below w0.heap.size w0 w1 → W.grownBy w1 v.ownBlock → (v1.ownBlock = v.ownBlock ∨ ∃ b, v1.ownBlock = some b ∧ W.heap.size ≤ b) → wpList Tryd.prog ops Q rest (a.put o.dst v1) w1) : wpList Tryd.prog ops Q (o :: rest) a W :=
  Kd.R_append_rows (Kd.int .u8) (w0 := w0) w0.heap.size hgd s x 34 5 (.int .u8 0) 1 hop Tryd.underlying34 info_u8 rfl (by decide) (by omega) v l ys A m c (fun _ => True) (fun _ => False) hv hx hO hR (fun _ _ h => h) (fun _ h => h.elim) (fun _ _ => trivial) hB hB.size (by omega) K
theorem app_one {p : Int} (hO : Own w0 W v l) (hB : Below w0.heap.size w0 W) (hL : l.length + 1 ≤ 140737488355328)
    (hgd : o.guard = none) (hop : o.op = .call { callee := .builtin .append, args := #[s, x], argTypes := #[34, 34] }) (hv : a.eval s = v) (hx : a.eval x = .slice (some ⟨W.heap.size, 0, none⟩) 1 1)
    (K : ∀ v1 w1, Own w0 w1 v1 (l ++ [p]) → Below w0.heap.size w0 w1 → W.grownBy w1 v.ownBlock → (v1.ownBlock = v.ownBlock ∨ ∃ b, v1.ownBlock = some b ∧ W.heap.size ≤ b) → wpList Tryd.prog ops Q rest (a.put o.dst v1) w1) : wpList Tryd.prog ops Q (o :: rest) a (W.alloc (.cells #[.int .u8 p] 5)) :=
  Kd.R_append (Kd.int .u8) (w0 := w0) w0.heap.size hgd s x 34 5 (.int .u8 0) 1 hop Tryd.underlying34 info_u8 rfl (by decide) (by omega) v l p [.int .u8 p] (fun _ => True) (fun _ => False) hv hx rfl (fun _ hk => hk.elim) (fun _ _ => trivial) hO hB hB.size (by omega) K
theorem app_str {y : ByteArray} (hO : Own w0 W v l) (hB : Below w0.heap.size w0 W) (hL : l.length + y.size ≤ 140737488355328)
    (hgd : o.guard = none) (hop : o.op = .call { callee := .builtin .append, args := #[s, x], argTypes := #[34, 9] }) (hv : a.eval s = v) (hx : a.eval x = .string y)
    (K : ∀ v1 w1, Own w0 w1 v1 (l ++ bytesOf y) → Below w0.heap.size w0 w1 → W.grownBy w1 v.ownBlock → wpList Tryd.prog ops Q rest (a.put o.dst v1) w1) : wpList Tryd.prog ops Q (o :: rest) a W :=
  print_append_str (w0 := w0) w0.heap.size hgd s x 34 9 5 hop Tryd.underlying34 Tryd.underlying9 info_u8 v l y hv hx (Kd.own_of_R hO) hB hB.size hL (fun v1 w1 h1 h2 h3 => K v1 w1 (Kd.R_of_own h1 (fun _ _ => trivial)) h2 h3)
end
end Go.Proofs.YtcgenmogedndjaaDoor
namespace Go.Proofs.YtcgenmogedndjaaDoor
open Go.RowKit
theorem wraps_u32 (n : Int) (h₀ : 0 ≤ n) (h₁ : n < 2 ^ 32) : IntKind.u32.wrap n = n := by rw [IntKind.wrap_u32]; omega
theorem wraps_i64 (n : Int) (h₀ : 0 ≤ n) (h₁ : n < 2 ^ 63) : IntKind.i64.wrap n = n := by rw [IntKind.wrap_i64]; omega
theorem bits_xor_nat (k : IntKind) (j : Nat) (hj : j ≤ k.bits) (hk : ∀ n : Int, 0 ≤ n → n < 2 ^ j → k.wrap n = n) (a b : Nat) (ha : a < 2 ^ j) (hb : b < 2 ^ j) :
    bits .xor k a b = ((a ^^^ b : Nat) : Int) := by
  have hp : 2 ^ j ≤ 2 ^ k.bits := Nat.pow_le_pow_right (by decide) hj
  have ha' : a % 2 ^ k.bits = a := Nat.mod_eq_of_lt (Nat.lt_of_lt_of_le ha hp)
  have hb' : b % 2 ^ k.bits = b := Nat.mod_eq_of_lt (Nat.lt_of_lt_of_le hb hp)
  have cast : ∀ n : Nat, n < 2 ^ j → ((n : Nat) : Int) < 2 ^ j := fun n h => by exact_mod_cast h
  simp only [bits, BitVec.ofInt_natCast, BitVec.toNat_xor, BitVec.toNat_ofNat, ha', hb']
  exact hk _ (Int.natCast_nonneg _) (cast _ (Nat.xor_lt_two_pow ha hb))
theorem xor_u32 (a b : Nat) (ha : a < 4294967296) (hb : b < 4294967296) : bits .xor .u32 a b = ((a ^^^ b : Nat) : Int) := bits_xor_nat .u32 32 (by decide) wraps_u32 a b ha hb
theorem xor_u8 (a b : Nat) (ha : a < 256) (hb : b < 256) : bits .xor .u8 a b = ((a ^^^ b : Nat) : Int) := bits_xor_nat .u8 8 (by decide) wraps_u8 a b ha hb
theorem or_u8 (a b : Nat) (ha : a < 256) (hb : b < 256) : bits .or .u8 a b = ((a ||| b : Nat) : Int) := (bits_nat .u8 8 (by decide) wraps_u8 a b ha hb).2
theorem and_i64 (a b : Nat) (ha : a < 9223372036854775808) (hb : b < 9223372036854775808) : bits .and .i64 a b = ((a &&& b : Nat) : Int) := (bits_nat .i64 63 (by decide) wraps_i64 a b ha hb).1
end Go.Proofs.YtcgenmogedndjaaDoor
namespace Go.Proofs.YtcgenmogedndjaaDoor
theorem u64_wrap (x : Int) : IntKind.u64.wrap x = x % 18446744073709551616 := by simp [IntKind.wrap, IntKind.bits, IntKind.signed]
theorem u64_wrap_range (x : Int) : 0 ≤ IntKind.u64.wrap x ∧ IntKind.u64.wrap x < 18446744073709551616 := by rw [u64_wrap]; omega
theorem u64_id {x : Int} (h0 : 0 ≤ x) (h1 : x < 18446744073709551616) : IntKind.u64.wrap x = x := by rw [u64_wrap]; omega
end Go.Proofs.YtcgenmogedndjaaDoor
namespace Go.Proofs.YtcgenmogedndjaaDoor
open Go.RowKit Go.Proofs.YtcgenmogedndjaaDoorW.PrintWords
/-- A word turned left. -/
def rotl (x : Int) (s : Nat) : Int := x * 2 ^ s % 4294967296 + x / 2 ^ (32 - s)
theorem rotl_range (x : Int) (x0 : 0 ≤ x) (x1 : x < 4294967296) (s : Nat) (hs : s < 32) : 0 ≤ rotl x s ∧ rotl x s < 4294967296 := by
  have hp : (2 : Int) ^ s * 2 ^ (32 - s) = 4294967296 := by rw [← Int.pow_add, show s + (32 - s) = 32 by omega]; rfl
  have hs0 : (0 : Int) < 2 ^ s := Int.pow_pos (by decide)
  have ht0 : (0 : Int) < 2 ^ (32 - s) := Int.pow_pos (by decide)
  have h1 : x / 2 ^ (32 - s) < 2 ^ s := Int.ediv_lt_of_lt_mul ht0 (by rw [hp]; exact x1)
  have h2 : 0 ≤ x / 2 ^ (32 - s) := Int.ediv_nonneg x0 (Int.le_of_lt ht0)
  have h3 : x * 2 ^ s % 4294967296 = (x % 2 ^ (32 - s)) * 2 ^ s := by
    rw [← hp, Int.mul_comm x, Int.mul_emod_mul_of_pos _ _ hs0, Int.mul_comm]
  unfold rotl
  rw [h3]
  have h4 : 0 ≤ x % 2 ^ (32 - s) := Int.emod_nonneg _ (by omega)
  have h5 : x % 2 ^ (32 - s) < 2 ^ (32 - s) := Int.emod_lt_of_pos _ ht0
  have h6 : (x % 2 ^ (32 - s)) * 2 ^ s ≤ (2 ^ (32 - s) - 1) * 2 ^ s := Int.mul_le_mul_of_nonneg_right (by omega) (Int.le_of_lt hs0)
  have h7 : (2 ^ (32 - s) - 1 : Int) * 2 ^ s = 4294967296 - 2 ^ s := by rw [Int.sub_mul, Int.mul_comm, hp, Int.one_mul]
  have h8 : 0 ≤ (x % 2 ^ (32 - s)) * 2 ^ s := Int.mul_nonneg h4 (Int.le_of_lt hs0)
  omega
theorem rotl_or (x : Int) (x0 : 0 ≤ x) (x1 : x < 4294967296) (s : Nat) (hs : s < 32) : bits .or .u32 (x * 2 ^ s % 4294967296) (x / 2 ^ (32 - s)) = rotl x s := by
  have hp : (2 : Int) ^ s * 2 ^ (32 - s) = 4294967296 := by rw [← Int.pow_add, show s + (32 - s) = 32 by omega]; rfl
  have hs0 : (0 : Int) < 2 ^ s := Int.pow_pos (by decide)
  have ht0 : (0 : Int) < 2 ^ (32 - s) := Int.pow_pos (by decide)
  have h1 : x / 2 ^ (32 - s) < 2 ^ s := Int.ediv_lt_of_lt_mul ht0 (by rw [hp]; exact x1)
  have h2 : 0 ≤ x / 2 ^ (32 - s) := Int.ediv_nonneg x0 (Int.le_of_lt ht0)
  have h3 : x * 2 ^ s % 4294967296 = (x % 2 ^ (32 - s)) * 2 ^ s := by
    rw [← hp, Int.mul_comm x, Int.mul_emod_mul_of_pos _ _ hs0, Int.mul_comm]
  have hr := rotl_range x x0 x1 s hs
  have h8 : 0 ≤ x * 2 ^ s % 4294967296 ∧ x * 2 ^ s % 4294967296 < 4294967296 := ⟨Int.emod_nonneg _ (by decide), Int.emod_lt_of_pos _ (by decide)⟩
  exact bits_join .u32 32 (by decide) wraps_u32 s (x * 2 ^ s % 4294967296) (x / 2 ^ (32 - s)) h8.1 (by rw [h3]; exact Int.mul_emod_left _ _) h8.2 h2 h1 (by unfold rotl at hr; omega)
theorem and_31 (k : Int) : bits .and .u64 (IntKind.u64.wrap k) 31 = k % 32 := by
  have hr := u64_wrap_range k
  rw [u64_wrap] at hr ⊢
  obtain ⟨a, ha⟩ := Int.eq_ofNat_of_zero_le hr.1
  rw [ha]
  have h := (bits_nat .u64 64 (by decide) (fun n h₀ h₁ => by rw [IntKind.wrap_u64]; omega) a 31 (by omega) (by omega)).1
  have e : a &&& 31 = a % 32 := Nat.and_two_pow_sub_one_eq_mod a 5
  rw [e] at h
  exact h.trans (by omega)
set_option maxHeartbeats 800000 in
theorem rot_calls (x k : Int) (w : World) (x0 : 0 ≤ x) (x1 : x < 4294967296) (s : Nat) (hs : s < 32) (hk : k % 32 = s) :
    Calls Tryd.prog 70 #[.int .u32 x, .int .i64 k] w fun e w' => e = .returned (.int .u32 (rotl x s)) ∧ Drawn0 w w' := by
  have hA : bits .and .u64 (IntKind.u64.wrap k) 31 = s := by rw [and_31, hk]
  have hB : IntKind.u64.wrap (32 - (s : Int)) = 32 - s := u64_id (by omega) (by omega)
  have hC : IntKind.u32.wrap (x * 2 ^ min s 32) = x * 2 ^ s % 4294967296 := by rw [Nat.min_eq_left (by omega), IntKind.wrap_u32]
  have hD : x / 2 ^ min (32 - (s : Int)).toNat 32 = x / 2 ^ (32 - s) := by rw [show (32 - (s : Int)).toNat = 32 - s by omega, Nat.min_eq_left (by omega)]
  have hO := rotl_or x x0 x1 s hs
  have hs1 : (0 : Int) ≤ 32 - (s : Int) := by omega
  clear hk x0 x1
  go_enter Tryd.func70, Tryd.ntmps70
  go_wp2
  go_ret
  exact ⟨rfl, Drawn0.refl _⟩
end Go.Proofs.YtcgenmogedndjaaDoor
namespace Go.Proofs.YtcgenmogedndjaaDoor
open Go.RowKit Go.Proofs.YtcgenmogedndjaaDoorW.PrintWords
/-- A word's bytes, the highest first. -/
def be4 (x : Int) : List Int := [x / 16777216 % 256, x / 65536 % 256, x / 256 % 256, x % 256]
/-- Noughts up to 56 behind the last 64. -/
def padZ (m : Nat) : Nat := (119 - m % 64) % 64
/-- How long a slice is. -/
def slenB : Value → Nat
  | .slice _ m _ => m
  | _ => 0
def padSha (l : List Int) : List Int := l ++ 128 :: List.replicate (padZ l.length) 0 ++ be4 ((l.length : Int) * 8 / 4294967296) ++ be4 ((l.length : Int) * 8 % 4294967296)
theorem padSha_length (l : List Int) : (padSha l).length = l.length + 1 + padZ l.length + 8 := by simp [padSha, be4]; omega
theorem padSha_mod (l : List Int) : (padSha l).length % 64 = 0 := by rw [padSha_length]; unfold padZ; omega
set_option maxHeartbeats 400000 in
theorem laid_calls (x : Int) (w0 w : World) (v : Value) (l : List Int) (hO : Own w0 w v l) (hB : Below w0.heap.size w0 w) (hl : l.length + 4 ≤ 140737488355328) (_x0 : 0 ≤ x) (_x1 : x < 4294967296) :
    Calls Tryd.prog 72 #[v, .int .u32 x] w fun e w' => ∃ v', e = .returned v' ∧ Own w0 w' v' (l ++ be4 x) ∧ Below w0.heap.size w0 w' := by
  have HO := Lib.hid hO
  have HB := Lib.hid hB
  have h1 : IntKind.u8.wrap (x / 16777216) = x / 16777216 % 256 := by rw [IntKind.wrap_u8]
  have h2 : IntKind.u8.wrap (x / 65536) = x / 65536 % 256 := by rw [IntKind.wrap_u8]
  have h3 : IntKind.u8.wrap (x / 256) = x / 256 % 256 := by rw [IntKind.wrap_u8]
  have h4 : IntKind.u8.wrap x = x % 256 := by rw [IntKind.wrap_u8]
  obtain ⟨A, c, rfl⟩ := Kd.R_slice hO
  clear hO hB
  go_enter Tryd.func72, Tryd.ntmps72
  go_wp2_with (at_builtin; refine app_row (Kd.R_alloc HO.out _) (C_const _ _ [x / 16777216 % 256, x / 65536 % 256, x / 256 % 256, x % 256] (0, 0) (by simp)) (below_alloc HB.out _) (by simp only [List.length_cons, List.length_nil]; omega) rfl rfl rfl rfl ?_)
  intro v3 w3 ho3 hb3 _ _
  have HO3 := Lib.hid ho3
  have HB3 := Lib.hid hb3
  clear ho3 hb3
  go_wp2
  go_ret
  exact ⟨_, rfl, HO3.out.cast (by simp [be4]), HB3.out⟩
set_option maxHeartbeats 800000 in
theorem padded_calls {n : Nat} (A0 : Option Addr) (c0 : Nat) (l0 : List Int) (w : World) (hr0 : Rd w A0 n l0) (hc0 : n ≤ c0) (hs : n ≤ 1099511627776) :
    Calls Tryd.prog 67 #[.slice A0 n c0] w fun e w' => ∃ v', e = .returned v' ∧ Own w w' v' (padSha l0) ∧ Below w.heap.size w w' := by
  obtain rfl : n = l0.length := (Kd.C_len hr0).symm
  have HR := Lib.hid hr0
  clear hr0
  go_enter Tryd.func67, Tryd.ntmps67
  go_wp2_with fail
  refine (bytes_Clone.calls A0 c0 l0 l0 _ HR.out hc0 (if_pos (by omega))).mono ?_
  rintro e w1 ⟨v1, rfl, ho1, hb1⟩
  replace ho1 : Own w w1 v1 l0 := ho1
  have HO1 := Lib.hid ho1
  have HB1 := Lib.hid hb1
  obtain ⟨A1, c1, rfl⟩ := Kd.R_slice ho1
  obtain ⟨n, hn⟩ : ∃ n, n = l0.length := ⟨_, rfl⟩
  rw [← hn] at HO1 hc0 hs ⊢
  have HL := Lib.hid hn.symm
  have hl1 : l0.length + 1 ≤ 140737488355328 := by omega
  clear hn ho1 hb1
  go_wp2_with (at_builtin; refine app_one HO1.out HB1.out hl1 rfl rfl rfl rfl ?_)
  intro v2 w2 ho2 hb2 _ _
  have HO2 := Lib.hid ho2
  have HB2 := Lib.hid hb2
  clear ho2 hb2 HO1 HB1 hl1
  obtain ⟨pz, hpz⟩ : ∃ pz, pz = padZ n := ⟨_, rfl⟩
  have hz64 : pz < 64 ∧ (n + 1 + pz) % 64 = 56 ∧ ∀ z, z < pz → (n + 1 + z) % 64 ≠ 56 := by
    rw [hpz]
    unfold padZ
    refine ⟨by omega, by omega, fun z hz => by omega⟩
  have HPZ := Lib.hid hpz
  clear hpz
  go_wp2
  go_loopw [3] (fun v wr => ∃ (z : Nat) (A : Option Addr) (c : Nat), z ≤ pz ∧ v = .slice A (n + 1 + z) c ∧ Hid (Own w wr v (l0 ++ 128 :: List.replicate z 0)) ∧ Hid (Below w.heap.size w wr)) (fun v _ => n + 70 - slenB v)
  case atStart =>
    obtain ⟨A2, c2, h2, _, _⟩ := HO2.out.reads
    refine ⟨0, A2, c2, by omega, ?_, Lib.hid (HO2.out.cast (by simp)), HB2⟩
    rw [h2, List.length_append, HL.out]
    rfl
  case round =>
    obtain ⟨z, A, c, hz, rfl, HO, HB⟩ := hrel
    obtain ⟨q, hq⟩ : ∃ q, q = n + 1 + z := ⟨_, rfl⟩
    rw [← hq] at HO ⊢
    by_cases hzp : z < pz
    · have hne := hz64.2.2 z hzp
      rw [← hq] at hne
      have d1 : ((q : Int) % 64 == 56) = false := beq_eq_false_iff_ne.2 (by omega)
      have d2 : ((q : Int) % 64 != 56) = true := by rw [bne, d1]; rfl
      have hL1 : (l0 ++ 128 :: List.replicate z 0).length + 1 ≤ 140737488355328 := by simp [HL.out]; omega
      have HZ3 := Lib.hid (show l0 ++ 128 :: List.replicate z 0 ++ [0] = l0 ++ 128 :: List.replicate (z + 1) 0 by simp [List.replicate_succ'])
      have HZL := Lib.hid (show (l0 ++ 128 :: List.replicate (z + 1) (0 : Int)).length = n + 1 + (z + 1) by simp [HL.out]; omega)
      have hqn : q < n + 70 := by omega
      have HQ := Lib.hid hq
      clear hne hq
      go_wp2_with (at_builtin; refine app_one HO.out HB.out hL1 rfl rfl rfl rfl ?_)
      intro v3 w3 ho3 hb3 _ _
      have HO3 := Lib.hid (ho3.cast (show _ = l0 ++ 128 :: List.replicate (z + 1) 0 by rw [← HZ3.out]; simp only [List.append_assoc, List.cons_append]))
      have HB3 := Lib.hid hb3
      clear ho3 hb3 HO HB
      obtain ⟨A3, c3, rfl, _, _⟩ := HO3.out.reads
      rw [HZL.out] at HO3 ⊢
      go_wp2
      go_roundw
      case rel => exact ⟨z + 1, A3, c3, by omega, by first | rfl | go_num, HO3, HB3⟩
      case measure => have := HQ.out; simp [slenB]; omega
    · obtain rfl : z = pz := by omega
      have hq6 : q % 64 = 56 := by rw [hq]; exact hz64.2.1
      have d1 : ((q : Int) % 64 == 56) = true := beq_iff_eq.2 (by omega)
      have d2 : ((q : Int) % 64 != 56) = false := by rw [bne, d1]; rfl
      have hu1 : IntKind.u64.wrap (n : Int) = n := u64_id (by omega) (by omega)
      have hu2 : IntKind.u64.wrap ((n : Int) * 8) = (n : Int) * 8 := u64_id (by omega) (by omega)
      have hh : (n : Int) * 8 / 4294967296 < 4294967296 := by omega
      have hu3 : IntKind.u32.wrap ((n : Int) * 8 / 4294967296) = (n : Int) * 8 / 4294967296 := by rw [IntKind.wrap_u32]; omega
      have hu4 : IntKind.u32.wrap ((n : Int) * 8) = (n : Int) * 8 % 4294967296 := by rw [IntKind.wrap_u32]
      have HL1 := Lib.hid (show (l0 ++ 128 :: List.replicate z (0 : Int)).length + 4 ≤ 140737488355328 by simp [HL.out]; omega)
      have HL2 := Lib.hid (show (l0 ++ 128 :: List.replicate z (0 : Int) ++ be4 ((n : Int) * 8 / 4294967296)).length + 4 ≤ 140737488355328 by simp [HL.out, be4]; omega)
      have HE := Lib.hid (show l0 ++ 128 :: List.replicate z (0 : Int) ++ be4 ((n : Int) * 8 / 4294967296) ++ be4 ((n : Int) * 8 % 4294967296) = padSha l0 by rw [padSha, HL.out, ← HPZ.out])
      clear hq6 hz64 hq
      go_wp2_with fail
      refine (laid_calls ((n : Int) * 8 / 4294967296) w _ _ _ HO.out HB.out HL1.out (by omega) hh).mono ?_
      rintro e w3 ⟨v3, rfl, ho3, hb3⟩
      have HO3 := Lib.hid ho3
      have HB3 := Lib.hid hb3
      obtain ⟨A3, c3, rfl, _, _⟩ := HO3.out.reads
      obtain ⟨m3, hm3⟩ : ∃ m3, m3 = (l0 ++ 128 :: List.replicate z (0 : Int) ++ be4 ((n : Int) * 8 / 4294967296)).length := ⟨_, rfl⟩
      rw [← hm3] at HO3 ⊢
      clear ho3 hb3 hm3
      go_wp2_with fail
      refine (laid_calls ((n : Int) * 8 % 4294967296) w _ _ _ HO3.out HB3.out HL2.out (by omega) (by omega)).mono ?_
      rintro e w4 ⟨v4, rfl, ho4, hb4⟩
      have HO4 := Lib.hid (ho4.cast HE.out)
      have HB4 := Lib.hid hb4
      clear ho4 hb4
      go_wp2
      go_ret
      exact ⟨_, rfl, HO4.out, HB4.out⟩
end Go.Proofs.YtcgenmogedndjaaDoor
namespace Go.Proofs.YtcgenmogedndjaaDoor
open Go.RowKit Go.Proofs.YtcgenmogedndjaaDoorW.PrintWords
theorem info_u32 : (Tryd.prog.info? 103).map (fun i => (i.zero, i.size, i.bytes)) = some (some (.int .u32 0), 1, 4) := by kernel_rfl
abbrev OwnW (w0 w : World) (v : Value) (l : List Int) : Prop := Kd.R (Kd.int .u32) 103 w w0.heap.size (fun _ => True) v l
abbrev RdW (w : World) (A : Option Addr) (n : Nat) (l : List Int) : Prop := Kd.C (Kd.int .u32) w A n l
theorem RdW.cells {w : World} {A : Option Addr} {n : Nat} {l : List Int} (h : RdW w A n l) (hn : 0 < n) : ∃ ad, A = some ad ∧ ∀ j, j < n → w.cell? (ad.add j) = some (.int .u32 (rd l j)) := by
  obtain ⟨ad, rfl, _⟩ := Kd.at_int h 0 (by omega) (by omega)
  refine ⟨ad, rfl, fun j hj => ?_⟩
  obtain ⟨ad', e, hx⟩ := Kd.at_int h j (by omega) (by omega)
  cases e
  exact hx
theorem OwnW.cast {w0 w : World} {v : Value} {l m : List Int} (h : OwnW w0 w v l) (he : l = m) : OwnW w0 w v m := he ▸ h
theorem OwnW.nil (w0 w : World) : OwnW w0 w (.slice none 0 0) [] := Kd.R_nil _ _ _ _ _
theorem OwnW.reads {w0 w : World} {v : Value} {l : List Int} (h : OwnW w0 w v l) : ∃ A c, v = .slice A l.length c ∧ l.length ≤ c ∧ RdW w A l.length l := by
  obtain ⟨A, c, rfl⟩ := Kd.R_slice h
  exact ⟨A, c, rfl, (Kd.R_reads' h).2.1, (Kd.R_reads' h).2.2⟩
theorem OwnW.below {w0 w w1 : World} {v : Value} {l : List Int} (h : OwnW w0 w v l) (hb : Below w.heap.size w w1) : OwnW w0 w1 v l := Kd.R_below h hb
section
variable {ops : Array Oper} {rest : List Oper} {o : Oper} {a : Act} {Q : Exit → Act → World → Prop} {w0 W : World} {v : Value} {l : List Int} {s x : Operand}
theorem appw_one {p : Int} (hO : OwnW w0 W v l) (hB : Below w0.heap.size w0 W) (hL : l.length + 1 ≤ 35184372088832)
    (hgd : o.guard = none) (hop : o.op = .call { callee := .builtin .append, args := #[s, x], argTypes := #[105, 105] }) (hv : a.eval s = v) (hx : a.eval x = .slice (some ⟨W.heap.size, 0, none⟩) 1 1)
    (K : ∀ v1 w1, OwnW w0 w1 v1 (l ++ [p]) → Below w0.heap.size w0 w1 → W.grownBy w1 v.ownBlock → (v1.ownBlock = v.ownBlock ∨ ∃ b, v1.ownBlock = some b ∧ W.heap.size ≤ b) → wpList Tryd.prog ops Q rest (a.put o.dst v1) w1) : wpList Tryd.prog ops Q (o :: rest) a (W.alloc (.cells #[.int .u32 p] 103)) :=
  Kd.R_append (Kd.int .u32) (w0 := w0) w0.heap.size hgd s x 105 103 (.int .u32 0) 4 hop Tryd.underlying105 info_u32 rfl (by decide) (by omega) v l p [.int .u32 p] (fun _ => True) (fun _ => False) hv hx rfl (fun _ hk => hk.elim) (fun _ _ => trivial) hO hB hB.size (by omega) K
end
section
variable {ops : Array Oper} {o : Oper} {a : Act} {Q : Exit → Act → World → Prop} {Kc : Act → World → Prop} {w0 W : World} {v : Value} {l : List Int} {s x : Operand}
theorem appw_step {p : Int} (hO : OwnW w0 W v l) (hB : Below w0.heap.size w0 W) (hL : l.length + 1 ≤ 35184372088832)
    (hw : Region.wanted o (yielded ops a.tmps) = true) (hop : o.op = .call { callee := .builtin .append, args := #[s, x], argTypes := #[105, 105] }) (hv : a.eval s = v) (hx : a.eval x = .slice (some ⟨W.heap.size, 0, none⟩) 1 1)
    (K : ∀ v1 w1, OwnW w0 w1 v1 (l ++ [p]) → Below w0.heap.size w0 w1 → W.grownBy w1 v.ownBlock → (v1.ownBlock = v.ownBlock ∨ ∃ b, v1.ownBlock = some b ∧ W.heap.size ≤ b) → Kc (a.put o.dst v1) w1) :
    if Region.wanted o (yielded ops a.tmps) = true then Oper.wp Tryd.prog o a (W.alloc (.cells #[.int .u32 p] 103)) Kc Q else Kc (a.put o.dst undef) (W.alloc (.cells #[.int .u32 p] 103)) :=
  Kd.R_append_step (Kd.int .u32) (w0 := w0) w0.heap.size hw s x 105 103 (.int .u32 0) 4 hop Tryd.underlying105 info_u32 rfl (by decide) (by omega) v l p [.int .u32 p] (fun _ => True) (fun _ => False) hv hx rfl (fun _ hk => hk.elim) (fun _ _ => trivial) hO hB hB.size (by omega) K
end
theorem Rd.lit {w : World} {ad : Addr} {n : Nat} {l : List Int} (h : ∀ j, j < n → w.cell? (ad.add j) = some (.int .u8 (rd l j))) (j : Nat) (hj : j + 1 < n) : w.cell? ⟨ad.block, ad.off + (j + 1), none⟩ = some (.int .u8 (rd l ((j + 1 : Nat) : Int))) := by
  have := h (j + 1) hj
  unfold Addr.add at this
  rwa [if_neg (by omega)] at this
theorem rd_drop (l : List Int) (a i : Nat) : rd (l.drop a) (i : Int) = rd l ((a + i : Nat) : Int) := by
  unfold rd
  simp only [Int.toNat_natCast, List.getD_eq_getElem?_getD, List.getElem?_drop]
theorem or_four32 (a b c d : Int) (a0 : 0 ≤ a) (a1 : a < 256) (b0 : 0 ≤ b) (b1 : b < 256) (c0 : 0 ≤ c) (c1 : c < 256) (d0 : 0 ≤ d) (d1 : d < 256) :
    bits .or .u32 (bits .or .u32 (bits .or .u32 (a * 16777216) (b * 65536)) (c * 256)) d = 16777216 * a + 65536 * b + 256 * c + d := by
  rw [bits_join .u32 32 (by decide) wraps_u32 24 (a * 16777216) (b * 65536) (by omega) (by omega) (by omega) (by omega) (by omega) (by omega),
    bits_join .u32 32 (by decide) wraps_u32 16 (a * 16777216 + b * 65536) (c * 256) (by omega) (by omega) (by omega) (by omega) (by omega) (by omega),
    bits_join .u32 32 (by decide) wraps_u32 8 (a * 16777216 + b * 65536 + c * 256) d (by omega) (by omega) (by omega) (by omega) (by omega) (by omega)]
  omega
/-- A block's words. -/
def w32 : List Int → List Int
  | a :: b :: c :: d :: t => (16777216 * a + 65536 * b + 256 * c + d) :: w32 t
  | _ => []
/-- So many words more, each made of those ahead. -/
def extW (F : List Int → Int) : Nat → List Int → List Int
  | 0, l => l
  | k + 1, l => extW F k (l ++ [F l])
theorem w32_length : ∀ (l : List Int), (w32 l).length = l.length / 4
  | [] => rfl
  | [_] => by simp [w32]
  | [_, _] => by simp [w32]
  | [_, _, _] => by simp [w32]
  | _ :: _ :: _ :: _ :: t => by
    simp only [w32, List.length_cons, w32_length t]
    omega
/-- Words. -/
def Ws (l : List Int) : Prop := ∀ x ∈ l, 0 ≤ x ∧ x < 4294967296
theorem Ws.app {a b : List Int} (h : Ws a) (k : Ws b) : Ws (a ++ b) := by
  intro x hx
  rcases List.mem_append.1 hx with hx | hx
  · exact h x hx
  · exact k x hx
theorem Ws.rd {l : List Int} (h : Ws l) (k : Nat) (hk : k < l.length) : 0 ≤ rd l k ∧ rd l k < 4294967296 := by
  rw [rd_get l k hk]
  exact h _ (List.getElem_mem hk)
theorem w32_Ws : ∀ (l : List Int), Bytes l → Ws (w32 l)
  | a :: b :: c :: d :: t, hb => by
    have h0 := hb a (by simp)
    have h1 := hb b (by simp)
    have h2 := hb c (by simp)
    have h3 := hb d (by simp)
    have ih := w32_Ws t (fun x hx => hb x (by simp [hx]))
    intro x hx
    simp only [w32, List.mem_cons] at hx
    rcases hx with rfl | hx
    · omega
    · exact ih x hx
  | [], _ | [_], _ | [_, _], _ | [_, _, _], _ => by intro x hx; simp [w32] at hx
theorem extW_Ws (F : List Int → Int) (hF : ∀ l, Ws l → 16 ≤ l.length → 0 ≤ F l ∧ F l < 4294967296) : ∀ (k : Nat) (l : List Int), Ws l → 16 ≤ l.length → Ws (extW F k l)
  | 0, _, h, _ => h
  | k + 1, l, h, hl => by
    refine extW_Ws F hF k _ (h.app ?_) (by rw [List.length_append]; omega)
    intro x hx
    rw [List.mem_singleton] at hx
    rw [hx]
    exact hF l h hl
/-- What a maker of more words is held to. -/
def Makes (f : FuncId) (F : List Int → Int) : Prop := (∀ l, Ws l → 16 ≤ l.length → 0 ≤ F l ∧ F l < 4294967296) ∧ ∀ (W : World) (A : Option Addr) (c : Nat) (l : List Int), RdW W A l.length l → Ws l → 16 ≤ l.length → l.length ≤ 80 → Calls Tryd.prog f #[.slice A l.length c] W fun e w' => e = .returned (.int .u32 (F l)) ∧ Drawn0 W w'
theorem w32_snoc (l : List Int) (j : Nat) (h : 4 * j + 4 ≤ l.length) : w32 (l.take (4 * (j + 1))) = w32 (l.take (4 * j)) ++ [16777216 * rd l ((4 * j : Nat) : Int) + 65536 * rd l ((4 * j + 1 : Nat) : Int) + 256 * rd l ((4 * j + 2 : Nat) : Int) + rd l ((4 * j + 3 : Nat) : Int)] := by
  induction j generalizing l with
  | zero =>
    match l, h with
    | a :: b :: c :: d :: t, _ => simp [w32, rd]
  | succ j ih =>
    match l, h with
    | a :: b :: c :: d :: t, h =>
      simp only [List.length_cons] at h
      have e := ih t (by omega)
      rw [show 4 * (j + 1 + 1) = 4 * (j + 1) + 1 + 1 + 1 + 1 by omega, show 4 * (j + 1) = 4 * j + 1 + 1 + 1 + 1 by omega]
      simp only [List.take_succ_cons, w32, List.cons_append]
      rw [show 4 * j + 1 + 1 + 1 + 1 = 4 * (j + 1) by omega, e]
      have hr : ∀ i : Nat, rd (a :: b :: c :: d :: t) ((4 * (j + 1) + i : Nat) : Int) = rd t ((4 * j + i : Nat) : Int) := by
        intro i
        unfold rd
        simp only [Int.toNat_natCast]
        rw [show 4 * (j + 1) + i = (4 * j + i) + 1 + 1 + 1 + 1 by omega]
        rfl
      have h0 := hr 0
      rw [Nat.add_zero, Nat.add_zero] at h0
      rw [h0, hr 1, hr 2, hr 3]
      rfl
theorem extW_snoc (F : List Int → Int) : ∀ (k : Nat) (l : List Int), extW F (k + 1) l = extW F k l ++ [F (extW F k l)]
  | 0, _ => rfl
  | k + 1, l => by rw [extW, extW_snoc F k]; rfl
theorem extW_length (F : List Int → Int) (k : Nat) (l : List Int) : (extW F k l).length = l.length + k := by
  induction k with
  | zero => rfl
  | succ k ih => rw [extW_snoc, List.length_append, ih]; rfl
end Go.Proofs.YtcgenmogedndjaaDoor
namespace Go.Proofs.YtcgenmogedndjaaDoor
open Go.RowKit Go.Proofs.YtcgenmogedndjaaDoorW.PrintWords
/-- The block g holds these words. -/
def Blk (w : World) (g : Nat) (t : TypeId) (k : IntKind) (l : List Int) : Prop := w.heap[g]? = some (.cells (nums k l).toArray t (0, 0))
theorem Blk.below {w w1 : World} {g t B : Nat} {k : IntKind} {l : List Int} (h : Blk w g t k l) (hb : Below B w w1) (hg : g < B) : Blk w1 g t k l := by
  unfold Blk at *
  rw [hb.block g hg, h]
theorem Blk.lt {w : World} {g t : Nat} {k : IntKind} {l : List Int} (h : Blk w g t k l) : g < w.heap.size := by
  have := (Array.getElem?_eq_some_iff.1 h).1
  exact this
theorem Blk.new (w : World) (t : Nat) (k : IntKind) (l : List Int) : Blk (w.alloc (.cells (nums k l).toArray t (0, 0))) w.heap.size t k l := by
  show (w.heap.push _)[w.heap.size]? = _
  simp
theorem Blk.cell {w : World} {g t : Nat} {k : IntKind} {l : List Int} (h : Blk w g t k l) (i : Nat) (hi : i < l.length) : w.cell? ⟨g, i, none⟩ = some (.int k (rd l i)) := by
  unfold World.cell?
  rw [h]
  simp [nums, rd, List.getD_eq_getElem?_getD, hi]
theorem Blk.drew {w : World} {g t : Nat} {k : IntKind} {l : List Int} (h : Blk w g t k l) (n : Nat) : Blk (w.drewN n) g t k l := h
theorem Blk.set {w : World} {g t : Nat} {k : IntKind} {l : List Int} (h : Blk w g t k l) (i : Nat) (_hi : i < l.length) (x : Int) : Blk (w.setCell ⟨g, i, none⟩ (.int k x)) g t k (l.set i x) := by
  have hm : (nums k l).toArray.setIfInBounds i (.int k x) = (nums k (l.set i x)).toArray := by
    apply Array.ext'
    simp [nums, List.map_set]
  unfold Blk at *
  unfold World.setCell
  show (w.heap.modify g _)[g]? = _
  rw [Array.getElem?_modify, if_pos rfl, h]
  simp only [Option.map_some, hm]
  rfl
theorem Blk.far {w : World} {g t : Nat} {k : IntKind} {l : List Int} (h : Blk w g t k l) {p : Addr} (hp : g ≠ p.block) (v : Value) : Blk (w.setCell p v) g t k l := by
  unfold Blk at *
  rw [Below.heap_setCell w p v g hp, h]
theorem Blk.free {w : World} {g t : Nat} {k : IntKind} {l : List Int} (h : Blk w g t k l) (i : Nat) : w.frozen? ⟨g, i, none⟩ = false := by
  unfold World.frozen?
  rw [h]
  simp
/-- Both facts of a cell that a store asks for. -/
theorem Blk.both {w : World} {g t : Nat} {k : IntKind} {l : List Int} (h : Blk w g t k l) (i : Nat) (hi : i < l.length) : w.cell? ⟨g, i, none⟩ = some (.int k (rd l i)) ∧ w.frozen? ⟨g, i, none⟩ = false := ⟨h.cell i hi, h.free i⟩
end Go.Proofs.YtcgenmogedndjaaDoor
namespace Go.Proofs.YtcgenmogedndjaaDoor
open Go.RowKit Go.Proofs.YtcgenmogedndjaaDoorW.PrintWords
def xr (x y : Int) : Int := bits .xor .u32 x y
def an (x y : Int) : Int := bits .and .u32 x y
/-- All bits of a word turned. -/
def no (x : Int) : Int := 4294967295 - x
def ad (x y : Int) : Int := (x + y) % 4294967296
structure St5 where
  (a b c d e : Int)
/-- SHA-256. -/
def sch2 (l : List Int) : Int :=
  let x := rd l ((l.length : Int) - 15)
  let y := rd l ((l.length : Int) - 2)
  ad (ad (ad (rd l ((l.length : Int) - 16)) (xr (xr (rotl x 25) (rotl x 14)) (x / 8))) (rd l ((l.length : Int) - 7))) (xr (xr (rotl y 15) (rotl y 13)) (y / 1024))
structure St8 where
  (a b c d e f g h : Int)
def turn (x : Int) (i j k : Nat) : Int := xr (xr (rotl x (32 - i)) (rotl x (32 - j))) (rotl x (32 - k))
def consts : List Int := [1116352408, 1899447441, 3049323471, 3921009573, 961987163, 1508970993, 2453635748, 2870763221, 3624381080, 310598401, 607225278, 1426881987, 1925078388, 2162078206, 2614888103, 3248222580, 3835390401, 4022224774, 264347078, 604807628, 770255983, 1249150122, 1555081692, 1996064986, 2554220882, 2821834349, 2952996808, 3210313671, 3336571891, 3584528711, 113926993, 338241895, 666307205, 773529912, 1294757372, 1396182291, 1695183700, 1986661051, 2177026350, 2456956037, 2730485921, 2820302411, 3259730800, 3345764771, 3516065817, 3600352804, 4094571909, 275423344, 430227734, 506948616, 659060556, 883997877, 958139571, 1322822218, 1537002063, 1747873779, 1955562222, 2024104815, 2227730452, 2361852424, 2428436474, 2756734187, 3204031479, 3329325298]
def round2 (s : St8) (t : Nat) (x : Int) : St8 :=
  let p := ad (ad (ad (ad s.h (turn s.e 6 11 25)) (xr (an s.e s.f) (an (no s.e) s.g))) (rd consts t)) x
  let q := ad (turn s.a 2 13 22) (xr (xr (an s.a s.b) (an s.a s.c)) (an s.b s.c))
  ⟨ad p q, s.a, s.b, s.c, ad s.d p, s.e, s.f, s.g⟩
def rounds2 : List Int → Nat → St8 → St8
  | [], _, s => s
  | x :: l, t, s => rounds2 l (t + 1) (round2 s t x)
def block2 (h : St8) (b : List Int) : St8 :=
  let s := rounds2 (extW sch2 48 (w32 b)) 0 h
  ⟨ad h.a s.a, ad h.b s.b, ad h.c s.c, ad h.d s.d, ad h.e s.e, ad h.f s.f, ad h.g s.g, ad h.h s.h⟩
def blocks2 : Nat → St8 → List Int → St8
  | 0, h, _ => h
  | k + 1, h, p => blocks2 k (block2 h (p.take 64)) (p.drop 64)
def sha2 (l : List Int) : List Int :=
  let h := blocks2 ((padSha l).length / 64) ⟨1779033703, 3144134277, 1013904242, 2773480762, 1359893119, 2600822924, 528734635, 1541459225⟩ (padSha l)
  be4 h.a ++ be4 h.b ++ be4 h.c ++ be4 h.d ++ be4 h.e ++ be4 h.f ++ be4 h.g ++ be4 h.h
end Go.Proofs.YtcgenmogedndjaaDoor
namespace Go.Proofs.YtcgenmogedndjaaDoor
open Go.RowKit Go.Proofs.YtcgenmogedndjaaDoorW.PrintWords
theorem ad_range (x y : Int) : 0 ≤ ad x y ∧ ad x y < 4294967296 := ⟨Int.emod_nonneg _ (by decide), Int.emod_lt_of_pos _ (by decide)⟩
theorem sch2_range (l : List Int) : 0 ≤ sch2 l ∧ sch2 l < 4294967296 := ad_range _ _
set_option maxHeartbeats 3200000 in
theorem sch2_calls (W : World) (A : Option Addr) (c : Nat) (l : List Int) (hr : RdW W A l.length l) (hw : Ws l) (hl : 16 ≤ l.length) (hl2 : l.length ≤ 80) :
    Calls Tryd.prog 69 #[.slice A l.length c] W fun e w' => e = .returned (.int .u32 (sch2 l)) ∧ Drawn0 W w' := by
  obtain ⟨ad', rfl, hcell⟩ := RdW.cells hr (by omega)
  obtain ⟨n, hn⟩ : ∃ n, n = l.length := ⟨_, rfl⟩
  have hrg : ∀ q : Nat, q ≤ n → 1 ≤ q → 0 ≤ rd l ((n : Int) - q) ∧ rd l ((n : Int) - q) < 4294967296 := by
    intro q h1 h2
    have := hw.rd (n - q) (by omega)
    rwa [show ((n - q : Nat) : Int) = (n : Int) - q by omega] at this
  rw [← hn] at hcell hl hl2 ⊢
  have cell : ∀ q : Nat, q ≤ n → 1 ≤ q → W.cell? (ad'.add (n - q)) = some (.int .u32 (rd l ((n : Int) - q))) := by
    intro q h1 h2
    have := hcell (n - q) (by omega)
    rwa [show ((n - q : Nat) : Int) = (n : Int) - q by omega] at this
  have x15 := cell 15 (by omega) (by omega)
  have x2 := cell 2 (by omega) (by omega)
  have x16 := cell 16 (by omega) (by omega)
  have x7 := cell 7 (by omega) (by omega)
  have g15 := hrg 15 (by omega) (by omega)
  have g2 := hrg 2 (by omega) (by omega)
  obtain ⟨x, ex⟩ : ∃ y, y = rd l ((n : Int) - (15 : Nat)) := ⟨_, rfl⟩
  obtain ⟨y, ey⟩ : ∃ y, y = rd l ((n : Int) - (2 : Nat)) := ⟨_, rfl⟩
  obtain ⟨p, ep⟩ : ∃ y, y = rd l ((n : Int) - (16 : Nat)) := ⟨_, rfl⟩
  obtain ⟨q, eq⟩ : ∃ y, y = rd l ((n : Int) - (7 : Nat)) := ⟨_, rfl⟩
  have hE : sch2 l = ad (ad (ad p (xr (xr (rotl x 25) (rotl x 14)) (x / 8))) q) (xr (xr (rotl y 15) (rotl y 13)) (y / 1024)) := by
    rw [ex, ey, ep, eq]
    unfold sch2
    rw [← hn]
    rfl
  rw [← ex] at x15 g15
  rw [← ey] at x2 g2
  rw [← ep] at x16
  rw [← eq] at x7
  obtain ⟨A1, eA1⟩ : ∃ A1, xr (xr (rotl x 25) (rotl x 14)) (x / 8) = A1 := ⟨_, rfl⟩
  rw [eA1] at hE
  obtain ⟨D1, eD1⟩ : ∃ D1, xr (xr (rotl y 15) (rotl y 13)) (y / 1024) = D1 := ⟨_, rfl⟩
  rw [eD1] at hE
  obtain ⟨B1, eB1⟩ : ∃ B1, ad p A1 = B1 := ⟨_, rfl⟩
  rw [eB1] at hE
  obtain ⟨C1, eC1⟩ : ∃ C1, ad B1 q = C1 := ⟨_, rfl⟩
  rw [eC1] at hE
  obtain ⟨E1, eE1⟩ : ∃ E1, ad C1 D1 = E1 := ⟨_, rfl⟩
  rw [eE1] at hE
  have HE := Lib.hid hE
  have hA1 : bits .xor .u32 (bits .xor .u32 (rotl x 25) (rotl x 14)) (x / 8) = A1 := eA1
  have hD1 : bits .xor .u32 (bits .xor .u32 (rotl y 15) (rotl y 13)) (y / 1024) = D1 := eD1
  have hB1 : IntKind.u32.wrap (p + A1) = B1 := by rw [IntKind.wrap_u32]; exact eB1
  have hC1 : IntKind.u32.wrap (B1 + q) = C1 := by rw [IntKind.wrap_u32]; exact eC1
  have hE1 : IntKind.u32.wrap (C1 + D1) = E1 := by rw [IntKind.wrap_u32]; exact eE1
  have GX := Lib.hid g15
  have GY := Lib.hid g2
  have w15 : IntKind.i64.wrap ((n : Int) - 15) = n - 15 := by rw [IntKind.wrap_i64]; omega
  have t15 : ((n : Int) - 15).toNat = n - 15 := by omega
  have l15 : (0 : Int) ≤ (n : Int) - 15 := by omega
  have u15' : (n : Int) - 15 < n := by omega
  have w2 : IntKind.i64.wrap ((n : Int) - 2) = n - 2 := by rw [IntKind.wrap_i64]; omega
  have t2 : ((n : Int) - 2).toNat = n - 2 := by omega
  have l2 : (0 : Int) ≤ (n : Int) - 2 := by omega
  have u2' : (n : Int) - 2 < n := by omega
  have w16 : IntKind.i64.wrap ((n : Int) - 16) = n - 16 := by rw [IntKind.wrap_i64]; omega
  have t16 : ((n : Int) - 16).toNat = n - 16 := by omega
  have l16 : (0 : Int) ≤ (n : Int) - 16 := by omega
  have u16' : (n : Int) - 16 < n := by omega
  have w7 : IntKind.i64.wrap ((n : Int) - 7) = n - 7 := by rw [IntKind.wrap_i64]; omega
  have t7 : ((n : Int) - 7).toNat = n - 7 := by omega
  have l7 : (0 : Int) ≤ (n : Int) - 7 := by omega
  have u7' : (n : Int) - 7 < n := by omega
  clear hcell cell ex ey ep eq eA1 eD1 eB1 eC1 eE1 hE hn hr hw hrg g15 g2
  go_enter Tryd.func69, Tryd.ntmps69
  go_wp2_with fail
  go_quiet (fail)
  have z15 := Drawn0.step (Drawn0.refl W) nq
  have HD := Lib.hid z15
  have y16 : (W.drewN nq).cell? (ad'.add (n - 16)) = some (.int .u32 p) := x16
  have y7 : (W.drewN nq).cell? (ad'.add (n - 7)) = some (.int .u32 q) := x7
  generalize W.drewN nq = W2 at y16 y7 HD ⊢
  clear z15 x15 x2 x16 x7
  go_wp2_with fail
  go_quiet (first | (go_at_call 70; (first | with_reducible refine (rot_calls x (-7) _ GX.out.1 GX.out.2 25 (by omega) (by omega)).mono ?_ | with_reducible refine (rot_calls x (-18) _ GX.out.1 GX.out.2 14 (by omega) (by omega)).mono ?_ | with_reducible refine (rot_calls y (-17) _ GY.out.1 GY.out.2 15 (by omega) (by omega)).mono ?_ | with_reducible refine (rot_calls y (-19) _ GY.out.1 GY.out.2 13 (by omega) (by omega)).mono ?_); rintro e w' ⟨rfl, ⟨nd, rfl⟩⟩; exact ⟨rfl, _, World.drewN_drewN _ _ _⟩))
  go_wp2
  go_ret
  exact ⟨by rw [HE.out]; rfl, HD.out.step _⟩
theorem sch2_makes : Makes 69 sch2 := ⟨fun l _ _ => sch2_range l, fun W A c l h1 h2 h3 h4 => sch2_calls W A c l h1 h2 h3 h4⟩
end Go.Proofs.YtcgenmogedndjaaDoor
namespace Go.Proofs.YtcgenmogedndjaaDoor
open Go.RowKit Go.Proofs.YtcgenmogedndjaaDoorW.PrintWords
/-- The laid variable rounds. -/
def Laid (w : World) : Prop := 0 < w.heap.size ∧ ∀ t : Nat, t < 64 → w.cell? ⟨0, t, none⟩ = some (.int .u32 (rd consts (t : Int)))
theorem Laid.lt {w : World} (h : Laid w) : 0 < w.heap.size := h.1
theorem Laid.cell {w : World} (h : Laid w) (t : Nat) (ht : t < 64) : w.cell? ⟨0, t, none⟩ = some (.int .u32 (rd consts (t : Int))) := h.2 t ht
theorem Laid.below {w w1 : World} {B : Nat} (h : Laid w) (hb : Below B w w1) (hB : 0 < B) : Laid w1 := by
  refine ⟨Nat.lt_of_lt_of_le h.1 hb.size, fun t ht => ?_⟩
  rw [← h.2 t ht]
  unfold World.cell?
  rw [hb.block 0 hB]
theorem cons_drop (l : List Int) (a : Nat) (h : a < l.length) : l.drop a = rd l a :: l.drop (a + 1) := by
  rw [rd_get l a h]
  exact List.drop_eq_getElem_cons h
theorem rounds2_step (X : List Int) (t : Nat) (ht : t < X.length) (s : St8) : rounds2 (X.drop t) t s = rounds2 (X.drop (t + 1)) (t + 1) (round2 s t (rd X t)) := by
  rw [cons_drop X t ht]
  rfl
/-- The first i words added up. -/
def addUp (h q : List Int) (i : Nat) : List Int := List.zipWith ad (h.take i) (q.take i) ++ h.drop i
theorem addUp_zero (h q : List Int) : addUp h q 0 = h := by simp [addUp]
theorem addUp_length (h q : List Int) (hq : q.length = h.length) (i : Nat) : (addUp h q i).length = h.length := by
  simp [addUp, hq]
  omega
theorem addUp_at (h q : List Int) (hq : q.length = h.length) (i : Nat) (hi : i < h.length) : rd (addUp h q i) (i : Int) = rd h i := by
  have h1 : (List.zipWith ad (h.take i) (q.take i)).length = i := by simp [hq]; omega
  unfold rd addUp
  simp only [Int.toNat_natCast, List.getD_eq_getElem?_getD]
  rw [List.getElem?_append_right (by omega), h1, Nat.sub_self, List.getElem?_drop, Nat.add_zero]
theorem addUp_set (h q : List Int) (hq : q.length = h.length) (i : Nat) (hi : i < h.length) : (addUp h q i).set i (ad (rd h i) (rd q i)) = addUp h q (i + 1) := by
  have h1 : (List.zipWith ad (h.take i) (q.take i)).length = i := by simp [hq]; omega
  unfold addUp
  rw [List.set_append_right _ _ (by omega), h1, Nat.sub_self, List.drop_eq_getElem_cons hi, List.set_cons_zero, List.take_succ_eq_append_getElem hi, List.take_succ_eq_append_getElem (show i < q.length by omega),
    List.zipWith_append (by simp [hq]), List.append_assoc, rd_get h i hi, rd_get q i (by omega)]
  rfl
theorem addUp_all (h q : List Int) (hq : q.length = h.length) : addUp h q h.length = List.zipWith ad h q := by
  unfold addUp
  rw [List.take_length, ← hq, List.take_length, hq, List.drop_length, List.append_nil]
/-- The first i words laid out as bytes, noughts behind. -/
def outB (h : List Int) (i : Nat) : List Int := (h.take i).flatMap be4 ++ List.replicate (4 * (h.length - i)) 0
theorem flat_length : ∀ (l : List Int), (l.flatMap be4).length = 4 * l.length
  | [] => rfl
  | a :: l => by rw [List.flatMap_cons, List.length_append, flat_length l, List.length_cons]; show 4 + _ = _; omega
theorem outB_length (h : List Int) (i : Nat) (hi : i ≤ h.length) : (outB h i).length = 4 * h.length := by
  unfold outB
  rw [List.length_append, flat_length, List.length_take, List.length_replicate]
  omega
theorem outB_step (h : List Int) (i : Nat) (hi : i < h.length) : (outB h i).take (4 * i) ++ be4 (rd h i) ++ (outB h i).drop (4 * i + (be4 (rd h i)).length) = outB h (i + 1) := by
  have hl : ((h.take i).flatMap be4).length = 4 * i := by rw [flat_length, List.length_take]; omega
  unfold outB
  rw [List.take_append, List.drop_append, hl, Nat.sub_self, List.take_zero, List.append_nil, List.take_of_length_le (by omega), List.drop_of_length_le (by rw [hl]; omega), List.nil_append, List.drop_replicate,
    List.take_succ_eq_append_getElem hi, List.flatMap_append, rd_get h i hi]
  have e : 4 * (h.length - i) - (4 * i + (be4 h[i]).length - 4 * i) = 4 * (h.length - (i + 1)) := by
    show 4 * (h.length - i) - (4 * i + 4 - 4 * i) = _
    omega
  rw [e]
  simp
theorem outB_all (h : List Int) : outB h h.length = h.flatMap be4 := by
  unfold outB
  rw [List.take_length, Nat.sub_self, List.replicate_zero, List.append_nil]
theorem info_u8s : (Tryd.prog.info? 5).map (·.size) = some 1 := by kernel_rfl
/-- copy into a part of an array of bytes. -/
theorem Blk.copy {w : World} {g t off m c dLen dCap ty : Nat} {a : Addr} {l ys : List Int} (h : Blk w g t .u8 l) (hr : Rd w (some a) m ys) (ho : off + m ≤ l.length) (hd : m ≤ dLen) :
    (Builtin.copy_ #[34, 34] ty #[.slice (some ⟨g, off, none⟩) dLen dCap, .slice (some a) m c]).run Tryd.prog w = .ok (.int .i64 m) (w.setCells g off (nums .u8 ys)) ∧ Blk (w.setCells g off (nums .u8 ys)) g t .u8 (l.take off ++ ys ++ l.drop (off + ys.length)) := by
  have hl := Kd.C_len hr
  have hnl : (nums .u8 ys).length = m := by simp [nums, hl]
  have hcell : ∀ j, j < m → w.cell? (a.add j) = some (.int .u8 (rd ys j)) := by
    intro j hj
    obtain ⟨ad', e, hx⟩ := Kd.at_int hr j (by omega) (by omega)
    cases e
    exact hx
  constructor
  · have := run_copy_cells (P := Tryd.prog) w 34 34 ty 5 g off dLen dCap a m c (nums .u8 ys) Tryd.underlying34 info_u8s
      (by rw [hnl]; exact (Nat.min_eq_left hd).symm)
      (fun j v hv => by
        have hj : j < m := by have := (List.getElem?_eq_some_iff.1 hv).1; omega
        rw [hcell j hj, ← hv]
        simp [nums, rd, List.getD_eq_getElem?_getD, show j < ys.length by omega])
      (fun j hj => by rw [h.cell (off + j) (by omega)]; rfl)
      (fun j hj => h.free (off + j))
      (fun v hv => by simp only [nums, List.mem_map] at hv; obtain ⟨x, _, rfl⟩ := hv; rfl)
    rw [hnl] at this
    exact this
  · obtain ⟨cur', h1, h2, h3⟩ := setCells_row (nums .u8 ys) off w _ h (by rw [hnl]; simp [nums]; omega)
    unfold Blk
    rw [h1]
    rw [show cur' = (nums .u8 (l.take off ++ ys ++ l.drop (off + ys.length))).toArray from Array.ext' (by rw [h3]; simp [nums, List.map_take, List.map_drop])]
theorem Blk.farCells {w : World} {g g' t o : Nat} {k : IntKind} {l : List Int} (h : Blk w g t k l) (hg : g ≠ g') (vs : List Value) : Blk (w.setCells g' o vs) g t k l := by
  unfold Blk at *
  rw [setCells_far vs o g hg, h]
theorem Below.setCells_ {B g o : Nat} {a w : World} (h : Below B a w) (hB : B ≤ g) (vs : List Value) : Below B a (w.setCells g o vs) := by
  obtain ⟨s1, s2, s3, s4⟩ := setCells_same g vs o w
  exact h.trans ⟨s1, s2, s3, by rw [s4]; exact Nat.le_refl _, fun j hj => setCells_far vs o j (by omega)⟩
section
variable {ops : Array Oper} {rest : List Oper} {o : Oper} {a : Act} {Q : Exit → Act → World → Prop} {w : World}
/-- A whole array is read: as what it says of the variable. -/
theorem Blk.loadVar {g t : Nat} {k : IntKind} {l : List Int} (h : Blk w g t k l) (T : TypeId) (ha : (isAgg T).run Tryd.prog w = .ok true w) (hz : (Go.sizeOf T).run Tryd.prog w = .ok l.length w) :
    (Go.loadVar T ⟨g, 0, none⟩).run Tryd.prog w = .ok (.agg (nums k l).toArray) w := by
  have hnl : (nums k l).length = l.length := by simp [nums]
  have := run_loadCells_list (P := Tryd.prog) (w := w) ⟨g, 0, none⟩ (nums k l) (fun j v hv => by
    have hj : j < l.length := by have := (List.getElem?_eq_some_iff.1 hv).1; omega
    have hc := h.cell j hj
    rw [show (⟨g, 0, none⟩ : Addr).add j = ⟨g, j, none⟩ by unfold Addr.add; split <;> simp_all]
    rw [hc, ← hv]
    simp [nums, rd, List.getD_eq_getElem?_getD, hj])
  rw [hnl] at this
  simp [Go.loadVar, ha, hz, this]
theorem load_blk {g t : Nat} {k : IntKind} {l : List Int} {T : TypeId} {p : Operand} (hgd : o.guard = none) (ho : o.op = .load T p) (hp : a.eval p = .pointer (some ⟨g, 0, none⟩)) (h : Blk w g t k l)
    (ha : (isAgg T).run Tryd.prog w = .ok true w) (hz : (Go.sizeOf T).run Tryd.prog w = .ok l.length w) (hK : wpList Tryd.prog ops Q rest (a.put o.dst (.agg (nums k l).toArray)) w) : wpList Tryd.prog ops Q (o :: rest) a w := by
  refine wpList_plain hgd fun K hK' => ?_
  have hl : (Instr.loadAt T (.pointer (some ⟨g, 0, none⟩))).run Tryd.prog w = .ok (.agg (nums k l).toArray) w := by
    simp [Instr.loadAt, Instr.sureAddr, h.loadVar T ha hz]
  unfold Oper.wp execOp
  simp only [ho, hp, Sem.run_bind, Sem.run_pure, Result.andThen_ok, hl]
  exact hK' _ _ hK
theorem store_blk {g t : Nat} {k : IntKind} {l m : List Int} {T : TypeId} {p x : Operand} (hgd : o.guard = none) (hN : o.dst = none) (ho : o.op = .store T p x) (hp : a.eval p = .pointer (some ⟨g, 0, none⟩)) (hx : a.eval x = .agg (nums k m).toArray) (h : Blk w g t k l) (hl : m.length = l.length)
    (ht : (Tryd.prog.info? T).map (·.size) = some m.length) (hK : ∀ w1, Blk w1 g t k m → (∀ B a0, Below B a0 w → B ≤ g → Below B a0 w1) → wpList Tryd.prog ops Q rest a w1) : wpList Tryd.prog ops Q (o :: rest) a w := by
  have hnm : (nums k m).length = m.length := by simp [nums]
  have hrun := run_store_run (P := Tryd.prog) (w := w) (g := g) (o := 0) T (.agg (nums k m).toArray) (nums k m) h rfl (by rw [hnm]; exact ht) (by rw [hnm, hl]; simp [nums]) (fun q hq => by simp only [nums, List.mem_map] at hq; obtain ⟨x, _, rfl⟩ := hq; rfl)
  obtain ⟨cur', h1, h2, h3⟩ := setCells_row (nums k m) 0 w _ h (by rw [hnm, hl]; simp [nums])
  obtain ⟨s1, s2, s3, s4⟩ := setCells_same g (nums k m) 0 w
  refine wpList_plain hgd fun K hK' => ?_
  unfold Oper.wp execOp
  simp only [ho, hp, hx, Sem.run_bind, Sem.run_pure, Result.andThen_ok, hrun]
  show K (a.put o.dst undef) _
  rw [hN]
  refine hK' a _ (hK _ ?_ ?_)
  · unfold Blk
    rw [h1]
    rw [show cur' = (nums k m).toArray from Array.ext' (by rw [h3]; simp [nums, hl])]
  · intro B a0 hb hB
    exact hb.trans ⟨s1, s2, s3, by rw [s4]; exact Nat.le_refl _, fun j hj => setCells_far _ _ j (by omega)⟩
theorem results_blk {fn : Func} {tm : Tmp} {T : TypeId} (h : fn.results = #[.cell tm T]) {tmps : Array Value} {g t : Nat} {k : IntKind} {l : List Int} (ht : tmps.getD tm undef = .pointer (some ⟨g, 0, none⟩)) (hb : Blk w g t k l)
    (ha : (isAgg T).run Tryd.prog w = .ok true w) (hz : (Go.sizeOf T).run Tryd.prog w = .ok l.length w) : (results fn tmps).run Tryd.prog w = .ok (.agg (nums k l).toArray) w := by
  have hl := hb.loadVar T ha hz
  rw [Array.getD_eq_getD_getElem?] at ht
  simp [results, h, ht, asAddr, hl]
theorem index_blk {T E : TypeId} {k : IntKind} {l : List Int} {i : Nat} (hu : Tryd.prog.underlying T = some (.array l.length E)) (hz : (Go.sizeOf E).run Tryd.prog w = .ok 1 w) (ha : (isAgg E).run Tryd.prog w = .ok false w) (hi : i < l.length) :
    (Instr.index T (.agg (nums k l).toArray) (.int .i64 i)).run Tryd.prog w = .ok (.int k (rd l i)) w := by
  have h1 : (nums k l)[i]? = some (.int k (rd l i)) := by simp [nums, rd, List.getD_eq_getElem?_getD, hi]
  simp [Instr.index, asIntOf, run_underlying hu, hz, Go.part, ha, h1, hi]
end
end Go.Proofs.YtcgenmogedndjaaDoor
namespace Go.Proofs.YtcgenmogedndjaaDoor
open Go.RowKit Go.Proofs.YtcgenmogedndjaaDoorW.PrintWords
theorem gRounds : Tryd.prog.globalNamed "blotter/digest.rounds" = some 0 := by kernel_rfl
theorem tRounds : (Tryd.prog.globals[0]?).map (·.type) = some 110 := by kernel_rfl
theorem cellsU32 : Tryd.prog.cellsOf 103 = 1 := by kernel_rfl
theorem laid_consts : (Rows.laid_blotter_digest_rounds : DataW Unit) = .agg (consts.map fun n => .lit (.int .u32 n)) := rfl
set_option maxRecDepth 20000 in
theorem of_laid {W : World} (h : laidMetH Tryd.prog [("blotter/digest.rounds", Rows.laid_blotter_digest_rounds)] W) : Laid W := by
  rw [MakeChecks.laidMetH_plain _ _ _ (by kernel_rfl)] at h
  obtain ⟨ps, ⟨g0, t0, cs0, f0, p0, q0, hg0, ht0, hv0, hd0, _, _⟩, _, _⟩ := h
  obtain rfl := Option.some.inj (gRounds.symm.trans hg0)
  obtain rfl := Option.some.inj (tRounds.symm.trans ht0)
  obtain ⟨xs, m1, rfl, hx, hlen, hn, hel⟩ := DataW.trod_array Tryd.underlying110 hd0
  rw [laid_consts] at hx
  have hx1 : xs.map (·.1) = consts.map fun n => DataW.lit (.int .u32 n) := by
    have := congrArg Prod.fst hx
    simpa using this.symm
  have key : ∀ t : Nat, t < 64 → W.cell? ⟨0, t, none⟩ = some (.int .u32 (rd consts (t : Int))) := by
    intro t ht
    have h0 := hel t ht
    rw [cellsU32, Nat.mul_one, List.getElem?_eq_getElem (by rw [hn]; exact ht)] at h0
    obtain ⟨n, e1, e2, _⟩ := DataW.trod_int Tryd.underlying103 h0
    have hct : t < consts.length := ht
    have h2 : (xs.map (·.1))[t]? = some (DataW.lit (.int .u32 n)) := by
      rw [List.getElem?_map, List.getElem?_eq_getElem (by rw [hn]; exact ht), Option.map_some, e2]
    rw [hx1, List.getElem?_map, List.getElem?_eq_getElem hct, Option.map_some] at h2
    have hnn : consts[t] = n := by
      have := Option.some.inj h2
      injection this with this
      injection this
    rw [World.var?_cell gRounds hv0 t, rd_get consts t hct, hnn]
    have h3 : ((cs0.toList.drop t).take 1)[0]? = some (.int .u32 n) := by rw [e1]; rfl
    rw [List.getElem?_take_of_lt (by decide), List.getElem?_drop, Nat.add_zero] at h3
    simpa using h3
  refine ⟨?_, key⟩
  have h0 := key 0 (by decide)
  unfold World.cell? at h0
  rcases Nat.eq_zero_or_pos W.heap.size with hz | hp
  · rw [Array.getElem?_eq_none (by omega)] at h0
    cases h0
  · exact hp
/-- The door's own heap meets the condition. -/
theorem door_met (os : Os) (args : Array Value) : laidMetH Tryd.prog [("blotter/digest.rounds", Rows.laid_blotter_digest_rounds)] ((World.doorLaid Tryd.prog 400 os).forCall (fun _ _ => 0) ⟨#[], args, []⟩).memory :=
  laidMetH_of_parts3 (fuel := 8) (laidMet_of_run' 8 (by kernel_rfl) (by kernel_rfl)) (by kernel_rfl) (by kernel_rfl)
end Go.Proofs.YtcgenmogedndjaaDoor
namespace Go.Proofs.YtcgenmogedndjaaDoor
open Go.RowKit Go.ChangeShapes Go.WideShapes Go.Proofs.YtcgenmogedndjaaDoorW.PrintWords
section
variable {H : Type} {enc : TypeId × Value → H} {W : World} {base : Nat} {spare : Nat → Bool} {held : Bool} {fuel : Nat} {cs : List Value} {x : DataW H × List MemPlace}
theorem cells_u8 : Tryd.prog.cellsOf 5 = 1 := by kernel_rfl
theorem wf_Bytes {l : List Int} (h : ∀ y ∈ l, (Lit.int .u8 y).wf = true) : Bytes l := by
  intro y hy
  have h1 := h y hy
  simp [Lit.wf, IntKind.min, IntKind.max, IntKind.signed, IntKind.bits] at h1
  omega
theorem wf_i64 {u : Int} (h : (Lit.int .i64 u).wf = true) : -9223372036854775808 ≤ u ∧ u ≤ 9223372036854775807 := by
  simp [Lit.wf, IntKind.min, IntKind.max, IntKind.signed, IntKind.bits] at h
  omega
/-- A row of bytes in a cell. -/
theorem open_bytes_cell (h : DataW.trod enc Tryd.prog W base spare held fuel 34 cs = some x) : ∃ (A : Option Addr) (n c : Nat) (l : List Int), cs = [.slice A n c] ∧ Rd W A n l ∧ n ≤ c ∧ Bytes l := by
  rcases open_ints Tryd.underlying34 Tryd.underlying5 cells_u8 h with ⟨rfl, _⟩ | ⟨a, len, cap, zs, rfl, _, hl, hm, hz, _, hcell, hwf⟩
  · exact ⟨none, 0, 0, [], rfl, Rd.empty _ _, Nat.le_refl _, Bytes.nil⟩
  · have hzl : len ≤ zs.length := by rw [hz]; split <;> omega
    refine ⟨some a, len, cap, zs.take len, rfl, Rd.mk (by simp; omega) (by simp only [maxLen] at hm; omega) fun j hj => ?_, hl, (wf_Bytes hwf).tk _⟩
    rw [hcell j (by omega)]
    congr 2
    unfold rd
    simp only [Int.toNat_natCast, List.getD_eq_getElem?_getD, List.getElem?_take]
    rw [if_pos hj]
end
end Go.Proofs.YtcgenmogedndjaaDoor
namespace Go.Proofs.YtcgenmogedndjaaDoor
open Go.RowKit Go.Proofs.YtcgenmogedndjaaDoorW.PrintWords
/-- A letter's number; -1: it is none. -/
def sixOf (c : Int) : Int :=
  if 65 ≤ c ∧ c ≤ 90 then c - 65 else if 97 ≤ c ∧ c ≤ 122 then c - 71 else if 48 ≤ c ∧ c ≤ 57 then c + 4 else if c = 45 then 62 else if c = 95 then 63 else -1
theorem six_0 (c : Int) (w : World) (h0 : 0 ≤ c) (h1 : c ≤ 44) :
    Calls Tryd.prog 48 #[.int .u8 c] w fun e w' => e = .returned (.int .i64 (-1)) ∧ Drawn0 w w' := by
  have a0 : decide (65 ≤ c) = false := decide_eq_false (by omega)
  have b0 : decide (c ≤ 90) = true := decide_eq_true (by omega)
  have a1 : decide (97 ≤ c) = false := decide_eq_false (by omega)
  have b1 : decide (c ≤ 122) = true := decide_eq_true (by omega)
  have a2 : decide (48 ≤ c) = false := decide_eq_false (by omega)
  have b2 : decide (c ≤ 57) = true := decide_eq_true (by omega)
  have e0 : (c == 45) = false := beq_eq_false_iff_ne.2 (by omega)
  have e1 : (c == 95) = false := beq_eq_false_iff_ne.2 (by omega)
  go_enter Tryd.func48, Tryd.ntmps48
  go_wp2
  go_ret
  exact ⟨rfl, Drawn0.refl _⟩
theorem six_1 (c : Int) (w : World) (h0 : 45 ≤ c) (h1 : c ≤ 45) :
    Calls Tryd.prog 48 #[.int .u8 c] w fun e w' => e = .returned (.int .i64 (62)) ∧ Drawn0 w w' := by
  have a0 : decide (65 ≤ c) = false := decide_eq_false (by omega)
  have b0 : decide (c ≤ 90) = true := decide_eq_true (by omega)
  have a1 : decide (97 ≤ c) = false := decide_eq_false (by omega)
  have b1 : decide (c ≤ 122) = true := decide_eq_true (by omega)
  have a2 : decide (48 ≤ c) = false := decide_eq_false (by omega)
  have b2 : decide (c ≤ 57) = true := decide_eq_true (by omega)
  have e0 : (c == 45) = true := beq_iff_eq.2 (by omega)
  have e1 : (c == 95) = false := beq_eq_false_iff_ne.2 (by omega)
  go_enter Tryd.func48, Tryd.ntmps48
  go_wp2
  go_ret
  exact ⟨rfl, Drawn0.refl _⟩
theorem six_2 (c : Int) (w : World) (h0 : 46 ≤ c) (h1 : c ≤ 47) :
    Calls Tryd.prog 48 #[.int .u8 c] w fun e w' => e = .returned (.int .i64 (-1)) ∧ Drawn0 w w' := by
  have a0 : decide (65 ≤ c) = false := decide_eq_false (by omega)
  have b0 : decide (c ≤ 90) = true := decide_eq_true (by omega)
  have a1 : decide (97 ≤ c) = false := decide_eq_false (by omega)
  have b1 : decide (c ≤ 122) = true := decide_eq_true (by omega)
  have a2 : decide (48 ≤ c) = false := decide_eq_false (by omega)
  have b2 : decide (c ≤ 57) = true := decide_eq_true (by omega)
  have e0 : (c == 45) = false := beq_eq_false_iff_ne.2 (by omega)
  have e1 : (c == 95) = false := beq_eq_false_iff_ne.2 (by omega)
  go_enter Tryd.func48, Tryd.ntmps48
  go_wp2
  go_ret
  exact ⟨rfl, Drawn0.refl _⟩
theorem six_3 (c : Int) (w : World) (h0 : 48 ≤ c) (h1 : c ≤ 57) :
    Calls Tryd.prog 48 #[.int .u8 c] w fun e w' => e = .returned (.int .i64 (c + 4)) ∧ Drawn0 w w' := by
  have a0 : decide (65 ≤ c) = false := decide_eq_false (by omega)
  have b0 : decide (c ≤ 90) = true := decide_eq_true (by omega)
  have a1 : decide (97 ≤ c) = false := decide_eq_false (by omega)
  have b1 : decide (c ≤ 122) = true := decide_eq_true (by omega)
  have a2 : decide (48 ≤ c) = true := decide_eq_true (by omega)
  have b2 : decide (c ≤ 57) = true := decide_eq_true (by omega)
  have e0 : (c == 45) = false := beq_eq_false_iff_ne.2 (by omega)
  have e1 : (c == 95) = false := beq_eq_false_iff_ne.2 (by omega)
  have w1 : IntKind.u8.wrap (c - 48) = c - 48 := by rw [IntKind.wrap_u8]; omega
  have w2 : IntKind.i64.wrap (c - 48) = c - 48 := by rw [IntKind.wrap_i64]; omega
  have w3 : IntKind.i64.wrap (c - 48 + 52) = c + 4 := by rw [IntKind.wrap_i64]; omega
  go_enter Tryd.func48, Tryd.ntmps48
  go_wp2
  go_ret
  exact ⟨rfl, Drawn0.refl _⟩
theorem six_4 (c : Int) (w : World) (h0 : 58 ≤ c) (h1 : c ≤ 64) :
    Calls Tryd.prog 48 #[.int .u8 c] w fun e w' => e = .returned (.int .i64 (-1)) ∧ Drawn0 w w' := by
  have a0 : decide (65 ≤ c) = false := decide_eq_false (by omega)
  have b0 : decide (c ≤ 90) = true := decide_eq_true (by omega)
  have a1 : decide (97 ≤ c) = false := decide_eq_false (by omega)
  have b1 : decide (c ≤ 122) = true := decide_eq_true (by omega)
  have a2 : decide (48 ≤ c) = true := decide_eq_true (by omega)
  have b2 : decide (c ≤ 57) = false := decide_eq_false (by omega)
  have e0 : (c == 45) = false := beq_eq_false_iff_ne.2 (by omega)
  have e1 : (c == 95) = false := beq_eq_false_iff_ne.2 (by omega)
  go_enter Tryd.func48, Tryd.ntmps48
  go_wp2
  go_ret
  exact ⟨rfl, Drawn0.refl _⟩
theorem six_5 (c : Int) (w : World) (h0 : 65 ≤ c) (h1 : c ≤ 90) :
    Calls Tryd.prog 48 #[.int .u8 c] w fun e w' => e = .returned (.int .i64 (c - 65)) ∧ Drawn0 w w' := by
  have a0 : decide (65 ≤ c) = true := decide_eq_true (by omega)
  have b0 : decide (c ≤ 90) = true := decide_eq_true (by omega)
  have a1 : decide (97 ≤ c) = false := decide_eq_false (by omega)
  have b1 : decide (c ≤ 122) = true := decide_eq_true (by omega)
  have a2 : decide (48 ≤ c) = true := decide_eq_true (by omega)
  have b2 : decide (c ≤ 57) = false := decide_eq_false (by omega)
  have e0 : (c == 45) = false := beq_eq_false_iff_ne.2 (by omega)
  have e1 : (c == 95) = false := beq_eq_false_iff_ne.2 (by omega)
  have w1 : IntKind.u8.wrap (c - 65) = c - 65 := by rw [IntKind.wrap_u8]; omega
  have w2 : IntKind.i64.wrap (c - 65) = c - 65 := by rw [IntKind.wrap_i64]; omega
  have w3 : IntKind.i64.wrap (c - 65 + 0) = c - 65 := by rw [IntKind.wrap_i64]; omega
  go_enter Tryd.func48, Tryd.ntmps48
  go_wp2
  go_ret
  exact ⟨rfl, Drawn0.refl _⟩
theorem six_6 (c : Int) (w : World) (h0 : 91 ≤ c) (h1 : c ≤ 94) :
    Calls Tryd.prog 48 #[.int .u8 c] w fun e w' => e = .returned (.int .i64 (-1)) ∧ Drawn0 w w' := by
  have a0 : decide (65 ≤ c) = true := decide_eq_true (by omega)
  have b0 : decide (c ≤ 90) = false := decide_eq_false (by omega)
  have a1 : decide (97 ≤ c) = false := decide_eq_false (by omega)
  have b1 : decide (c ≤ 122) = true := decide_eq_true (by omega)
  have a2 : decide (48 ≤ c) = true := decide_eq_true (by omega)
  have b2 : decide (c ≤ 57) = false := decide_eq_false (by omega)
  have e0 : (c == 45) = false := beq_eq_false_iff_ne.2 (by omega)
  have e1 : (c == 95) = false := beq_eq_false_iff_ne.2 (by omega)
  go_enter Tryd.func48, Tryd.ntmps48
  go_wp2
  go_ret
  exact ⟨rfl, Drawn0.refl _⟩
theorem six_7 (c : Int) (w : World) (h0 : 95 ≤ c) (h1 : c ≤ 95) :
    Calls Tryd.prog 48 #[.int .u8 c] w fun e w' => e = .returned (.int .i64 (63)) ∧ Drawn0 w w' := by
  have a0 : decide (65 ≤ c) = true := decide_eq_true (by omega)
  have b0 : decide (c ≤ 90) = false := decide_eq_false (by omega)
  have a1 : decide (97 ≤ c) = false := decide_eq_false (by omega)
  have b1 : decide (c ≤ 122) = true := decide_eq_true (by omega)
  have a2 : decide (48 ≤ c) = true := decide_eq_true (by omega)
  have b2 : decide (c ≤ 57) = false := decide_eq_false (by omega)
  have e0 : (c == 45) = false := beq_eq_false_iff_ne.2 (by omega)
  have e1 : (c == 95) = true := beq_iff_eq.2 (by omega)
  go_enter Tryd.func48, Tryd.ntmps48
  go_wp2
  go_ret
  exact ⟨rfl, Drawn0.refl _⟩
theorem six_8 (c : Int) (w : World) (h0 : 96 ≤ c) (h1 : c ≤ 96) :
    Calls Tryd.prog 48 #[.int .u8 c] w fun e w' => e = .returned (.int .i64 (-1)) ∧ Drawn0 w w' := by
  have a0 : decide (65 ≤ c) = true := decide_eq_true (by omega)
  have b0 : decide (c ≤ 90) = false := decide_eq_false (by omega)
  have a1 : decide (97 ≤ c) = false := decide_eq_false (by omega)
  have b1 : decide (c ≤ 122) = true := decide_eq_true (by omega)
  have a2 : decide (48 ≤ c) = true := decide_eq_true (by omega)
  have b2 : decide (c ≤ 57) = false := decide_eq_false (by omega)
  have e0 : (c == 45) = false := beq_eq_false_iff_ne.2 (by omega)
  have e1 : (c == 95) = false := beq_eq_false_iff_ne.2 (by omega)
  go_enter Tryd.func48, Tryd.ntmps48
  go_wp2
  go_ret
  exact ⟨rfl, Drawn0.refl _⟩
theorem six_9 (c : Int) (w : World) (h0 : 97 ≤ c) (h1 : c ≤ 122) :
    Calls Tryd.prog 48 #[.int .u8 c] w fun e w' => e = .returned (.int .i64 (c - 71)) ∧ Drawn0 w w' := by
  have a0 : decide (65 ≤ c) = true := decide_eq_true (by omega)
  have b0 : decide (c ≤ 90) = false := decide_eq_false (by omega)
  have a1 : decide (97 ≤ c) = true := decide_eq_true (by omega)
  have b1 : decide (c ≤ 122) = true := decide_eq_true (by omega)
  have a2 : decide (48 ≤ c) = true := decide_eq_true (by omega)
  have b2 : decide (c ≤ 57) = false := decide_eq_false (by omega)
  have e0 : (c == 45) = false := beq_eq_false_iff_ne.2 (by omega)
  have e1 : (c == 95) = false := beq_eq_false_iff_ne.2 (by omega)
  have w1 : IntKind.u8.wrap (c - 97) = c - 97 := by rw [IntKind.wrap_u8]; omega
  have w2 : IntKind.i64.wrap (c - 97) = c - 97 := by rw [IntKind.wrap_i64]; omega
  have w3 : IntKind.i64.wrap (c - 97 + 26) = c - 71 := by rw [IntKind.wrap_i64]; omega
  go_enter Tryd.func48, Tryd.ntmps48
  go_wp2
  go_ret
  exact ⟨rfl, Drawn0.refl _⟩
theorem six_10 (c : Int) (w : World) (h0 : 123 ≤ c) (h1 : c ≤ 255) :
    Calls Tryd.prog 48 #[.int .u8 c] w fun e w' => e = .returned (.int .i64 (-1)) ∧ Drawn0 w w' := by
  have a0 : decide (65 ≤ c) = true := decide_eq_true (by omega)
  have b0 : decide (c ≤ 90) = false := decide_eq_false (by omega)
  have a1 : decide (97 ≤ c) = true := decide_eq_true (by omega)
  have b1 : decide (c ≤ 122) = false := decide_eq_false (by omega)
  have a2 : decide (48 ≤ c) = true := decide_eq_true (by omega)
  have b2 : decide (c ≤ 57) = false := decide_eq_false (by omega)
  have e0 : (c == 45) = false := beq_eq_false_iff_ne.2 (by omega)
  have e1 : (c == 95) = false := beq_eq_false_iff_ne.2 (by omega)
  go_enter Tryd.func48, Tryd.ntmps48
  go_wp2
  go_ret
  exact ⟨rfl, Drawn0.refl _⟩
theorem six_calls (c : Int) (w : World) (h0 : 0 ≤ c) (h1 : c < 256) :
    Calls Tryd.prog 48 #[.int .u8 c] w fun e w' => e = .returned (.int .i64 (sixOf c)) ∧ Drawn0 w w' := by
  have hc : (0 ≤ c ∧ c ≤ 44) ∨ (45 ≤ c ∧ c ≤ 45) ∨ (46 ≤ c ∧ c ≤ 47) ∨ (48 ≤ c ∧ c ≤ 57) ∨ (58 ≤ c ∧ c ≤ 64) ∨ (65 ≤ c ∧ c ≤ 90) ∨ (91 ≤ c ∧ c ≤ 94) ∨ (95 ≤ c ∧ c ≤ 95) ∨ (96 ≤ c ∧ c ≤ 96) ∨ (97 ≤ c ∧ c ≤ 122) ∨ (123 ≤ c ∧ c ≤ 255) := by omega
  rcases hc with ⟨k0, k1⟩ | ⟨k0, k1⟩ | ⟨k0, k1⟩ | ⟨k0, k1⟩ | ⟨k0, k1⟩ | ⟨k0, k1⟩ | ⟨k0, k1⟩ | ⟨k0, k1⟩ | ⟨k0, k1⟩ | ⟨k0, k1⟩ | ⟨k0, k1⟩
  · have e : sixOf c = -1 := by
      unfold sixOf
      repeat' split
      all_goals omega
    rw [e]
    exact six_0 c w k0 k1
  · have e : sixOf c = 62 := by
      unfold sixOf
      repeat' split
      all_goals omega
    rw [e]
    exact six_1 c w k0 k1
  · have e : sixOf c = -1 := by
      unfold sixOf
      repeat' split
      all_goals omega
    rw [e]
    exact six_2 c w k0 k1
  · have e : sixOf c = c + 4 := by
      unfold sixOf
      repeat' split
      all_goals omega
    rw [e]
    exact six_3 c w k0 k1
  · have e : sixOf c = -1 := by
      unfold sixOf
      repeat' split
      all_goals omega
    rw [e]
    exact six_4 c w k0 k1
  · have e : sixOf c = c - 65 := by
      unfold sixOf
      repeat' split
      all_goals omega
    rw [e]
    exact six_5 c w k0 k1
  · have e : sixOf c = -1 := by
      unfold sixOf
      repeat' split
      all_goals omega
    rw [e]
    exact six_6 c w k0 k1
  · have e : sixOf c = 63 := by
      unfold sixOf
      repeat' split
      all_goals omega
    rw [e]
    exact six_7 c w k0 k1
  · have e : sixOf c = -1 := by
      unfold sixOf
      repeat' split
      all_goals omega
    rw [e]
    exact six_8 c w k0 k1
  · have e : sixOf c = c - 71 := by
      unfold sixOf
      repeat' split
      all_goals omega
    rw [e]
    exact six_9 c w k0 k1
  · have e : sixOf c = -1 := by
      unfold sixOf
      repeat' split
      all_goals omega
    rw [e]
    exact six_10 c w k0 k1
end Go.Proofs.YtcgenmogedndjaaDoor
namespace Go.Proofs.YtcgenmogedndjaaDoor
open Go.RowKit Go.Proofs.YtcgenmogedndjaaDoorW.PrintWords
/-- The letters, in their order. -/
def alphaS : ByteArray := ⟨#[65, 66, 67, 68, 69, 70, 71, 72, 73, 74, 75, 76, 77, 78, 79, 80, 81, 82, 83, 84, 85, 86, 87, 88, 89, 90, 97, 98, 99, 100, 101, 102, 103, 104, 105, 106, 107, 108, 109, 110, 111, 112, 113, 114, 115, 116, 117, 118, 119, 120, 121, 122, 48, 49, 50, 51, 52, 53, 54, 55, 56, 57, 45, 95]⟩
def alpha (n : Int) : Int := bt alphaS n
theorem six_alpha : ∀ n : Fin 64, sixOf (alpha (n.val : Int)) = n.val ∧ 0 ≤ alpha (n.val : Int) ∧ alpha (n.val : Int) < 256 := by decide +kernel
theorem alpha_six : ∀ c : Fin 256, 0 ≤ sixOf (c.val : Int) → alpha (sixOf (c.val : Int)) = c.val ∧ sixOf (c.val : Int) < 64 := by decide +kernel
theorem sixOf_alpha (n : Int) (h0 : 0 ≤ n) (h1 : n < 64) : sixOf (alpha n) = n ∧ 0 ≤ alpha n ∧ alpha n < 256 := by
  have h := six_alpha ⟨n.toNat, by omega⟩
  simp only [Int.toNat_of_nonneg h0] at h
  exact h
theorem alpha_sixOf (c : Int) (h0 : 0 ≤ c) (h1 : c < 256) (h : 0 ≤ sixOf c) : alpha (sixOf c) = c ∧ sixOf c < 64 := by
  have k := alpha_six ⟨c.toNat, by omega⟩
  simp only [Int.toNat_of_nonneg h0] at k
  exact k h
end Go.Proofs.YtcgenmogedndjaaDoor
namespace Go.Proofs.YtcgenmogedndjaaDoor
open Go.RowKit Go.Proofs.YtcgenmogedndjaaDoorW.PrintWords
/-- Bytes in letters, three bytes in four letters. -/
def sp3 : List Int → List Int
  | [] => []
  | [a] => [alpha (a / 4), alpha (a % 4 * 16)]
  | [a, b] => [alpha (a / 4), alpha (a % 4 * 16 + b / 16), alpha (b % 16 * 4)]
  | a :: b :: c :: t => alpha (a / 4) :: alpha (a % 4 * 16 + b / 16) :: alpha (b % 16 * 4 + c / 64) :: alpha (c % 64) :: sp3 t
/-- Letters out of held bits: at most two. -/
def drain (held : Int) : Nat → List Int → Nat × List Int
  | m + 6, O => drain held m (O ++ [alpha (held / 2 ^ m % 64)])
  | m, O => (m, O)
def spRun : List Int → Int → Nat → List Int → List Int
  | [], h, m, O => if 0 < m then O ++ [alpha (h * 2 ^ (6 - m) % 64)] else O
  | x :: t, h, m, O => spRun t ((h * 256 + x) % 64) (drain (h * 256 + x) (m + 8) O).1 (drain (h * 256 + x) (m + 8) O).2
theorem spRun_sp3 : ∀ (l : List Int) (O : List Int) (h : Int), Bytes l → spRun l h 0 O = O ++ sp3 l
  | [], O, h, _ => by simp [spRun, sp3]
  | [a], O, h, hb => by
    have ha := hb a (by simp)
    simp [spRun, sp3, drain]
    refine ⟨congrArg alpha (by omega), congrArg alpha (by omega)⟩
  | [a, b], O, h, hb => by
    have ha := hb a (by simp)
    have hb' := hb b (by simp)
    simp [spRun, sp3, drain]
    refine ⟨congrArg alpha (by omega), congrArg alpha (by omega), congrArg alpha (by omega)⟩
  | a :: b :: c :: t, O, h, hb => by
    have ha := hb a (by simp)
    have hb' := hb b (by simp)
    have hc := hb c (by simp)
    rw [spRun, spRun, spRun]
    simp only [drain]
    rw [spRun_sp3 t _ _ (fun x hx => hb x (by simp [hx]))]
    simp [sp3]
    refine ⟨congrArg alpha (by omega), congrArg alpha (by omega), congrArg alpha (by omega), congrArg alpha (by omega)⟩
theorem sp3_length : ∀ (l : List Int), (sp3 l).length = (4 * l.length + 2) / 3
  | [] => rfl
  | [a] => by simp [sp3]
  | [a, b] => by simp [sp3]
  | a :: b :: c :: t => by
    simp only [sp3, List.length_cons, sp3_length t]
    omega
theorem sp3_Bytes : ∀ (l : List Int), Bytes l → Bytes (sp3 l)
  | [], _ => Bytes.nil
  | [a], hb => by
    have ha := hb a (by simp)
    have h1 := (sixOf_alpha (a / 4) (by omega) (by omega)).2
    have h2 := (sixOf_alpha (a % 4 * 16) (by omega) (by omega)).2
    exact Bytes.con h1.1 h1.2 (Bytes.con h2.1 h2.2 Bytes.nil)
  | [a, b], hb => by
    have ha := hb a (by simp)
    have hb' := hb b (by simp)
    have h1 := (sixOf_alpha (a / 4) (by omega) (by omega)).2
    have h2 := (sixOf_alpha (a % 4 * 16 + b / 16) (by omega) (by omega)).2
    have h3 := (sixOf_alpha (b % 16 * 4) (by omega) (by omega)).2
    exact Bytes.con h1.1 h1.2 (Bytes.con h2.1 h2.2 (Bytes.con h3.1 h3.2 Bytes.nil))
  | a :: b :: c :: t, hb => by
    have ha := hb a (by simp)
    have hb' := hb b (by simp)
    have hc := hb c (by simp)
    have h1 := (sixOf_alpha (a / 4) (by omega) (by omega)).2
    have h2 := (sixOf_alpha (a % 4 * 16 + b / 16) (by omega) (by omega)).2
    have h3 := (sixOf_alpha (b % 16 * 4 + c / 64) (by omega) (by omega)).2
    have h4 := (sixOf_alpha (c % 64) (by omega) (by omega)).2
    exact Bytes.con h1.1 h1.2 (Bytes.con h2.1 h2.2 (Bytes.con h3.1 h3.2 (Bytes.con h4.1 h4.2 (sp3_Bytes t (fun x hx => hb x (by simp [hx]))))))
/-- What letters spell, letter by letter: the bits held, how many, the bytes. -/
def unRun : List Int → Int → Nat → List Int → Option (List Int)
  | [], h, m, O => if m = 6 ∨ h ≠ 0 then none else some O
  | c :: t, h, m, O =>
    if sixOf c < 0 then none
    else if 2 ≤ m then unRun t ((h * 64 + sixOf c) % 2 ^ (m - 2)) (m - 2) (O ++ [(h * 64 + sixOf c) / 2 ^ (m - 2) % 256])
    else unRun t (h * 64 + sixOf c) (m + 6) O
theorem unRun_acc : ∀ (s : List Int) (h : Int) (m : Nat) (O : List Int), unRun s h m O = (unRun s h m []).map (O ++ ·)
  | [], h, m, O => by unfold unRun; split <;> simp
  | c :: t, h, m, O => by
    unfold unRun
    split
    · rfl
    split
    · rw [unRun_acc t _ _ (O ++ _), unRun_acc t _ _ ([] ++ _)]
      simp [Option.map_map, Function.comp_def]
    · exact unRun_acc t _ _ O
theorem unRun_spelt : ∀ (l : List Int), Bytes l → unRun (sp3 l) 0 0 [] = some l
  | [], _ => rfl
  | [a], hb => by
    have ha := hb a (by simp)
    have h1 := (sixOf_alpha (a / 4) (by omega) (by omega)).1
    have h2 := (sixOf_alpha (a % 4 * 16) (by omega) (by omega)).1
    simp [sp3, unRun, h1, h2]
    omega
  | [a, b], hb => by
    have ha := hb a (by simp)
    have hb' := hb b (by simp)
    have h1 := (sixOf_alpha (a / 4) (by omega) (by omega)).1
    have h2 := (sixOf_alpha (a % 4 * 16 + b / 16) (by omega) (by omega)).1
    have h3 := (sixOf_alpha (b % 16 * 4) (by omega) (by omega)).1
    simp [sp3, unRun, h1, h2, h3]
    omega
  | a :: b :: c :: t, hb => by
    have ha := hb a (by simp)
    have hb' := hb b (by simp)
    have hc := hb c (by simp)
    have h1 := (sixOf_alpha (a / 4) (by omega) (by omega)).1
    have h2 := (sixOf_alpha (a % 4 * 16 + b / 16) (by omega) (by omega)).1
    have h3 := (sixOf_alpha (b % 16 * 4 + c / 64) (by omega) (by omega)).1
    have h4 := (sixOf_alpha (c % 64) (by omega) (by omega)).1
    have ih := unRun_spelt t (fun x hx => hb x (by simp [hx]))
    simp [sp3, unRun, h1, h2, h3, h4, Int.emod_one]
    refine ⟨by omega, by omega, by omega, by omega, ?_⟩
    rw [unRun_acc, ih]
    simp
    omega
theorem sixOf_some {c : Int} (hc : 0 ≤ c ∧ c < 256) (h : ¬ sixOf c < 0) : ∃ A, sixOf c = A ∧ 0 ≤ A ∧ A < 64 ∧ alpha A = c := by
  have k := alpha_sixOf c hc.1 hc.2 (by omega)
  exact ⟨_, rfl, by omega, k.2, k.1⟩
theorem spelt_unRun : ∀ (s q : List Int), Bytes s → unRun s 0 0 [] = some q → sp3 q = s ∧ Bytes q
  | [], q, _, h => by
    simp [unRun] at h
    subst h
    exact ⟨rfl, Bytes.nil⟩
  | [a], q, hb, h => by
    by_cases ha : sixOf a < 0
    · simp [unRun, ha] at h
    · simp [unRun, ha] at h
  | [a, b], q, hb, h => by
    by_cases ha : sixOf a < 0
    · simp [unRun, ha] at h
    by_cases hb1 : sixOf b < 0
    · simp [unRun, ha, hb1] at h
    simp only [unRun, ha, hb1] at h
    obtain ⟨A, eA, A0, A1, kA⟩ := sixOf_some (hb a (by simp)) ha
    obtain ⟨B, eB, B0, B1, kB⟩ := sixOf_some (hb b (by simp)) hb1
    rw [eA, eB] at h
    simp at h
    obtain ⟨h1, rfl⟩ := h
    refine ⟨?_, Bytes.con (by omega) (by omega) Bytes.nil⟩
    rw [sp3, ← kA, ← kB]
    simp
    refine ⟨congrArg alpha (by omega), congrArg alpha (by omega)⟩
  | [a, b, c], q, hb, h => by
    by_cases ha : sixOf a < 0
    · simp [unRun, ha] at h
    by_cases hb1 : sixOf b < 0
    · simp [unRun, ha, hb1] at h
    by_cases hc1 : sixOf c < 0
    · simp [unRun, ha, hb1, hc1] at h
    simp only [unRun, ha, hb1, hc1] at h
    obtain ⟨A, eA, A0, A1, kA⟩ := sixOf_some (hb a (by simp)) ha
    obtain ⟨B, eB, B0, B1, kB⟩ := sixOf_some (hb b (by simp)) hb1
    obtain ⟨C, eC, C0, C1, kC⟩ := sixOf_some (hb c (by simp)) hc1
    rw [eA, eB, eC] at h
    simp at h
    obtain ⟨h1, rfl⟩ := h
    refine ⟨?_, Bytes.con (by omega) (by omega) (Bytes.con (by omega) (by omega) Bytes.nil)⟩
    rw [sp3, ← kA, ← kB, ← kC]
    simp
    refine ⟨congrArg alpha (by omega), congrArg alpha (by omega), congrArg alpha (by omega)⟩
  | a :: b :: c :: d :: t, q, hb, h => by
    by_cases ha : sixOf a < 0
    · simp [unRun, ha] at h
    by_cases hb1 : sixOf b < 0
    · simp [unRun, ha, hb1] at h
    by_cases hc1 : sixOf c < 0
    · simp [unRun, ha, hb1, hc1] at h
    by_cases hd1 : sixOf d < 0
    · simp [unRun, ha, hb1, hc1, hd1] at h
    simp only [unRun, ha, hb1, hc1, hd1] at h
    obtain ⟨A, eA, A0, A1, kA⟩ := sixOf_some (hb a (by simp)) ha
    obtain ⟨B, eB, B0, B1, kB⟩ := sixOf_some (hb b (by simp)) hb1
    obtain ⟨C, eC, C0, C1, kC⟩ := sixOf_some (hb c (by simp)) hc1
    obtain ⟨D, eD, D0, D1, kD⟩ := sixOf_some (hb d (by simp)) hd1
    rw [eA, eB, eC, eD] at h
    simp [Int.emod_one] at h
    rw [unRun_acc] at h
    simp only [Option.map_eq_some_iff] at h
    obtain ⟨q', hq, rfl⟩ := h
    have ih := spelt_unRun t q' (fun x hx => hb x (by simp [hx])) hq
    refine ⟨?_, Bytes.con (by omega) (by omega) (Bytes.con (by omega) (by omega) (Bytes.con (by omega) (by omega) ih.2))⟩
    simp only [List.cons_append, List.nil_append, sp3, ih.1]
    rw [← kA, ← kB, ← kC, ← kD]
    simp
    refine ⟨congrArg alpha (by omega), congrArg alpha (by omega), congrArg alpha (by omega), congrArg alpha (by omega)⟩
end Go.Proofs.YtcgenmogedndjaaDoor
namespace Go.Proofs.YtcgenmogedndjaaDoor
open Go.RowKit Go.Proofs.YtcgenmogedndjaaDoorW.PrintWords
structure Sec where
  id : Int
  key : List Int
structure Clm where
  client : ByteArray
  group : ByteArray
  upto : Int
/-- A claim's cells. -/
def Clm.cells (c : Clm) : Array Value := #[.string c.client, .string c.group, .int .i64 c.upto]
def Clm.none : Clm := ⟨ByteArray.empty, ByteArray.empty, 0⟩
def Sec.none : Sec := ⟨0, []⟩
def secK : Kd Sec := Kd.iso (Kd.pair (Kd.int .i64) (Kd.slice 5 (Kd.int .u8))) (fun x : Sec => (x.id, x.key))
abbrev RdS (w : World) (A : Option Addr) (n : Nat) (L : List Sec) : Prop := Kd.C secK w A n L
theorem RdS.at {w : World} {A : Option Addr} {n : Nat} {L : List Sec} (h : RdS w A n L) (i : Nat) (hi : i < n) : ∃ ad Ai ci, A = some ad ∧ w.cell? (ad.add (i * 2)) = some (.int .i64 (L.getD i Sec.none).id) ∧
    w.cell? ⟨(ad.add (i * 2)).block, (ad.add (i * 2)).off + 1, none⟩ = some (.slice Ai (L.getD i Sec.none).key.length ci) ∧ (L.getD i Sec.none).key.length ≤ ci ∧ Rd w Ai (L.getD i Sec.none).key.length (L.getD i Sec.none).key := by
  obtain ⟨ad, c, e, _, hK, hc0⟩ := Kd.C_get h Sec.none (i : Int) (by omega) (by omega)
  simp only [Int.toNat_natCast] at hK hc0
  have hc : ∀ j u, c[j]? = some u → w.cell? (ad.add (i * 2 + j)) = some u := hc0
  obtain ⟨_, _, rfl, rfl, ⟨Ai, ci, rfl, l1, g1⟩⟩ := hK
  exact ⟨ad, Ai, ci, e, hc 0 _ rfl, by rw [← add_field _ _ 1 (by omega)]; exact hc 1 _ rfl, l1, g1⟩
/-- Every key's numbers are bytes, every ID is one of 64 bits. -/
def SecOk (L : List Sec) : Prop := ∀ s ∈ L, Bytes s.key ∧ -9223372036854775808 ≤ s.id ∧ s.id ≤ 9223372036854775807
theorem SecOk.at {L : List Sec} (h : SecOk L) (i : Nat) (hi : i < L.length) : Bytes (L.getD i Sec.none).key ∧ -9223372036854775808 ≤ (L.getD i Sec.none).id ∧ (L.getD i Sec.none).id ≤ 9223372036854775807 := by
  rw [List.getD_eq_getElem?_getD, List.getElem?_eq_getElem hi]
  exact h _ (List.getElem_mem hi)
/-- May a byte stand in a name? -/
def nameCh (x : Int) : Bool := decide (x = 46 ∨ x = 45 ∨ x = 95 ∨ (48 ≤ x ∧ x ≤ 57) ∨ (97 ≤ x ∧ x ≤ 122) ∨ (65 ≤ x ∧ x ≤ 90))
def nameB (s : ByteArray) : Bool := (bytesOf s).all nameCh && decide (1 ≤ s.size ∧ s.size ≤ 24)
theorem nameB_bad {s : ByteArray} (k : Nat) (hk : k < s.size) (h : nameCh (rd (bytesOf s) k) = false) : nameB s = false := by
  have hl := bytesOf_length s
  unfold nameB
  rw [Bool.and_eq_false_iff]
  left
  rw [List.all_eq_false]
  refine ⟨rd (bytesOf s) k, ?_, by rw [h]; decide⟩
  rw [rd_get _ k (by omega)]
  exact List.getElem_mem _
theorem nameB_all {s : ByteArray} (h : ∀ k, k < s.size → nameCh (rd (bytesOf s) (k : Nat)) = true) : nameB s = decide (1 ≤ s.size ∧ s.size ≤ 24) := by
  have hl := bytesOf_length s
  unfold nameB
  have : (bytesOf s).all nameCh = true := by
    rw [List.all_eq_true]
    intro x hx
    obtain ⟨k, hk, rfl⟩ := List.getElem_of_mem hx
    rw [← rd_get _ k hk]
    exact h k (by omega)
  rw [this, Bool.true_and]
theorem nameB_size {s : ByteArray} (h : nameB s = true) : 1 ≤ s.size ∧ s.size ≤ 24 := by
  unfold nameB at h
  rw [Bool.and_eq_true, decide_eq_true_eq] at h
  exact h.2
/-- May these secrets be? -/
def rise : Int → List Sec → Bool
  | _, [] => true
  | last, s :: t => decide (last < s.id ∧ s.id ≤ 1099511627776 ∧ 16 ≤ s.key.length ∧ s.key.length ≤ 64) && rise s.id t
def checkB (L : List Sec) : Bool := decide (1 ≤ L.length ∧ L.length ≤ 8) && rise (-1) L
def checkE (L : List Sec) : Int := if checkB L = true then 0 else 102
theorem checkB_long {L : List Sec} (h : L.length = 0 ∨ 8 < L.length) : checkE L = 102 := by
  unfold checkE checkB
  rw [decide_eq_false (by omega), Bool.false_and]
  rfl
theorem checkB_eq {L : List Sec} (h : 1 ≤ L.length ∧ L.length ≤ 8) : checkB L = rise (-1) L := by
  unfold checkB
  rw [decide_eq_true h, Bool.true_and]
theorem getD_drop (L : List Sec) (k : Nat) (h : k < L.length) : L.drop k = L.getD k Sec.none :: L.drop (k + 1) := by
  rw [List.getD_eq_getElem?_getD, List.getElem?_eq_getElem h]
  exact List.drop_eq_getElem_cons h
theorem rise_step (L : List Sec) (k : Nat) (h : k < L.length) (last : Int) : rise last (L.drop k) = (decide (last < (L.getD k Sec.none).id ∧ (L.getD k Sec.none).id ≤ 1099511627776 ∧ 16 ≤ (L.getD k Sec.none).key.length ∧ (L.getD k Sec.none).key.length ≤ 64) && rise (L.getD k Sec.none).id (L.drop (k + 1))) := by
  rw [getD_drop L k h]
  rfl
end Go.Proofs.YtcgenmogedndjaaDoor
namespace Go.Proofs.YtcgenmogedndjaaDoor
/-- How many bytes a number has (1 to 8). -/
def byteLen (x : Int) : Nat :=
  if x < 256 then 1 else if x < 65536 then 2 else if x < 16777216 then 3 else if x < 4294967296 then 4
  else if x < 1099511627776 then 5 else if x < 281474976710656 then 6 else if x < 72057594037927936 then 7 else 8
/-- So many bytes of a number, the highest first. -/
def beBytes (k : Nat) (x : Int) : List Int := (List.range k).map fun t => x / 256 ^ (k - 1 - t) % 256
def numForm (x : Int) : List Int := if x ≤ 247 then [max x 0] else (247 + (byteLen x : Int)) :: beBytes (byteLen x) x
theorem beBytes_length (k : Nat) (x : Int) : (beBytes k x).length = k := by simp [beBytes]
theorem beBytes_take (k t : Nat) (x : Int) (h : t < k) : (beBytes k x).take (t + 1) = (beBytes k x).take t ++ [x / 256 ^ (k - 1 - t) % 256] := by
  rw [List.take_succ_eq_append_getElem (by rw [beBytes_length]; exact h)]
  simp [beBytes]
theorem beBytes_Bytes (k : Nat) (x : Int) : Bytes (beBytes k x) := by
  intro y hy
  unfold beBytes at hy
  obtain ⟨t, _, rfl⟩ := List.mem_map.1 hy
  omega
theorem byteLen_range (x : Int) : 1 ≤ byteLen x ∧ byteLen x ≤ 8 := by
  unfold byteLen
  repeat' split
  all_goals omega
theorem numForm_Bytes (x : Int) : Bytes (numForm x) := by
  have := byteLen_range x
  unfold numForm
  split
  · exact Bytes.con (by omega) (by omega) Bytes.nil
  · exact Bytes.con (by omega) (by omega) (beBytes_Bytes _ _)
theorem numForm_length (x : Int) : 1 ≤ (numForm x).length ∧ (numForm x).length ≤ 9 := by
  have := byteLen_range x
  unfold numForm
  split
  · simp
  · simp only [List.length_cons, beBytes_length]; omega
theorem bitLen_small : ∀ n : Fin 256, 1 ≤ n.val → 1 ≤ Lib.bitLen n.val ∧ Lib.bitLen n.val ≤ 8 := by decide +kernel
theorem bitLen_byte (x : Int) (h : 248 ≤ x) (h1 : x < 9223372036854775808) : (Lib.bitLen x.toNat + 7) / 8 = byteLen x := by
  obtain ⟨n, rfl⟩ := Int.eq_ofNat_of_zero_le (show 0 ≤ x by omega)
  rw [Int.toNat_natCast]
  have key : ∀ j, 2 ^ (8 * j) ≤ n → n < 2 ^ (8 * (j + 1)) → (Lib.bitLen n + 7) / 8 = j + 1 := by
    intro j h0 h2
    rw [Lib.bitLen_shift (8 * j) n h0 (by omega)]
    have hp : 0 < 2 ^ (8 * j) := Nat.two_pow_pos _
    have hq : n / 2 ^ (8 * j) < 256 := by
      rw [Nat.div_lt_iff_lt_mul hp]
      have : 2 ^ (8 * (j + 1)) = 256 * 2 ^ (8 * j) := by rw [Nat.mul_add, Nat.pow_add, Nat.mul_comm]
      omega
    have h1' : 1 ≤ n / 2 ^ (8 * j) := (Nat.le_div_iff_mul_le hp).2 (by omega)
    have := bitLen_small ⟨_, hq⟩ h1'
    simp only at this
    omega
  unfold byteLen
  split
  · exact key 0 (by omega) (by omega)
  split
  · exact key 1 (by omega) (by omega)
  split
  · exact key 2 (by omega) (by omega)
  split
  · exact key 3 (by omega) (by omega)
  split
  · exact key 4 (by omega) (by omega)
  split
  · exact key 5 (by omega) (by omega)
  split
  · exact key 6 (by omega) (by omega)
  · exact key 7 (by omega) (by omega)
end Go.Proofs.YtcgenmogedndjaaDoor
namespace Go.Proofs.YtcgenmogedndjaaDoor
open Go.Shelf
def lays129_ren : Go.Shelf.Ren := ⟨fun | 129 => 76 | n => n, fun | 53 => 113 | 3 => 3 | 4 => 4 | 46 => 36 | 5 => 5 | 9 => 9 | n => n, fun | n => n⟩
theorem lays129 : Go.Proofs.Lays.n129 Tryd.prog lays129_ren := {
  mixed := by kernel_rfl
  f129 := Tryd.func76.trans (congrArg some (by kernel_rfl))
  t3 := Tryd.underlying3
  a3 := Tryd.isAgg3
  z3 := Tryd.sizeOf3
  v3 := Tryd.zeroValue3
  t4 := Tryd.underlying4
  a4 := Tryd.isAgg4
  z4 := Tryd.sizeOf4
  v4 := Tryd.zeroValue4
  t5 := Tryd.underlying5
  a5 := Tryd.isAgg5
  z5 := Tryd.sizeOf5
  v5 := Tryd.zeroValue5
  t9 := Tryd.underlying9
  a9 := Tryd.isAgg9
  z9 := Tryd.sizeOf9
  v9 := Tryd.zeroValue9
  t46 := Tryd.underlying36
  a46 := Tryd.isAgg36
  z46 := Tryd.sizeOf36
  v46 := Tryd.zeroValue36
  t53 := Tryd.underlying113
  a53 := Tryd.isAgg113
  z53 := Tryd.sizeOf113
  v53 := Tryd.zeroValue113 }
theorem Len64_calls (x : Int) (w : World) (h0 : 0 ≤ x) (h1 : x ≤ 18446744073709551615) :
    Calls Tryd.prog 76 #[.int .u64 x] w fun e w' => e = .returned (.int .i64 (Lib.bitLen x.toNat)) ∧ w' = w := Any.bits_Len64 lays129 x w h0 h1
end Go.Proofs.YtcgenmogedndjaaDoor
namespace Go.Proofs.YtcgenmogedndjaaDoor
open Go.RowKit Go.Proofs.YtcgenmogedndjaaDoorW.PrintWords Go.Proofs.YtcgenmogedndjaaDoorW.PrintMore
attribute [local go_sem] max2_int max_two
set_option maxHeartbeats 1600000 in
theorem Number_small {n : Nat} (A0 : Option Addr) (c0 : Nat) (l0 : List Int) (x : Int) (w : World) (hr0 : Rd w A0 n l0) (hs0 : n ≤ 140737488351232) (hx : -9223372036854775808 ≤ x) (hsm : x ≤ 247) :
    Calls Tryd.prog 61 #[.slice A0 n c0, .int .i64 x] w fun e w' => ∃ v0_ : Value, e = .returned (v0_) ∧ Own w w' v0_ (l0 ++ numForm x) ∧ Below w.heap.size w w' := by
  have hlen := Kd.C_len hr0
  have HR := Lib.hid hr0
  clear hr0
  have HF := Lib.hid (show numForm x = [max x 0] from if_pos hsm)
  by_cases hneg : x < 0
  case' pos =>
    have hd : decide (x < 0) = true := decide_eq_true hneg
    have HM := Lib.hid (show [max x 0] = [0] by rw [Int.max_eq_right (by omega)])
  case' neg =>
    have hd : decide (x < 0) = false := decide_eq_false hneg
    have HM := Lib.hid (show [max x 0] = [x] by rw [Int.max_eq_left (by omega)])
  all_goals
    go_enter Tryd.func61, Tryd.ntmps61
    go_wp2_with (at_builtin; refine app_row (Own.nil w w) HR.out (Below.refl _ _) (by simp; omega) rfl rfl rfl rfl ?_)
    intro v1 w1 ho1 hb1 _ _
    have HO1 := Lib.hid (ho1.cast (List.nil_append l0))
    have HB1 := Lib.hid hb1
    clear ho1 hb1
    go_wp2_with (at_builtin; refine app_one HO1.out HB1.out (by omega) rfl rfl rfl rfl ?_)
    intro v2 w2 ho2 hb2 _ _
    go_wp2
    go_ret
    exact ⟨_, rfl, ho2.cast (by rw [HF.out, HM.out]), hb2⟩
set_option maxHeartbeats 1600000 in
theorem Number_big {n : Nat} (A0 : Option Addr) (c0 : Nat) (l0 : List Int) (x : Int) (w : World) (hr0 : Rd w A0 n l0) (hs0 : n ≤ 140737488351232) (hsm : 247 < x) (hx1 : x ≤ 9223372036854775807) :
    Calls Tryd.prog 61 #[.slice A0 n c0, .int .i64 x] w fun e w' => ∃ v0_ : Value, e = .returned (v0_) ∧ Own w w' v0_ (l0 ++ numForm x) ∧ Below w.heap.size w w' := by
  have hlen := Kd.C_len hr0
  have HR := Lib.hid hr0
  clear hr0
  have HF := Lib.hid (show numForm x = (247 + (byteLen x : Int)) :: beBytes (byteLen x) x from if_neg (by omega))
  have hd : decide (x < 0) = false := decide_eq_false (by omega)
  have hd2 : decide (x ≤ 247) = false := decide_eq_false (by omega)
  have hk := byteLen_range x
  have HK := Lib.hid (bitLen_byte x (by omega) (by omega))
  obtain ⟨b, hb⟩ : ∃ b : Nat, b = Lib.bitLen x.toNat := ⟨_, rfl⟩
  rw [← hb] at HK
  have hb8 : b ≤ 64 := by have := HK.out; omega
  have HBL := Lib.hid hb.symm
  clear hb
  go_enter Tryd.func61, Tryd.ntmps61
  go_wp2_with (at_builtin; refine app_row (Own.nil w w) HR.out (Below.refl _ _) (by simp; omega) rfl rfl rfl rfl ?_)
  intro v1 w1 ho1 hb1 _ _
  have HO1 := Lib.hid (ho1.cast (List.nil_append l0))
  have HB1 := Lib.hid hb1
  clear ho1 hb1
  go_wp2_with fail
  refine (Len64_calls x _ (by omega) (by omega)).mono ?_
  rintro e w' ⟨rfl, rfl⟩
  rw [HBL.out]
  go_wp2_with (at_builtin; refine app_one HO1.out HB1.out (by omega) rfl rfl rfl rfl ?_)
  intro v2 w2 ho2 hb2 _ _
  have HO2 := Lib.hid (show Own w w2 v2 (l0 ++ (247 + (byteLen x : Int)) :: (beBytes (byteLen x) x).take (byteLen x - byteLen x)) from ho2.cast (by have := HK.out; rw [show (247 : Int) + ((b : Int) + 7) / 8 = 247 + (byteLen x : Int) by omega]; simp))
  have HB2 := Lib.hid hb2
  clear ho2 hb2 HO1 HB1
  have HKi := Lib.hid (show ((b : Int) + 7) / 8 - 1 = (byteLen x : Int) - 1 by have := HK.out; omega)
  clear HK HBL
  go_wp2
  go_loopw [5, 8] (fun v i wr => ∃ j : Nat, j ≤ byteLen x ∧ i = .int .i64 ((j : Int) - 1) ∧ Hid (Own w wr v (l0 ++ (247 + (byteLen x : Int)) :: (beBytes (byteLen x) x).take (byteLen x - j))) ∧ Hid (Below w.heap.size w wr)) (fun _ i _ => (intOf i + 1).toNat)
  case atStart => exact ⟨byteLen x, Nat.le_refl _, by rw [← HKi.out], HO2, HB2⟩
  case round =>
    obtain ⟨j, hj, rfl, HO, HB⟩ := hrel
    clear HO2 HB2
    by_cases hj0 : j = 0
    · subst hj0
      go_wp2
      go_ret
      exact ⟨_, rfl, HO.out.cast (by rw [HF.out, List.take_of_length_le (by rw [beBytes_length]; omega)]), HB.out⟩
    · have HS := Lib.hid (beBytes_take (byteLen x) (byteLen x - j) x (by omega))
      go_wp2_with (at_builtin; refine app_one HO.out HB.out (by simp only [List.length_append, List.length_cons, List.length_take, beBytes_length]; omega) rfl rfl rfl rfl ?_)
      intro v3 w3 ho3 hb3 _ _
      have HO3 := Lib.hid (show Own w w3 v3 (l0 ++ (247 + (byteLen x : Int)) :: (beBytes (byteLen x) x).take (byteLen x - (j - 1))) from ho3.cast (by
        rw [show byteLen x - (j - 1) = byteLen x - j + 1 by omega, HS.out, show byteLen x - 1 - (byteLen x - j) = j - 1 by omega]
        rw [show (256 : Int) ^ (j - 1) = 2 ^ (8 * (j - 1)) by rw [show (256 : Int) = 2 ^ 8 from rfl, ← Int.pow_mul]]))
      have HB3 := Lib.hid hb3
      clear ho3 hb3 HO HB
      go_wp2
      go_roundw
      case rel => exact ⟨j - 1, by omega, by congr 1; omega, HO3, HB3⟩
      case measure => simp [intOf]; omega
theorem Number_calls {n : Nat} (A0 : Option Addr) (c0 : Nat) (l0 : List Int) (x : Int) (w : World) (hr0 : Rd w A0 n l0) (hs0 : n ≤ 140737488351232) (hx : -9223372036854775808 ≤ x) (hx1 : x ≤ 9223372036854775807) :
    Calls Tryd.prog 61 #[.slice A0 n c0, .int .i64 x] w fun e w' => ∃ v0_ : Value, e = .returned (v0_) ∧ Own w w' v0_ (l0 ++ numForm x) ∧ Below w.heap.size w w' := by
  by_cases h : x ≤ 247
  · exact Number_small A0 c0 l0 x w hr0 hs0 hx h
  · exact Number_big A0 c0 l0 x w hr0 hs0 (by omega) hx1
end Go.Proofs.YtcgenmogedndjaaDoor
namespace Go.Proofs.YtcgenmogedndjaaDoor
open Go.RowKit Go.Proofs.YtcgenmogedndjaaDoorW.PrintWords Go.Proofs.YtcgenmogedndjaaDoorW.PrintMore
def textForm (s : ByteArray) : List Int := numForm s.size ++ bytesOf s
set_option maxHeartbeats 800000 in
theorem Text_calls {n : Nat} (A0 : Option Addr) (c0 : Nat) (l0 : List Int) (s : ByteArray) (w : World) (hr0 : Rd w A0 n l0) (hs0 : n + s.size ≤ 140737488351232) :
    Calls Tryd.prog 62 #[.slice A0 n c0, .string s] w fun e w' => ∃ v0_ : Value, e = .returned (v0_) ∧ Own w w' v0_ (l0 ++ textForm s) ∧ Below w.heap.size w w' := by
  have hlen := Kd.C_len hr0
  have hf := numForm_length s.size
  go_enter Tryd.func62, Tryd.ntmps62
  go_wp2_with fail
  refine (Number_calls A0 c0 l0 _ _ hr0 (by omega) (by omega) (by omega)).mono ?_
  rintro e w1 ⟨v1, rfl, ho1, hb1⟩
  have HO1 := Lib.hid ho1
  have HB1 := Lib.hid hb1
  clear ho1 hb1 hr0
  go_wp2_with (at_builtin; refine app_str HO1.out HB1.out (by simp only [List.length_append]; omega) rfl rfl rfl rfl ?_)
  intro v2 w2 ho2 hb2 _
  go_wp2
  go_ret
  exact ⟨_, rfl, ho2.cast (by unfold textForm; first | rfl | rw [List.append_assoc]), hb2⟩
end Go.Proofs.YtcgenmogedndjaaDoor
