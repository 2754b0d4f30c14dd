/- The texts Base, WsLaid, Str, Clone, App, OpenStruct, WsOpen, Bits in one. -/
import Derived.Test.YtcfbfmgckaehdaaDoorProg
import Derived.Test.YtcfbfmgckaehdaaDoorWWords
import Derived.Test.YtcfbfmgckaehdaaDoorWMore
import Derived.Test.YtcfbfmgckaehdaaDoorRows
import Derived.WalkKit
import Derived.RowKit3
import Derived.RowKit
import Derived.KernelRfl
import Derived.Outline
import Derived.Lib.Hide
import Derived.Deep.LoopGhost
import Derived.WalkLawsBesides
import Derived.WalkSpells
import Derived.Deep.QuietTactic
import Derived.BigQuiet
import Derived.Deep.RegionHeld3
import Derived.Deep.RegionWith
import Derived.StillTailTactics
import Derived.ProofKit
import Derived.LaidMore
import Derived.OpenShut
import Derived.Stop.Joined
import Derived.Deep.SlicePairs
import Derived.Lib.SmallJoins
import Derived.Laws.IdiomArrays
import Derived.Laws.BitsLemmas
namespace Go.Proofs.YtcfbfmgckaehdaaDoor
theorem ret_int {k : IntKind} {a b : Int} (h : a = b) : Ending.returned (.int k a) = .returned (.int k b) := by rw [h]
theorem ret_bool {a b : Bool} (h : a = b) : Ending.returned (.bool a) = .returned (.bool b) := by rw [h]
/-- A function iterated. -/
def iter {α : Type} (f : α → α) : Nat → α → α
  | 0, c => c
  | n + 1, c => iter f n (f c)
/-- Every number of a list is a byte. -/
def Bytes (l : List Int) : Prop := ∀ x ∈ l, 0 ≤ x ∧ x < 256
open Go.Proofs.YtcfbfmgckaehdaaDoorW.PrintWords in
theorem rd_get (l : List Int) (k : Nat) (hk : k < l.length) : rd l k = l[k] := by
  unfold rd
  simp [List.getD_eq_getElem?_getD, hk]
open Go.Proofs.YtcfbfmgckaehdaaDoorW.PrintWords in
theorem bytes_rd {l : List Int} (h : Bytes l) (k : Nat) (hk : k < l.length) : 0 ≤ rd l k ∧ rd l k < 256 := by
  rw [rd_get l k hk]
  exact h _ (List.getElem_mem hk)
open Go.Proofs.YtcfbfmgckaehdaaDoorW.PrintWords in
/-- A literal of the call's own, just laid. -/
theorem R_laid (W : World) (base : Nat) (e : TypeId) (k : IntKind) (xs : List Int) (hb : base ≤ W.heap.size) (hm : xs.length ≤ 9223372036854775807) :
    (Kd.int k).R e (W.alloc (.cells (nums k xs).toArray e)) base (fun _ => True) (.slice (some ⟨W.heap.size, 0, none⟩) xs.length xs.length) xs :=
  Kd.R_of_own (own_lit W base e k xs hb hm) (fun _ _ => trivial)
open Go.Proofs.YtcfbfmgckaehdaaDoorW.PrintWords in
/-- A row of bytes that lies in a block, whatever mark it bears, reads. -/
theorem C_const (W : World) (e : TypeId) (xs : List Int) (fr : Nat × Nat) (hm : xs.length ≤ 9223372036854775807) :
    (Kd.int .u8).C (W.alloc (.cells (nums .u8 xs).toArray e fr)) (some ⟨W.heap.size, 0, none⟩) xs.length xs := by
  refine Kd.C_of_reads (d := (0 : Int)) (h1 := fun _ => rfl) ⟨rfl, hm, fun _ => ⟨_, rfl, fun j hj => ?_⟩⟩
  rw [add_plain]
  have : (W.alloc (.cells (nums .u8 xs).toArray e fr)).heap[W.heap.size]? = some (.cells (nums .u8 xs).toArray e fr) := by
    show (W.heap.push _)[W.heap.size]? = _
    simp
  unfold World.cell?
  rw [this]
  simp [nums, List.getD_eq_getElem?_getD, hj]
end Go.Proofs.YtcfbfmgckaehdaaDoor
namespace Go.Proofs.YtcfbfmgckaehdaaDoor
open Go.RowKit Go.Proofs.YtcfbfmgckaehdaaDoorW.PrintWords
/-- A block's cells, all of them. -/
def fill (o : Obj) (c : Array Value) : Obj := match o with
  | .cells _ t f => .cells c t f
  | x => x
noncomputable def wsStart (os : Os) : World := { World.doorLaid Tryd.prog 400 os with heap := (World.doorLaid Tryd.prog 400 os).heap.modify 1 fun o => fill o (Pinned.utf8FirstZ.map fun (n : Nat) => Value.int .u8 (n : Int)).toArray }
set_option maxRecDepth 100000 in
theorem door_met (os : Os) (args : Array Value) : laidMetH Tryd.prog [("unicode/utf8.acceptRanges", Rows.laid_unicode_utf8_acceptRanges), ("unicode/utf8.first", Rows.laid_unicode_utf8_first)] ((wsStart os).forCall (fun _ _ => 0) ⟨#[], args, []⟩).memory :=
  laidMetH_of_parts3 (fuel := 8) (laidMet_of_run' 8 (by kernel_rfl) (by kernel_rfl)) (by kernel_rfl) (by kernel_rfl)
end Go.Proofs.YtcfbfmgckaehdaaDoor
namespace Go.Proofs.YtcfbfmgckaehdaaDoor
open Go.RowKit Go.Proofs.YtcfbfmgckaehdaaDoorW.PrintWords
theorem bytes_strOf {l : List Int} (h : Bytes l) : bytesOf (strOfNums l) = l := by
  unfold bytesOf
  rw [strOfNums_data, List.map_map]
  conv => rhs; rw [← List.map_id l]
  refine List.map_congr_left fun x hx => ?_
  obtain ⟨h0, h1⟩ := h x hx
  simp only [Function.comp, id]
  rw [UInt8.toNat_ofNat_of_lt' (by show x.toNat < 256; omega)]
  omega
theorem Bytes_bytesOf (s : ByteArray) : Bytes (bytesOf s) := by
  intro x hx
  unfold bytesOf at hx
  obtain ⟨b, _, rfl⟩ := List.mem_map.1 hx
  have := b.toNat_lt
  omega
theorem strOf_inj {l m : List Int} (hl : Bytes l) (hm : Bytes m) (h : strOfNums l = strOfNums m) : l = m := by
  rw [← bytes_strOf hl, ← bytes_strOf hm, h]
theorem toList_inj {s t : ByteArray} (h : s.toList = t.toList) : s = t := by
  rw [ByteArray.toList_eq, ByteArray.toList_eq] at h
  exact Go.WideShapes.bytes_inj h
theorem strOf_eql {l m : List Int} (hl : Bytes l) (hm : Bytes m) : ((strOfNums l).toList == (strOfNums m).toList) = decide (l = m) := by
  rw [Bool.eq_iff_iff]
  simp only [beq_iff_eq, decide_eq_true_eq]
  exact ⟨fun h => strOf_inj hl hm (toList_inj h), fun h => by rw [h]⟩
theorem Bytes.nil : Bytes [] := fun _ h => by cases h
theorem Bytes.app {l m : List Int} (hl : Bytes l) (hm : Bytes m) : Bytes (l ++ m) := fun x hx => by
  rcases List.mem_append.1 hx with h | h
  · exact hl x h
  · exact hm x h
theorem Bytes.con {x : Int} {m : List Int} (h0 : 0 ≤ x) (h1 : x < 256) (hm : Bytes m) : Bytes (x :: m) := fun y hy => by
  rcases List.mem_cons.1 hy with rfl | h
  · exact ⟨h0, h1⟩
  · exact hm y h
theorem Bytes.tk {l : List Int} (hl : Bytes l) (n : Nat) : Bytes (l.take n) := fun x hx => hl x (List.mem_of_mem_take hx)
theorem Bytes.dp {l : List Int} (hl : Bytes l) (n : Nat) : Bytes (l.drop n) := fun x hx => hl x (List.mem_of_mem_drop hx)
end Go.Proofs.YtcfbfmgckaehdaaDoor
namespace Go.Proofs.YtcfbfmgckaehdaaDoor
open Go.RowKit Go.Proofs.YtcfbfmgckaehdaaDoorW.PrintWords
theorem info_u8 : (Tryd.prog.info? 5).map (fun i => (i.zero, i.size, i.bytes)) = some (some (.int .u8 0), 1, 1) := by kernel_rfl
def bytes_Clone.f (l0 : List Int) : Option (List Int) := if l0.length < 140737488355328 then some l0 else none
set_option maxHeartbeats 800000 in
theorem bytes_Clone.calls (A0 : Option Addr) (c0 : Nat) (l0 : List Int) (r : List Int) (w : World) (hr0 : Kd.C (Kd.int .u8) w A0 l0.length l0) (hc0 : l0.length ≤ c0) (h : bytes_Clone.f l0 = some r) :
    Calls Tryd.prog 14 #[.slice A0 l0.length c0] w fun e w' => ∃ v0_ : Value, e = .returned (v0_) ∧ Kd.R (Kd.int .u8) 5 w' w.heap.size (fun _ => True) v0_ r ∧ Below w.heap.size w w' := by
  unfold bytes_Clone.f at h
  split at h
  case isFalse => cases h
  rename_i hm0
  obtain rfl := Option.some.inj h
  clear h
  have HR := Lib.hid hr0
  cases A0 with
  | none =>
    have hl : l0 = [] := by
      rcases Nat.eq_zero_or_pos l0.length with h0 | h0
      · exact List.eq_nil_of_length_eq_zero h0
      · obtain ⟨ad, e, _⟩ := hr0.2.2 h0
        cases e
    clear HR hr0
    subst hl
    have e1 := fun (n c : Nat) (W : World) => Lib.run_eql_slice_nil (P := Tryd.prog) W 22 5 none n c 0 0 Tryd.underlying22
    go_enter Tryd.func14, Tryd.ntmps14
    go_wp2
    go_ret
    exact ⟨_, rfl, Kd.R_nil _ _ _ _ _, Below.refl _ _⟩
  | some a =>
    clear hr0
    have e1 := fun (n c : Nat) (W : World) => Lib.run_eql_slice_nil (P := Tryd.prog) W 22 5 (some a) n c 0 0 Tryd.underlying22
    go_enter Tryd.func14, Tryd.ntmps14
    go_wp2_with (at_builtin; refine Kd.R_append_rows (Kd.int .u8) (w0 := w) w.heap.size rfl (.tmp 5) (.tmp 6) 22 5 (.int .u8 0) 1 rfl Tryd.underlying22 info_u8 rfl (by decide) (by omega) _ [] l0 _ _ _ (fun _ => True) (fun _ => False) rfl rfl ?aO ?aR (fun _ _ h => h) (fun _ h => h.elim) ?aF ?aB ?aS ?aL ?_)
    case aO => exact R_laid w _ _ _ [] (Nat.le_refl _) (by simp)
    case aR => exact Kd.C_alloc HR.out _
    case aF => exact fun _ _ => trivial
    case aB => exact below_alloc (Below.refl _ _) _
    case aS => simp
    case aL => simp; omega
    intro v1 w1 ho hb _ _
    go_wp2
    go_ret
    exact ⟨_, rfl, ho, hb⟩
end Go.Proofs.YtcfbfmgckaehdaaDoor
namespace Go.Proofs.YtcfbfmgckaehdaaDoor
open Go.RowKit Go.Proofs.YtcfbfmgckaehdaaDoorW.PrintWords
/-- A row of bytes of the call's own: whatever block it lies in, if it is younger than the call. -/
abbrev Own (w0 w : World) (v : Value) (l : List Int) : Prop := Kd.R (Kd.int .u8) 5 w w0.heap.size (fun _ => True) v l
abbrev Rd (w : World) (A : Option Addr) (n : Nat) (l : List Int) : Prop := Kd.C (Kd.int .u8) w A n l
theorem Rd.cells {w : World} {A : Option Addr} {n : Nat} {l : List Int} (h : Rd w A n l) (hn : 0 < n) : ∃ ad, A = some ad ∧ ∀ j, j < n → w.cell? (ad.add j) = some (.int .u8 (rd l j)) := by
  obtain ⟨ad, rfl, _⟩ := Kd.at_int h 0 (by omega) (by omega)
  refine ⟨ad, rfl, fun j hj => ?_⟩
  obtain ⟨ad', e, hx⟩ := Kd.at_int h j (by omega) (by omega)
  cases e
  exact hx
theorem Rd.mk {w : World} {a : Addr} {n : Nat} {l : List Int} (hl : l.length = n) (hm : n ≤ 9223372036854775807) (h : ∀ j, j < n → w.cell? (a.add j) = some (.int .u8 (rd l j))) : Rd w (some a) n l :=
  Kd.C_of_reads (d := (0 : Int)) (h1 := fun _ => rfl) ⟨hl, hm, fun _ => ⟨a, rfl, fun j hj => h j hj⟩⟩
theorem Rd.isNil {w : World} {n : Nat} {l : List Int} (h : Rd w none n l) : n = 0 ∧ l = [] := by
  rcases Nat.eq_zero_or_pos n with h0 | h0
  · exact ⟨h0, List.eq_nil_of_length_eq_zero (by rw [Kd.C_len h, h0])⟩
  · obtain ⟨ad, e, _⟩ := Rd.cells h h0
    cases e
theorem Rd.empty (w : World) (A : Option Addr) : Rd w A 0 [] := by
  cases A with
  | none => exact Kd.C_nil _ _
  | some a => exact Rd.mk rfl (by omega) (fun j hj => by omega)
theorem rd_mid (l : List Int) (lo hi j : Nat) (h : lo + j < hi) : rd ((l.take hi).drop lo) j = rd l ((lo + j : Nat) : Int) := by
  unfold rd
  simp only [Int.toNat_natCast, List.getD_eq_getElem?_getD, List.getElem?_drop, List.getElem?_take]
  rw [if_pos h]
/-- A cut out of the middle. -/
theorem Rd.mid {w : World} {ad x : Addr} {n : Nat} {l : List Int} (h : Rd w (some ad) n l) (lo hi : Nat) (h1 : lo ≤ hi) (h2 : hi ≤ n) (hx : lo < hi → x = ad.add lo) : Rd w (some x) (hi - lo) ((l.take hi).drop lo) := by
  have hl := Kd.C_len h
  have hm := Kd.C_max h
  refine Rd.mk (by simp; omega) (by omega) fun j hj => ?_
  obtain ⟨ad', e, hc⟩ := Rd.cells h (by omega)
  cases e
  rw [hx (by omega), add_add, rd_mid l lo hi j (by omega)]
  exact hc (lo + j) (by omega)
theorem Own.cast {w0 w : World} {v : Value} {l m : List Int} (h : Own w0 w v l) (he : l = m) : Own w0 w v m := he ▸ h
theorem Own.nil (w0 w : World) : Own w0 w (.slice none 0 0) [] := Kd.R_nil _ _ _ _ _
theorem Own.reads {w0 w : World} {v : Value} {l : List Int} (h : Own w0 w v l) : ∃ A c, v = .slice A l.length c ∧ l.length ≤ c ∧ Rd w A l.length l := by
  obtain ⟨A, c, rfl⟩ := Kd.R_slice h
  exact ⟨A, c, rfl, (Kd.R_reads' h).2.1, (Kd.R_reads' h).2.2⟩
theorem Own.below {w0 w w1 : World} {v : Value} {l : List Int} (h : Own w0 w v l) (hb : Below w.heap.size w w1) : Own w0 w1 v l := Kd.R_below h hb
theorem Own.form {w0 w : World} {v : Value} {l : List Int} (h : Own w0 w v l) (hp : 0 < l.length) : ∃ g cap, v = .slice (some ⟨g, 0, none⟩) l.length cap ∧ l.length ≤ cap ∧ w0.heap.size ≤ g ∧ g < w.heap.size := by
  obtain ⟨g, cap, rfl, h1, h2, _⟩ := Kd.R_form h hp
  exact ⟨g, cap, rfl, (Kd.R_reads' h).2.1, h1, h2⟩
theorem Own.cell {w0 w : World} {g n cap : Nat} {l : List Int} (h : Own w0 w (.slice (some ⟨g, 0, none⟩) n cap) l) (i : Nat) (hi : i < n) : w.cell? ⟨g, i, none⟩ = some (.int .u8 (rd l i)) ∧ w.frozen? ⟨g, i, none⟩ = false :=
  Kd.R_celln (0 : Int) h (i : Int) (by omega) (by omega)
theorem Own.put {w0 w : World} {g n cap : Nat} {l : List Int} (h : Own w0 w (.slice (some ⟨g, 0, none⟩) n cap) l) (i : Nat) (x : Int) : Own w0 (w.setCell ⟨g, i, none⟩ (.int .u8 x)) (.slice (some ⟨g, 0, none⟩) n cap) (l.set i x) :=
  Kd.R_putn h (i : Int) x
theorem Own.stay {w0 w w1 : World} {v : Value} {l : List Int} (h : Own w0 w v l) {row : Option Nat} (hg : w.grownBy w1 row) (hne : row ≠ v.ownBlock) : Own w0 w1 v l := Kd.R_grown1 h rfl hg hne
theorem Own.far {w0 w : World} {v : Value} {l : List Int} (h : Own w0 w v l) {p : Addr} (hne : some p.block ≠ v.ownBlock) (u : Value) : Own w0 (w.setCell p u) v l := Kd.R_drop (Kd.R_far (Kd.R_far1 h rfl hne) (fun _ hk => hk.2) u)
theorem Own.lt {w0 w : World} {v : Value} {l : List Int} (h : Own w0 w v l) : ∀ k, v.ownBlock = some k → k < w.heap.size := Kd.R_lt h
theorem Own.ge {w0 w : World} {v : Value} {l : List Int} (h : Own w0 w v l) : ∀ k, v.ownBlock = some k → w0.heap.size ≤ k := Kd.R_base h
/-- A row made later lies in another block. -/
theorem Own.apart {w0 w w1 w2 : World} {v u : Value} {l m : List Int} (h : Own w0 w v l) (k : Own w1 w2 u m) (hs : w.heap.size ≤ w1.heap.size) (hu : u.ownBlock ≠ none ∨ v.ownBlock ≠ none) : v.ownBlock ≠ u.ownBlock := by
  intro he
  cases hv : v.ownBlock with
  | none => rw [hv] at he hu; rcases hu with h1 | h1 <;> simp_all
  | some b => have h1 := h.lt b hv; have h2 := k.ge b (by rw [← he, hv]); omega
theorem Own.lower {w0 w1 w : World} {v : Value} {l : List Int} (h : Own w1 w v l) (hs : w0.heap.size ≤ w1.heap.size) : Own w0 w v l := Kd.R_lower h hs
theorem lit_two {w0 W : World} (hB : Below w0.heap.size w0 W) (p q : Int) : Own w0 (W.alloc (.cells #[.int .u8 p, .int .u8 q] 5)) (.slice (some ⟨W.heap.size, 0, none⟩) 2 2) [p, q] := R_laid W _ _ _ [p, q] hB.size (by simp)
section
variable {ops : Array Oper} {rest : List Oper} {o : Oper} {a : Act} {Q : Exit → Act → World → Prop} {w0 W : World} {v : Value} {l ys : List Int} {A : Option Addr} {m c : Nat} {s x : Operand}
theorem app_row (hO : Own w0 W v l) (hR : Rd W A m ys) (hB : Below w0.heap.size w0 W) (hL : l.length + m ≤ 140737488355328)
    (hgd : o.guard = none) (hop : o.op = .call { callee := .builtin .append, args := #[s, x], argTypes := #[22, 22] }) (hv : a.eval s = v) (hx : a.eval x = .slice A m c)
    (K : ∀ v1 w1, Own w0 w1 v1 (l ++ ys) → Below w0.heap.size w0 w1 → W.grownBy w1 v.ownBlock → (v1.ownBlock = v.ownBlock ∨ ∃ b, v1.ownBlock = some b ∧ W.heap.size ≤ b) → wpList Tryd.prog ops Q rest (a.put o.dst v1) w1) : wpList Tryd.prog ops Q (o :: rest) a W :=
  Kd.R_append_rows (Kd.int .u8) (w0 := w0) w0.heap.size hgd s x 22 5 (.int .u8 0) 1 hop Tryd.underlying22 info_u8 rfl (by decide) (by omega) v l ys A m c (fun _ => True) (fun _ => False) hv hx hO hR (fun _ _ h => h) (fun _ h => h.elim) (fun _ _ => trivial) hB hB.size (by omega) K
theorem app_one {p : Int} (hO : Own w0 W v l) (hB : Below w0.heap.size w0 W) (hL : l.length + 1 ≤ 140737488355328)
    (hgd : o.guard = none) (hop : o.op = .call { callee := .builtin .append, args := #[s, x], argTypes := #[22, 22] }) (hv : a.eval s = v) (hx : a.eval x = .slice (some ⟨W.heap.size, 0, none⟩) 1 1)
    (K : ∀ v1 w1, Own w0 w1 v1 (l ++ [p]) → Below w0.heap.size w0 w1 → W.grownBy w1 v.ownBlock → (v1.ownBlock = v.ownBlock ∨ ∃ b, v1.ownBlock = some b ∧ W.heap.size ≤ b) → wpList Tryd.prog ops Q rest (a.put o.dst v1) w1) : wpList Tryd.prog ops Q (o :: rest) a (W.alloc (.cells #[.int .u8 p] 5)) :=
  Kd.R_append (Kd.int .u8) (w0 := w0) w0.heap.size hgd s x 22 5 (.int .u8 0) 1 hop Tryd.underlying22 info_u8 rfl (by decide) (by omega) v l p [.int .u8 p] (fun _ => True) (fun _ => False) hv hx rfl (fun _ hk => hk.elim) (fun _ _ => trivial) hO hB hB.size (by omega) K
end
end Go.Proofs.YtcfbfmgckaehdaaDoor
namespace Go.Proofs.YtcfbfmgckaehdaaDoor
open Go.RowKit Go.ChangeShapes Go.WideShapes Go.Proofs.YtcfbfmgckaehdaaDoorW.PrintWords
section
variable {H : Type} {enc : TypeId × Value → H} {W : World} {base : Nat} {spare : Nat → Bool} {held : Bool} {fuel : Nat} {cs : List Value} {x : DataW H × List MemPlace}
theorem cells_u8 : Tryd.prog.cellsOf 5 = 1 := by kernel_rfl
theorem wf_Bytes {l : List Int} (h : ∀ y ∈ l, (Lit.int .u8 y).wf = true) : Bytes l := by
  intro y hy
  have h1 := h y hy
  simp [Lit.wf, IntKind.min, IntKind.max, IntKind.signed, IntKind.bits] at h1
  omega
theorem wf_i64 {u : Int} (h : (Lit.int .i64 u).wf = true) : -9223372036854775808 ≤ u ∧ u ≤ 9223372036854775807 := by
  simp [Lit.wf, IntKind.min, IntKind.max, IntKind.signed, IntKind.bits] at h
  omega
/-- A row of bytes in a cell. -/
theorem open_bytes_cell (h : DataW.trod enc Tryd.prog W base spare held fuel 22 cs = some x) : ∃ (A : Option Addr) (n c : Nat) (l : List Int), cs = [.slice A n c] ∧ Rd W A n l ∧ n ≤ c ∧ Bytes l := by
  rcases open_ints Tryd.underlying22 Tryd.underlying5 cells_u8 h with ⟨rfl, _⟩ | ⟨a, len, cap, zs, rfl, _, hl, hm, hz, _, hcell, hwf⟩
  · exact ⟨none, 0, 0, [], rfl, Rd.empty _ _, Nat.le_refl _, Bytes.nil⟩
  · have hzl : len ≤ zs.length := by rw [hz]; split <;> omega
    refine ⟨some a, len, cap, zs.take len, rfl, Rd.mk (by simp; omega) (by simp only [maxLen] at hm; omega) fun j hj => ?_, hl, (wf_Bytes hwf).tk _⟩
    rw [hcell j (by omega)]
    congr 2
    unfold rd
    simp only [Int.toNat_natCast, List.getD_eq_getElem?_getD, List.getElem?_take]
    rw [if_pos hj]
end
end Go.Proofs.YtcfbfmgckaehdaaDoor
namespace Go.Proofs.YtcfbfmgckaehdaaDoor
open Go.RowKit Go.ChangeShapes Go.WideShapes Go.Proofs.YtcfbfmgckaehdaaDoorW.PrintWords
section
variable {H : Type} {enc : TypeId × Value → H} {W : World} {base : Nat} {spare : Nat → Bool} {held : Bool} {fuel : Nat} {cs : List Value} {x : DataW H × List MemPlace}
theorem wf_u8 {u : Int} (h : (Lit.int .u8 u).wf = true) : 0 ≤ u ∧ u < 256 := by
  simp [Lit.wf, IntKind.min, IntKind.max, IntKind.signed, IntKind.bits] at h
  omega
set_option maxRecDepth 100000 in
theorem open_frame {r : Reach} {b0 : Nat} {v : Value} {d : DataW H} {p : List MemPlace} (hv : Value.okWide Tryd.prog W r b0 26 v) (h : DataW.Trod enc Tryd.prog W base spare held 26 v d p) :
    ∃ (fi : Bool) (op : Int) (A : Option Addr) (c : Nat) (l : List Int), v = .agg #[.bool fi, .int .i64 op, .slice A l.length c] ∧ Rd W A l.length l ∧ l.length ≤ c ∧ Bytes l ∧ (-9223372036854775808 ≤ op ∧ op ≤ 9223372036854775807) := by
  obtain ⟨v0, v1, v2, y0, y1, y2, k, rfl, _, _, h0, h1, h2⟩ := Joins.open_agg3 Tryd.underlying26 (by kernel_rfl) (by kernel_rfl) hv h
  obtain ⟨a, e0, _⟩ := DataW.trod_bool Tryd.underlying4 h0
  obtain ⟨u, e1, _, z1⟩ := DataW.trod_int Tryd.underlying3 h1
  obtain ⟨A, n, c, l, e2, hr, hc, hb⟩ := open_bytes_cell h2
  have hln := Kd.C_len hr
  subst hln
  simp only [List.cons.injEq, and_true] at e0 e1 e2
  subst e0 e1 e2
  exact ⟨a, u, A, c, l, rfl, hr, hc, hb, wf_i64 z1⟩
set_option maxRecDepth 100000 in
theorem open_arr4 {r : Reach} {b0 : Nat} {v : Value} {d : DataW H} {p : List MemPlace} (hv : Value.okWide Tryd.prog W r b0 32 v) (h : DataW.Trod enc Tryd.prog W base spare held 32 v d p) :
    ∃ (a b c e : Int), v = .agg #[.int .u8 a, .int .u8 b, .int .u8 c, .int .u8 e] ∧ Bytes [a, b, c, e] := by
  simp only [Value.okWide, Tryd.underlying32] at hv
  obtain ⟨cs, rfl, h2, _⟩ := hv
  have h3 : cs.size = 4 := h2.trans (by kernel_rfl)
  obtain ⟨v0, v1, v2, v3, rfl⟩ : ∃ v0 v1 v2 v3, cs = #[v0, v1, v2, v3] := by
    obtain ⟨l⟩ := cs
    simp only [List.size_toArray] at h3
    match l, h3 with
    | [a, b, c, e], _ => exact ⟨a, b, c, e, rfl⟩
  obtain ⟨fuel, hf⟩ := h
  obtain ⟨y0, y1, y2, y3, n, _, h0, h1, h2, h3⟩ := trod_array4 Tryd.underlying32 (by kernel_rfl) (show DataW.trod enc Tryd.prog W base spare held fuel 32 [v0, v1, v2, v3] = _ from hf)
  obtain ⟨a, e0, _, z0⟩ := DataW.trod_int Tryd.underlying5 h0
  obtain ⟨b, e1, _, z1⟩ := DataW.trod_int Tryd.underlying5 h1
  obtain ⟨c, e2, _, z2⟩ := DataW.trod_int Tryd.underlying5 h2
  obtain ⟨e, e3, _, z3⟩ := DataW.trod_int Tryd.underlying5 h3
  simp only [List.cons.injEq, and_true] at e0 e1 e2 e3
  subst e0 e1 e2 e3
  exact ⟨a, b, c, e, rfl, Bytes.con (wf_u8 z0).1 (wf_u8 z0).2 (Bytes.con (wf_u8 z1).1 (wf_u8 z1).2 (Bytes.con (wf_u8 z2).1 (wf_u8 z2).2 (Bytes.con (wf_u8 z3).1 (wf_u8 z3).2 Bytes.nil)))⟩
end
end Go.Proofs.YtcfbfmgckaehdaaDoor
namespace Go.Proofs.YtcfbfmgckaehdaaDoor
open Go.RowKit
theorem wraps_u32 (n : Int) (h₀ : 0 ≤ n) (h₁ : n < 2 ^ 32) : IntKind.u32.wrap n = n := by rw [IntKind.wrap_u32]; omega
theorem wraps_i64 (n : Int) (h₀ : 0 ≤ n) (h₁ : n < 2 ^ 63) : IntKind.i64.wrap n = n := by rw [IntKind.wrap_i64]; omega
theorem bits_xor_nat (k : IntKind) (j : Nat) (hj : j ≤ k.bits) (hk : ∀ n : Int, 0 ≤ n → n < 2 ^ j → k.wrap n = n) (a b : Nat) (ha : a < 2 ^ j) (hb : b < 2 ^ j) :
    bits .xor k a b = ((a ^^^ b : Nat) : Int) := by
  have hp : 2 ^ j ≤ 2 ^ k.bits := Nat.pow_le_pow_right (by decide) hj
  have ha' : a % 2 ^ k.bits = a := Nat.mod_eq_of_lt (Nat.lt_of_lt_of_le ha hp)
  have hb' : b % 2 ^ k.bits = b := Nat.mod_eq_of_lt (Nat.lt_of_lt_of_le hb hp)
  have cast : ∀ n : Nat, n < 2 ^ j → ((n : Nat) : Int) < 2 ^ j := fun n h => by exact_mod_cast h
  simp only [bits, BitVec.ofInt_natCast, BitVec.toNat_xor, BitVec.toNat_ofNat, ha', hb']
  exact hk _ (Int.natCast_nonneg _) (cast _ (Nat.xor_lt_two_pow ha hb))
theorem xor_u32 (a b : Nat) (ha : a < 4294967296) (hb : b < 4294967296) : bits .xor .u32 a b = ((a ^^^ b : Nat) : Int) := bits_xor_nat .u32 32 (by decide) wraps_u32 a b ha hb
theorem xor_u8 (a b : Nat) (ha : a < 256) (hb : b < 256) : bits .xor .u8 a b = ((a ^^^ b : Nat) : Int) := bits_xor_nat .u8 8 (by decide) wraps_u8 a b ha hb
theorem and_u8 (a b : Nat) (ha : a < 256) (hb : b < 256) : bits .and .u8 a b = ((a &&& b : Nat) : Int) := (bits_nat .u8 8 (by decide) wraps_u8 a b ha hb).1
theorem or_u8 (a b : Nat) (ha : a < 256) (hb : b < 256) : bits .or .u8 a b = ((a ||| b : Nat) : Int) := (bits_nat .u8 8 (by decide) wraps_u8 a b ha hb).2
theorem and_i64 (a b : Nat) (ha : a < 9223372036854775808) (hb : b < 9223372036854775808) : bits .and .i64 a b = ((a &&& b : Nat) : Int) := (bits_nat .i64 63 (by decide) wraps_i64 a b ha hb).1
end Go.Proofs.YtcfbfmgckaehdaaDoor
