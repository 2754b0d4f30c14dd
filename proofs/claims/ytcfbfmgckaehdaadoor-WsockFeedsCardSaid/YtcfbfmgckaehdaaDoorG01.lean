/- The texts Base, WsLaid, Str, Clone, App, Six, Letter, SpellLaw in one. -/
import Derived.Test.YtcfbfmgckaehdaaDoorProg
import Derived.Test.YtcfbfmgckaehdaaDoorWWords
import Derived.Test.YtcfbfmgckaehdaaDoorWMore
import Derived.Test.YtcfbfmgckaehdaaDoorRows
import Derived.WalkKit
import Derived.RowKit3
import Derived.RowKit
import Derived.KernelRfl
import Derived.Outline
import Derived.Lib.Hide
import Derived.Deep.LoopGhost
import Derived.WalkLawsBesides
import Derived.WalkSpells
import Derived.Deep.QuietTactic
import Derived.BigQuiet
import Derived.Deep.RegionHeld3
import Derived.Deep.RegionWith
import Derived.StillTailTactics
import Derived.ProofKit
import Derived.LaidMore
import Derived.OpenShut
import Derived.Stop.Joined
namespace Go.Proofs.YtcfbfmgckaehdaaDoor
theorem ret_int {k : IntKind} {a b : Int} (h : a = b) : Ending.returned (.int k a) = .returned (.int k b) := by rw [h]
theorem ret_bool {a b : Bool} (h : a = b) : Ending.returned (.bool a) = .returned (.bool b) := by rw [h]
/-- A function iterated. -/
def iter {α : Type} (f : α → α) : Nat → α → α
  | 0, c => c
  | n + 1, c => iter f n (f c)
/-- Every number of a list is a byte. -/
def Bytes (l : List Int) : Prop := ∀ x ∈ l, 0 ≤ x ∧ x < 256
open Go.Proofs.YtcfbfmgckaehdaaDoorW.PrintWords in
theorem rd_get (l : List Int) (k : Nat) (hk : k < l.length) : rd l k = l[k] := by
  unfold rd
  simp [List.getD_eq_getElem?_getD, hk]
open Go.Proofs.YtcfbfmgckaehdaaDoorW.PrintWords in
theorem bytes_rd {l : List Int} (h : Bytes l) (k : Nat) (hk : k < l.length) : 0 ≤ rd l k ∧ rd l k < 256 := by
  rw [rd_get l k hk]
  exact h _ (List.getElem_mem hk)
open Go.Proofs.YtcfbfmgckaehdaaDoorW.PrintWords in
/-- A literal of the call's own, just laid. -/
theorem R_laid (W : World) (base : Nat) (e : TypeId) (k : IntKind) (xs : List Int) (hb : base ≤ W.heap.size) (hm : xs.length ≤ 9223372036854775807) :
    (Kd.int k).R e (W.alloc (.cells (nums k xs).toArray e)) base (fun _ => True) (.slice (some ⟨W.heap.size, 0, none⟩) xs.length xs.length) xs :=
  Kd.R_of_own (own_lit W base e k xs hb hm) (fun _ _ => trivial)
open Go.Proofs.YtcfbfmgckaehdaaDoorW.PrintWords in
/-- A row of bytes that lies in a block, whatever mark it bears, reads. -/
theorem C_const (W : World) (e : TypeId) (xs : List Int) (fr : Nat × Nat) (hm : xs.length ≤ 9223372036854775807) :
    (Kd.int .u8).C (W.alloc (.cells (nums .u8 xs).toArray e fr)) (some ⟨W.heap.size, 0, none⟩) xs.length xs := by
  refine Kd.C_of_reads (d := (0 : Int)) (h1 := fun _ => rfl) ⟨rfl, hm, fun _ => ⟨_, rfl, fun j hj => ?_⟩⟩
  rw [add_plain]
  have : (W.alloc (.cells (nums .u8 xs).toArray e fr)).heap[W.heap.size]? = some (.cells (nums .u8 xs).toArray e fr) := by
    show (W.heap.push _)[W.heap.size]? = _
    simp
  unfold World.cell?
  rw [this]
  simp [nums, List.getD_eq_getElem?_getD, hj]
end Go.Proofs.YtcfbfmgckaehdaaDoor
namespace Go.Proofs.YtcfbfmgckaehdaaDoor
open Go.RowKit Go.Proofs.YtcfbfmgckaehdaaDoorW.PrintWords
/-- A block's cells, all of them. -/
def fill (o : Obj) (c : Array Value) : Obj := match o with
  | .cells _ t f => .cells c t f
  | x => x
noncomputable def wsStart (os : Os) : World := { World.doorLaid Tryd.prog 400 os with heap := (World.doorLaid Tryd.prog 400 os).heap.modify 1 fun o => fill o (Pinned.utf8FirstZ.map fun (n : Nat) => Value.int .u8 (n : Int)).toArray }
set_option maxRecDepth 100000 in
theorem door_met (os : Os) (args : Array Value) : laidMetH Tryd.prog [("unicode/utf8.acceptRanges", Rows.laid_unicode_utf8_acceptRanges), ("unicode/utf8.first", Rows.laid_unicode_utf8_first)] ((wsStart os).forCall (fun _ _ => 0) ⟨#[], args, []⟩).memory :=
  laidMetH_of_parts3 (fuel := 8) (laidMet_of_run' 8 (by kernel_rfl) (by kernel_rfl)) (by kernel_rfl) (by kernel_rfl)
end Go.Proofs.YtcfbfmgckaehdaaDoor
namespace Go.Proofs.YtcfbfmgckaehdaaDoor
open Go.RowKit Go.Proofs.YtcfbfmgckaehdaaDoorW.PrintWords
theorem bytes_strOf {l : List Int} (h : Bytes l) : bytesOf (strOfNums l) = l := by
  unfold bytesOf
  rw [strOfNums_data, List.map_map]
  conv => rhs; rw [← List.map_id l]
  refine List.map_congr_left fun x hx => ?_
  obtain ⟨h0, h1⟩ := h x hx
  simp only [Function.comp, id]
  rw [UInt8.toNat_ofNat_of_lt' (by show x.toNat < 256; omega)]
  omega
theorem Bytes_bytesOf (s : ByteArray) : Bytes (bytesOf s) := by
  intro x hx
  unfold bytesOf at hx
  obtain ⟨b, _, rfl⟩ := List.mem_map.1 hx
  have := b.toNat_lt
  omega
theorem strOf_inj {l m : List Int} (hl : Bytes l) (hm : Bytes m) (h : strOfNums l = strOfNums m) : l = m := by
  rw [← bytes_strOf hl, ← bytes_strOf hm, h]
theorem toList_inj {s t : ByteArray} (h : s.toList = t.toList) : s = t := by
  rw [ByteArray.toList_eq, ByteArray.toList_eq] at h
  exact Go.WideShapes.bytes_inj h
theorem strOf_eql {l m : List Int} (hl : Bytes l) (hm : Bytes m) : ((strOfNums l).toList == (strOfNums m).toList) = decide (l = m) := by
  rw [Bool.eq_iff_iff]
  simp only [beq_iff_eq, decide_eq_true_eq]
  exact ⟨fun h => strOf_inj hl hm (toList_inj h), fun h => by rw [h]⟩
theorem Bytes.nil : Bytes [] := fun _ h => by cases h
theorem Bytes.app {l m : List Int} (hl : Bytes l) (hm : Bytes m) : Bytes (l ++ m) := fun x hx => by
  rcases List.mem_append.1 hx with h | h
  · exact hl x h
  · exact hm x h
theorem Bytes.con {x : Int} {m : List Int} (h0 : 0 ≤ x) (h1 : x < 256) (hm : Bytes m) : Bytes (x :: m) := fun y hy => by
  rcases List.mem_cons.1 hy with rfl | h
  · exact ⟨h0, h1⟩
  · exact hm y h
theorem Bytes.tk {l : List Int} (hl : Bytes l) (n : Nat) : Bytes (l.take n) := fun x hx => hl x (List.mem_of_mem_take hx)
theorem Bytes.dp {l : List Int} (hl : Bytes l) (n : Nat) : Bytes (l.drop n) := fun x hx => hl x (List.mem_of_mem_drop hx)
end Go.Proofs.YtcfbfmgckaehdaaDoor
namespace Go.Proofs.YtcfbfmgckaehdaaDoor
open Go.RowKit Go.Proofs.YtcfbfmgckaehdaaDoorW.PrintWords
theorem info_u8 : (Tryd.prog.info? 5).map (fun i => (i.zero, i.size, i.bytes)) = some (some (.int .u8 0), 1, 1) := by kernel_rfl
def bytes_Clone.f (l0 : List Int) : Option (List Int) := if l0.length < 140737488355328 then some l0 else none
set_option maxHeartbeats 800000 in
theorem bytes_Clone.calls (A0 : Option Addr) (c0 : Nat) (l0 : List Int) (r : List Int) (w : World) (hr0 : Kd.C (Kd.int .u8) w A0 l0.length l0) (hc0 : l0.length ≤ c0) (h : bytes_Clone.f l0 = some r) :
    Calls Tryd.prog 14 #[.slice A0 l0.length c0] w fun e w' => ∃ v0_ : Value, e = .returned (v0_) ∧ Kd.R (Kd.int .u8) 5 w' w.heap.size (fun _ => True) v0_ r ∧ Below w.heap.size w w' := by
  unfold bytes_Clone.f at h
  split at h
  case isFalse => cases h
  rename_i hm0
  obtain rfl := Option.some.inj h
  clear h
  have HR := Lib.hid hr0
  cases A0 with
  | none =>
    have hl : l0 = [] := by
      rcases Nat.eq_zero_or_pos l0.length with h0 | h0
      · exact List.eq_nil_of_length_eq_zero h0
      · obtain ⟨ad, e, _⟩ := hr0.2.2 h0
        cases e
    clear HR hr0
    subst hl
    have e1 := fun (n c : Nat) (W : World) => Lib.run_eql_slice_nil (P := Tryd.prog) W 22 5 none n c 0 0 Tryd.underlying22
    go_enter Tryd.func14, Tryd.ntmps14
    go_wp2
    go_ret
    exact ⟨_, rfl, Kd.R_nil _ _ _ _ _, Below.refl _ _⟩
  | some a =>
    clear hr0
    have e1 := fun (n c : Nat) (W : World) => Lib.run_eql_slice_nil (P := Tryd.prog) W 22 5 (some a) n c 0 0 Tryd.underlying22
    go_enter Tryd.func14, Tryd.ntmps14
    go_wp2_with (at_builtin; refine Kd.R_append_rows (Kd.int .u8) (w0 := w) w.heap.size rfl (.tmp 5) (.tmp 6) 22 5 (.int .u8 0) 1 rfl Tryd.underlying22 info_u8 rfl (by decide) (by omega) _ [] l0 _ _ _ (fun _ => True) (fun _ => False) rfl rfl ?aO ?aR (fun _ _ h => h) (fun _ h => h.elim) ?aF ?aB ?aS ?aL ?_)
    case aO => exact R_laid w _ _ _ [] (Nat.le_refl _) (by simp)
    case aR => exact Kd.C_alloc HR.out _
    case aF => exact fun _ _ => trivial
    case aB => exact below_alloc (Below.refl _ _) _
    case aS => simp
    case aL => simp; omega
    intro v1 w1 ho hb _ _
    go_wp2
    go_ret
    exact ⟨_, rfl, ho, hb⟩
end Go.Proofs.YtcfbfmgckaehdaaDoor
namespace Go.Proofs.YtcfbfmgckaehdaaDoor
open Go.RowKit Go.Proofs.YtcfbfmgckaehdaaDoorW.PrintWords
/-- A row of bytes of the call's own: whatever block it lies in, if it is younger than the call. -/
abbrev Own (w0 w : World) (v : Value) (l : List Int) : Prop := Kd.R (Kd.int .u8) 5 w w0.heap.size (fun _ => True) v l
abbrev Rd (w : World) (A : Option Addr) (n : Nat) (l : List Int) : Prop := Kd.C (Kd.int .u8) w A n l
theorem Rd.cells {w : World} {A : Option Addr} {n : Nat} {l : List Int} (h : Rd w A n l) (hn : 0 < n) : ∃ ad, A = some ad ∧ ∀ j, j < n → w.cell? (ad.add j) = some (.int .u8 (rd l j)) := by
  obtain ⟨ad, rfl, _⟩ := Kd.at_int h 0 (by omega) (by omega)
  refine ⟨ad, rfl, fun j hj => ?_⟩
  obtain ⟨ad', e, hx⟩ := Kd.at_int h j (by omega) (by omega)
  cases e
  exact hx
theorem Rd.mk {w : World} {a : Addr} {n : Nat} {l : List Int} (hl : l.length = n) (hm : n ≤ 9223372036854775807) (h : ∀ j, j < n → w.cell? (a.add j) = some (.int .u8 (rd l j))) : Rd w (some a) n l :=
  Kd.C_of_reads (d := (0 : Int)) (h1 := fun _ => rfl) ⟨hl, hm, fun _ => ⟨a, rfl, fun j hj => h j hj⟩⟩
theorem Rd.isNil {w : World} {n : Nat} {l : List Int} (h : Rd w none n l) : n = 0 ∧ l = [] := by
  rcases Nat.eq_zero_or_pos n with h0 | h0
  · exact ⟨h0, List.eq_nil_of_length_eq_zero (by rw [Kd.C_len h, h0])⟩
  · obtain ⟨ad, e, _⟩ := Rd.cells h h0
    cases e
theorem Rd.empty (w : World) (A : Option Addr) : Rd w A 0 [] := by
  cases A with
  | none => exact Kd.C_nil _ _
  | some a => exact Rd.mk rfl (by omega) (fun j hj => by omega)
theorem rd_mid (l : List Int) (lo hi j : Nat) (h : lo + j < hi) : rd ((l.take hi).drop lo) j = rd l ((lo + j : Nat) : Int) := by
  unfold rd
  simp only [Int.toNat_natCast, List.getD_eq_getElem?_getD, List.getElem?_drop, List.getElem?_take]
  rw [if_pos h]
/-- A cut out of the middle. -/
theorem Rd.mid {w : World} {ad x : Addr} {n : Nat} {l : List Int} (h : Rd w (some ad) n l) (lo hi : Nat) (h1 : lo ≤ hi) (h2 : hi ≤ n) (hx : lo < hi → x = ad.add lo) : Rd w (some x) (hi - lo) ((l.take hi).drop lo) := by
  have hl := Kd.C_len h
  have hm := Kd.C_max h
  refine Rd.mk (by simp; omega) (by omega) fun j hj => ?_
  obtain ⟨ad', e, hc⟩ := Rd.cells h (by omega)
  cases e
  rw [hx (by omega), add_add, rd_mid l lo hi j (by omega)]
  exact hc (lo + j) (by omega)
theorem Own.cast {w0 w : World} {v : Value} {l m : List Int} (h : Own w0 w v l) (he : l = m) : Own w0 w v m := he ▸ h
theorem Own.nil (w0 w : World) : Own w0 w (.slice none 0 0) [] := Kd.R_nil _ _ _ _ _
theorem Own.reads {w0 w : World} {v : Value} {l : List Int} (h : Own w0 w v l) : ∃ A c, v = .slice A l.length c ∧ l.length ≤ c ∧ Rd w A l.length l := by
  obtain ⟨A, c, rfl⟩ := Kd.R_slice h
  exact ⟨A, c, rfl, (Kd.R_reads' h).2.1, (Kd.R_reads' h).2.2⟩
theorem Own.below {w0 w w1 : World} {v : Value} {l : List Int} (h : Own w0 w v l) (hb : Below w.heap.size w w1) : Own w0 w1 v l := Kd.R_below h hb
theorem Own.form {w0 w : World} {v : Value} {l : List Int} (h : Own w0 w v l) (hp : 0 < l.length) : ∃ g cap, v = .slice (some ⟨g, 0, none⟩) l.length cap ∧ l.length ≤ cap ∧ w0.heap.size ≤ g ∧ g < w.heap.size := by
  obtain ⟨g, cap, rfl, h1, h2, _⟩ := Kd.R_form h hp
  exact ⟨g, cap, rfl, (Kd.R_reads' h).2.1, h1, h2⟩
theorem Own.cell {w0 w : World} {g n cap : Nat} {l : List Int} (h : Own w0 w (.slice (some ⟨g, 0, none⟩) n cap) l) (i : Nat) (hi : i < n) : w.cell? ⟨g, i, none⟩ = some (.int .u8 (rd l i)) ∧ w.frozen? ⟨g, i, none⟩ = false :=
  Kd.R_celln (0 : Int) h (i : Int) (by omega) (by omega)
theorem Own.put {w0 w : World} {g n cap : Nat} {l : List Int} (h : Own w0 w (.slice (some ⟨g, 0, none⟩) n cap) l) (i : Nat) (x : Int) : Own w0 (w.setCell ⟨g, i, none⟩ (.int .u8 x)) (.slice (some ⟨g, 0, none⟩) n cap) (l.set i x) :=
  Kd.R_putn h (i : Int) x
theorem Own.stay {w0 w w1 : World} {v : Value} {l : List Int} (h : Own w0 w v l) {row : Option Nat} (hg : w.grownBy w1 row) (hne : row ≠ v.ownBlock) : Own w0 w1 v l := Kd.R_grown1 h rfl hg hne
theorem Own.far {w0 w : World} {v : Value} {l : List Int} (h : Own w0 w v l) {p : Addr} (hne : some p.block ≠ v.ownBlock) (u : Value) : Own w0 (w.setCell p u) v l := Kd.R_drop (Kd.R_far (Kd.R_far1 h rfl hne) (fun _ hk => hk.2) u)
theorem Own.lt {w0 w : World} {v : Value} {l : List Int} (h : Own w0 w v l) : ∀ k, v.ownBlock = some k → k < w.heap.size := Kd.R_lt h
theorem Own.ge {w0 w : World} {v : Value} {l : List Int} (h : Own w0 w v l) : ∀ k, v.ownBlock = some k → w0.heap.size ≤ k := Kd.R_base h
/-- A row made later lies in another block. -/
theorem Own.apart {w0 w w1 w2 : World} {v u : Value} {l m : List Int} (h : Own w0 w v l) (k : Own w1 w2 u m) (hs : w.heap.size ≤ w1.heap.size) (hu : u.ownBlock ≠ none ∨ v.ownBlock ≠ none) : v.ownBlock ≠ u.ownBlock := by
  intro he
  cases hv : v.ownBlock with
  | none => rw [hv] at he hu; rcases hu with h1 | h1 <;> simp_all
  | some b => have h1 := h.lt b hv; have h2 := k.ge b (by rw [← he, hv]); omega
theorem Own.lower {w0 w1 w : World} {v : Value} {l : List Int} (h : Own w1 w v l) (hs : w0.heap.size ≤ w1.heap.size) : Own w0 w v l := Kd.R_lower h hs
theorem lit_nil {w0 W : World} (hB : Below w0.heap.size w0 W) : Own w0 (W.alloc (.cells #[] 5)) (.slice (some ⟨W.heap.size, 0, none⟩) 0 0) [] := R_laid W _ _ _ [] hB.size (by simp)
theorem lit_one {w0 W : World} (hB : Below w0.heap.size w0 W) (p : Int) : Own w0 (W.alloc (.cells #[.int .u8 p] 5)) (.slice (some ⟨W.heap.size, 0, none⟩) 1 1) [p] := R_laid W _ _ _ [p] hB.size (by simp)
theorem lit_two {w0 W : World} (hB : Below w0.heap.size w0 W) (p q : Int) : Own w0 (W.alloc (.cells #[.int .u8 p, .int .u8 q] 5)) (.slice (some ⟨W.heap.size, 0, none⟩) 2 2) [p, q] := R_laid W _ _ _ [p, q] hB.size (by simp)
theorem lit_three {w0 W : World} (hB : Below w0.heap.size w0 W) (p q r : Int) : Own w0 (W.alloc (.cells #[.int .u8 p, .int .u8 q, .int .u8 r] 5)) (.slice (some ⟨W.heap.size, 0, none⟩) 3 3) [p, q, r] := R_laid W _ _ _ [p, q, r] hB.size (by simp)
theorem lit_four {w0 W : World} (hB : Below w0.heap.size w0 W) (p q r t : Int) : Own w0 (W.alloc (.cells #[.int .u8 p, .int .u8 q, .int .u8 r, .int .u8 t] 5)) (.slice (some ⟨W.heap.size, 0, none⟩) 4 4) [p, q, r, t] := R_laid W _ _ _ [p, q, r, t] hB.size (by simp)
section
variable {ops : Array Oper} {rest : List Oper} {o : Oper} {a : Act} {Q : Exit → Act → World → Prop} {w0 W : World} {v : Value} {l ys : List Int} {A : Option Addr} {m c : Nat} {s x : Operand}
theorem app_row (hO : Own w0 W v l) (hR : Rd W A m ys) (hB : Below w0.heap.size w0 W) (hL : l.length + m ≤ 140737488355328)
    (hgd : o.guard = none) (hop : o.op = .call { callee := .builtin .append, args := #[s, x], argTypes := #[22, 22] }) (hv : a.eval s = v) (hx : a.eval x = .slice A m c)
    (K : ∀ v1 w1, Own w0 w1 v1 (l ++ ys) → Below w0.heap.size w0 w1 → W.grownBy w1 v.ownBlock → (v1.ownBlock = v.ownBlock ∨ ∃ b, v1.ownBlock = some b ∧ W.heap.size ≤ b) → wpList Tryd.prog ops Q rest (a.put o.dst v1) w1) : wpList Tryd.prog ops Q (o :: rest) a W :=
  Kd.R_append_rows (Kd.int .u8) (w0 := w0) w0.heap.size hgd s x 22 5 (.int .u8 0) 1 hop Tryd.underlying22 info_u8 rfl (by decide) (by omega) v l ys A m c (fun _ => True) (fun _ => False) hv hx hO hR (fun _ _ h => h) (fun _ h => h.elim) (fun _ _ => trivial) hB hB.size (by omega) K
theorem app_one {p : Int} (hO : Own w0 W v l) (hB : Below w0.heap.size w0 W) (hL : l.length + 1 ≤ 140737488355328)
    (hgd : o.guard = none) (hop : o.op = .call { callee := .builtin .append, args := #[s, x], argTypes := #[22, 22] }) (hv : a.eval s = v) (hx : a.eval x = .slice (some ⟨W.heap.size, 0, none⟩) 1 1)
    (K : ∀ v1 w1, Own w0 w1 v1 (l ++ [p]) → Below w0.heap.size w0 w1 → W.grownBy w1 v.ownBlock → (v1.ownBlock = v.ownBlock ∨ ∃ b, v1.ownBlock = some b ∧ W.heap.size ≤ b) → wpList Tryd.prog ops Q rest (a.put o.dst v1) w1) : wpList Tryd.prog ops Q (o :: rest) a (W.alloc (.cells #[.int .u8 p] 5)) :=
  Kd.R_append (Kd.int .u8) (w0 := w0) w0.heap.size hgd s x 22 5 (.int .u8 0) 1 hop Tryd.underlying22 info_u8 rfl (by decide) (by omega) v l p [.int .u8 p] (fun _ => True) (fun _ => False) hv hx rfl (fun _ hk => hk.elim) (fun _ _ => trivial) hO hB hB.size (by omega) K
end
end Go.Proofs.YtcfbfmgckaehdaaDoor
namespace Go.Proofs.YtcfbfmgckaehdaaDoor
open Go.RowKit Go.Proofs.YtcfbfmgckaehdaaDoorW.PrintWords
/-- A letter's number; -1: it is none. -/
def sixOf (c : Int) : Int :=
  if 65 ≤ c ∧ c ≤ 90 then c - 65 else if 97 ≤ c ∧ c ≤ 122 then c - 71 else if 48 ≤ c ∧ c ≤ 57 then c + 4 else if c = 45 then 62 else if c = 95 then 63 else -1
theorem six_0 (c : Int) (w : World) (h0 : 0 ≤ c) (h1 : c ≤ 44) :
    Calls Tryd.prog 72 #[.int .u8 c] w fun e w' => e = .returned (.int .i64 (-1)) ∧ Drawn0 w w' := by
  have a0 : decide (65 ≤ c) = false := decide_eq_false (by omega)
  have b0 : decide (c ≤ 90) = true := decide_eq_true (by omega)
  have a1 : decide (97 ≤ c) = false := decide_eq_false (by omega)
  have b1 : decide (c ≤ 122) = true := decide_eq_true (by omega)
  have a2 : decide (48 ≤ c) = false := decide_eq_false (by omega)
  have b2 : decide (c ≤ 57) = true := decide_eq_true (by omega)
  have e0 : (c == 45) = false := beq_eq_false_iff_ne.2 (by omega)
  have e1 : (c == 95) = false := beq_eq_false_iff_ne.2 (by omega)
  go_enter Tryd.func72, Tryd.ntmps72
  go_wp2
  go_ret
  exact ⟨rfl, Drawn0.refl _⟩
theorem six_1 (c : Int) (w : World) (h0 : 45 ≤ c) (h1 : c ≤ 45) :
    Calls Tryd.prog 72 #[.int .u8 c] w fun e w' => e = .returned (.int .i64 (62)) ∧ Drawn0 w w' := by
  have a0 : decide (65 ≤ c) = false := decide_eq_false (by omega)
  have b0 : decide (c ≤ 90) = true := decide_eq_true (by omega)
  have a1 : decide (97 ≤ c) = false := decide_eq_false (by omega)
  have b1 : decide (c ≤ 122) = true := decide_eq_true (by omega)
  have a2 : decide (48 ≤ c) = false := decide_eq_false (by omega)
  have b2 : decide (c ≤ 57) = true := decide_eq_true (by omega)
  have e0 : (c == 45) = true := beq_iff_eq.2 (by omega)
  have e1 : (c == 95) = false := beq_eq_false_iff_ne.2 (by omega)
  go_enter Tryd.func72, Tryd.ntmps72
  go_wp2
  go_ret
  exact ⟨rfl, Drawn0.refl _⟩
theorem six_2 (c : Int) (w : World) (h0 : 46 ≤ c) (h1 : c ≤ 47) :
    Calls Tryd.prog 72 #[.int .u8 c] w fun e w' => e = .returned (.int .i64 (-1)) ∧ Drawn0 w w' := by
  have a0 : decide (65 ≤ c) = false := decide_eq_false (by omega)
  have b0 : decide (c ≤ 90) = true := decide_eq_true (by omega)
  have a1 : decide (97 ≤ c) = false := decide_eq_false (by omega)
  have b1 : decide (c ≤ 122) = true := decide_eq_true (by omega)
  have a2 : decide (48 ≤ c) = false := decide_eq_false (by omega)
  have b2 : decide (c ≤ 57) = true := decide_eq_true (by omega)
  have e0 : (c == 45) = false := beq_eq_false_iff_ne.2 (by omega)
  have e1 : (c == 95) = false := beq_eq_false_iff_ne.2 (by omega)
  go_enter Tryd.func72, Tryd.ntmps72
  go_wp2
  go_ret
  exact ⟨rfl, Drawn0.refl _⟩
theorem six_3 (c : Int) (w : World) (h0 : 48 ≤ c) (h1 : c ≤ 57) :
    Calls Tryd.prog 72 #[.int .u8 c] w fun e w' => e = .returned (.int .i64 (c + 4)) ∧ Drawn0 w w' := by
  have a0 : decide (65 ≤ c) = false := decide_eq_false (by omega)
  have b0 : decide (c ≤ 90) = true := decide_eq_true (by omega)
  have a1 : decide (97 ≤ c) = false := decide_eq_false (by omega)
  have b1 : decide (c ≤ 122) = true := decide_eq_true (by omega)
  have a2 : decide (48 ≤ c) = true := decide_eq_true (by omega)
  have b2 : decide (c ≤ 57) = true := decide_eq_true (by omega)
  have e0 : (c == 45) = false := beq_eq_false_iff_ne.2 (by omega)
  have e1 : (c == 95) = false := beq_eq_false_iff_ne.2 (by omega)
  have w1 : IntKind.u8.wrap (c - 48) = c - 48 := by rw [IntKind.wrap_u8]; omega
  have w2 : IntKind.i64.wrap (c - 48) = c - 48 := by rw [IntKind.wrap_i64]; omega
  have w3 : IntKind.i64.wrap (c - 48 + 52) = c + 4 := by rw [IntKind.wrap_i64]; omega
  go_enter Tryd.func72, Tryd.ntmps72
  go_wp2
  go_ret
  exact ⟨rfl, Drawn0.refl _⟩
theorem six_4 (c : Int) (w : World) (h0 : 58 ≤ c) (h1 : c ≤ 64) :
    Calls Tryd.prog 72 #[.int .u8 c] w fun e w' => e = .returned (.int .i64 (-1)) ∧ Drawn0 w w' := by
  have a0 : decide (65 ≤ c) = false := decide_eq_false (by omega)
  have b0 : decide (c ≤ 90) = true := decide_eq_true (by omega)
  have a1 : decide (97 ≤ c) = false := decide_eq_false (by omega)
  have b1 : decide (c ≤ 122) = true := decide_eq_true (by omega)
  have a2 : decide (48 ≤ c) = true := decide_eq_true (by omega)
  have b2 : decide (c ≤ 57) = false := decide_eq_false (by omega)
  have e0 : (c == 45) = false := beq_eq_false_iff_ne.2 (by omega)
  have e1 : (c == 95) = false := beq_eq_false_iff_ne.2 (by omega)
  go_enter Tryd.func72, Tryd.ntmps72
  go_wp2
  go_ret
  exact ⟨rfl, Drawn0.refl _⟩
theorem six_5 (c : Int) (w : World) (h0 : 65 ≤ c) (h1 : c ≤ 90) :
    Calls Tryd.prog 72 #[.int .u8 c] w fun e w' => e = .returned (.int .i64 (c - 65)) ∧ Drawn0 w w' := by
  have a0 : decide (65 ≤ c) = true := decide_eq_true (by omega)
  have b0 : decide (c ≤ 90) = true := decide_eq_true (by omega)
  have a1 : decide (97 ≤ c) = false := decide_eq_false (by omega)
  have b1 : decide (c ≤ 122) = true := decide_eq_true (by omega)
  have a2 : decide (48 ≤ c) = true := decide_eq_true (by omega)
  have b2 : decide (c ≤ 57) = false := decide_eq_false (by omega)
  have e0 : (c == 45) = false := beq_eq_false_iff_ne.2 (by omega)
  have e1 : (c == 95) = false := beq_eq_false_iff_ne.2 (by omega)
  have w1 : IntKind.u8.wrap (c - 65) = c - 65 := by rw [IntKind.wrap_u8]; omega
  have w2 : IntKind.i64.wrap (c - 65) = c - 65 := by rw [IntKind.wrap_i64]; omega
  have w3 : IntKind.i64.wrap (c - 65 + 0) = c - 65 := by rw [IntKind.wrap_i64]; omega
  go_enter Tryd.func72, Tryd.ntmps72
  go_wp2
  go_ret
  exact ⟨rfl, Drawn0.refl _⟩
theorem six_6 (c : Int) (w : World) (h0 : 91 ≤ c) (h1 : c ≤ 94) :
    Calls Tryd.prog 72 #[.int .u8 c] w fun e w' => e = .returned (.int .i64 (-1)) ∧ Drawn0 w w' := by
  have a0 : decide (65 ≤ c) = true := decide_eq_true (by omega)
  have b0 : decide (c ≤ 90) = false := decide_eq_false (by omega)
  have a1 : decide (97 ≤ c) = false := decide_eq_false (by omega)
  have b1 : decide (c ≤ 122) = true := decide_eq_true (by omega)
  have a2 : decide (48 ≤ c) = true := decide_eq_true (by omega)
  have b2 : decide (c ≤ 57) = false := decide_eq_false (by omega)
  have e0 : (c == 45) = false := beq_eq_false_iff_ne.2 (by omega)
  have e1 : (c == 95) = false := beq_eq_false_iff_ne.2 (by omega)
  go_enter Tryd.func72, Tryd.ntmps72
  go_wp2
  go_ret
  exact ⟨rfl, Drawn0.refl _⟩
theorem six_7 (c : Int) (w : World) (h0 : 95 ≤ c) (h1 : c ≤ 95) :
    Calls Tryd.prog 72 #[.int .u8 c] w fun e w' => e = .returned (.int .i64 (63)) ∧ Drawn0 w w' := by
  have a0 : decide (65 ≤ c) = true := decide_eq_true (by omega)
  have b0 : decide (c ≤ 90) = false := decide_eq_false (by omega)
  have a1 : decide (97 ≤ c) = false := decide_eq_false (by omega)
  have b1 : decide (c ≤ 122) = true := decide_eq_true (by omega)
  have a2 : decide (48 ≤ c) = true := decide_eq_true (by omega)
  have b2 : decide (c ≤ 57) = false := decide_eq_false (by omega)
  have e0 : (c == 45) = false := beq_eq_false_iff_ne.2 (by omega)
  have e1 : (c == 95) = true := beq_iff_eq.2 (by omega)
  go_enter Tryd.func72, Tryd.ntmps72
  go_wp2
  go_ret
  exact ⟨rfl, Drawn0.refl _⟩
theorem six_8 (c : Int) (w : World) (h0 : 96 ≤ c) (h1 : c ≤ 96) :
    Calls Tryd.prog 72 #[.int .u8 c] w fun e w' => e = .returned (.int .i64 (-1)) ∧ Drawn0 w w' := by
  have a0 : decide (65 ≤ c) = true := decide_eq_true (by omega)
  have b0 : decide (c ≤ 90) = false := decide_eq_false (by omega)
  have a1 : decide (97 ≤ c) = false := decide_eq_false (by omega)
  have b1 : decide (c ≤ 122) = true := decide_eq_true (by omega)
  have a2 : decide (48 ≤ c) = true := decide_eq_true (by omega)
  have b2 : decide (c ≤ 57) = false := decide_eq_false (by omega)
  have e0 : (c == 45) = false := beq_eq_false_iff_ne.2 (by omega)
  have e1 : (c == 95) = false := beq_eq_false_iff_ne.2 (by omega)
  go_enter Tryd.func72, Tryd.ntmps72
  go_wp2
  go_ret
  exact ⟨rfl, Drawn0.refl _⟩
theorem six_9 (c : Int) (w : World) (h0 : 97 ≤ c) (h1 : c ≤ 122) :
    Calls Tryd.prog 72 #[.int .u8 c] w fun e w' => e = .returned (.int .i64 (c - 71)) ∧ Drawn0 w w' := by
  have a0 : decide (65 ≤ c) = true := decide_eq_true (by omega)
  have b0 : decide (c ≤ 90) = false := decide_eq_false (by omega)
  have a1 : decide (97 ≤ c) = true := decide_eq_true (by omega)
  have b1 : decide (c ≤ 122) = true := decide_eq_true (by omega)
  have a2 : decide (48 ≤ c) = true := decide_eq_true (by omega)
  have b2 : decide (c ≤ 57) = false := decide_eq_false (by omega)
  have e0 : (c == 45) = false := beq_eq_false_iff_ne.2 (by omega)
  have e1 : (c == 95) = false := beq_eq_false_iff_ne.2 (by omega)
  have w1 : IntKind.u8.wrap (c - 97) = c - 97 := by rw [IntKind.wrap_u8]; omega
  have w2 : IntKind.i64.wrap (c - 97) = c - 97 := by rw [IntKind.wrap_i64]; omega
  have w3 : IntKind.i64.wrap (c - 97 + 26) = c - 71 := by rw [IntKind.wrap_i64]; omega
  go_enter Tryd.func72, Tryd.ntmps72
  go_wp2
  go_ret
  exact ⟨rfl, Drawn0.refl _⟩
theorem six_10 (c : Int) (w : World) (h0 : 123 ≤ c) (h1 : c ≤ 255) :
    Calls Tryd.prog 72 #[.int .u8 c] w fun e w' => e = .returned (.int .i64 (-1)) ∧ Drawn0 w w' := by
  have a0 : decide (65 ≤ c) = true := decide_eq_true (by omega)
  have b0 : decide (c ≤ 90) = false := decide_eq_false (by omega)
  have a1 : decide (97 ≤ c) = true := decide_eq_true (by omega)
  have b1 : decide (c ≤ 122) = false := decide_eq_false (by omega)
  have a2 : decide (48 ≤ c) = true := decide_eq_true (by omega)
  have b2 : decide (c ≤ 57) = false := decide_eq_false (by omega)
  have e0 : (c == 45) = false := beq_eq_false_iff_ne.2 (by omega)
  have e1 : (c == 95) = false := beq_eq_false_iff_ne.2 (by omega)
  go_enter Tryd.func72, Tryd.ntmps72
  go_wp2
  go_ret
  exact ⟨rfl, Drawn0.refl _⟩
theorem six_calls (c : Int) (w : World) (h0 : 0 ≤ c) (h1 : c < 256) :
    Calls Tryd.prog 72 #[.int .u8 c] w fun e w' => e = .returned (.int .i64 (sixOf c)) ∧ Drawn0 w w' := by
  have hc : (0 ≤ c ∧ c ≤ 44) ∨ (45 ≤ c ∧ c ≤ 45) ∨ (46 ≤ c ∧ c ≤ 47) ∨ (48 ≤ c ∧ c ≤ 57) ∨ (58 ≤ c ∧ c ≤ 64) ∨ (65 ≤ c ∧ c ≤ 90) ∨ (91 ≤ c ∧ c ≤ 94) ∨ (95 ≤ c ∧ c ≤ 95) ∨ (96 ≤ c ∧ c ≤ 96) ∨ (97 ≤ c ∧ c ≤ 122) ∨ (123 ≤ c ∧ c ≤ 255) := by omega
  rcases hc with ⟨k0, k1⟩ | ⟨k0, k1⟩ | ⟨k0, k1⟩ | ⟨k0, k1⟩ | ⟨k0, k1⟩ | ⟨k0, k1⟩ | ⟨k0, k1⟩ | ⟨k0, k1⟩ | ⟨k0, k1⟩ | ⟨k0, k1⟩ | ⟨k0, k1⟩
  · have e : sixOf c = -1 := by
      unfold sixOf
      repeat' split
      all_goals omega
    rw [e]
    exact six_0 c w k0 k1
  · have e : sixOf c = 62 := by
      unfold sixOf
      repeat' split
      all_goals omega
    rw [e]
    exact six_1 c w k0 k1
  · have e : sixOf c = -1 := by
      unfold sixOf
      repeat' split
      all_goals omega
    rw [e]
    exact six_2 c w k0 k1
  · have e : sixOf c = c + 4 := by
      unfold sixOf
      repeat' split
      all_goals omega
    rw [e]
    exact six_3 c w k0 k1
  · have e : sixOf c = -1 := by
      unfold sixOf
      repeat' split
      all_goals omega
    rw [e]
    exact six_4 c w k0 k1
  · have e : sixOf c = c - 65 := by
      unfold sixOf
      repeat' split
      all_goals omega
    rw [e]
    exact six_5 c w k0 k1
  · have e : sixOf c = -1 := by
      unfold sixOf
      repeat' split
      all_goals omega
    rw [e]
    exact six_6 c w k0 k1
  · have e : sixOf c = 63 := by
      unfold sixOf
      repeat' split
      all_goals omega
    rw [e]
    exact six_7 c w k0 k1
  · have e : sixOf c = -1 := by
      unfold sixOf
      repeat' split
      all_goals omega
    rw [e]
    exact six_8 c w k0 k1
  · have e : sixOf c = c - 71 := by
      unfold sixOf
      repeat' split
      all_goals omega
    rw [e]
    exact six_9 c w k0 k1
  · have e : sixOf c = -1 := by
      unfold sixOf
      repeat' split
      all_goals omega
    rw [e]
    exact six_10 c w k0 k1
end Go.Proofs.YtcfbfmgckaehdaaDoor
namespace Go.Proofs.YtcfbfmgckaehdaaDoor
open Go.RowKit Go.Proofs.YtcfbfmgckaehdaaDoorW.PrintWords
/-- The letters, in their order. -/
def alphaS : ByteArray := ⟨#[65, 66, 67, 68, 69, 70, 71, 72, 73, 74, 75, 76, 77, 78, 79, 80, 81, 82, 83, 84, 85, 86, 87, 88, 89, 90, 97, 98, 99, 100, 101, 102, 103, 104, 105, 106, 107, 108, 109, 110, 111, 112, 113, 114, 115, 116, 117, 118, 119, 120, 121, 122, 48, 49, 50, 51, 52, 53, 54, 55, 56, 57, 45, 95]⟩
def alpha (n : Int) : Int := bt alphaS n
theorem alpha_six : ∀ c : Fin 256, 0 ≤ sixOf (c.val : Int) → alpha (sixOf (c.val : Int)) = c.val ∧ sixOf (c.val : Int) < 64 := by decide +kernel
theorem alpha_sixOf (c : Int) (h0 : 0 ≤ c) (h1 : c < 256) (h : 0 ≤ sixOf c) : alpha (sixOf c) = c ∧ sixOf c < 64 := by
  have k := alpha_six ⟨c.toNat, by omega⟩
  simp only [Int.toNat_of_nonneg h0] at k
  exact k h
end Go.Proofs.YtcfbfmgckaehdaaDoor
namespace Go.Proofs.YtcfbfmgckaehdaaDoor
open Go.RowKit Go.Proofs.YtcfbfmgckaehdaaDoorW.PrintWords
/-- What letters spell, letter by letter: the bits held, how many, the bytes. -/
def unRun : List Int → Int → Nat → List Int → Option (List Int)
  | [], h, m, O => if m = 6 ∨ h ≠ 0 then none else some O
  | c :: t, h, m, O =>
    if sixOf c < 0 then none
    else if 2 ≤ m then unRun t ((h * 64 + sixOf c) % 2 ^ (m - 2)) (m - 2) (O ++ [(h * 64 + sixOf c) / 2 ^ (m - 2) % 256])
    else unRun t (h * 64 + sixOf c) (m + 6) O
end Go.Proofs.YtcfbfmgckaehdaaDoor
