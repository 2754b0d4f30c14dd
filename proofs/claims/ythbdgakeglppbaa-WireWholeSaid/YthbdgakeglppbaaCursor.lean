/- wire.Cursor: what lies in memory, and its small methods. -/
import Derived.Test.YthbdgakeglppbaaApp
import Derived.Test.YthbdgakeglppbaaUnframe
import Derived.Lib.BufferOwn
namespace Go.Proofs.Ythbdgakeglppbaa
open Go.RowKit Go.Proofs.YthbdgakeglppbaaW.PrintWords
/-- A cursor over bytes, a of which are read: its own block g, the place's block p. -/
structure Cur (w : World) (g p : Nat) (A : Option Addr) (n c : Nat) (l : List Int) (a : Nat) : Prop where
  own : w.heap[g]? = some (.cells #[.pointer (some ⟨p, 0, none⟩)] 55 (0, 0))
  place : w.heap[p]? = some (.cells #[.slice A n c, .int .i64 a] 86 (0, 0))
  row : Rd w A n l
  part : g ≠ p
  far : ∀ ad, A = some ad → ad.block ≠ p
  cap : n ≤ c
  le : a ≤ n
theorem Cur.x0 {w : World} {g p : Nat} {A : Option Addr} {n c : Nat} {l : List Int} {a : Nat} (h : Cur w g p A n c l a) : w.cell? ⟨g, 0, none⟩ = some (.pointer (some ⟨p, 0, none⟩)) := by
  simp [World.cell?, h.own]
theorem Cur.x1 {w : World} {g p : Nat} {A : Option Addr} {n c : Nat} {l : List Int} {a : Nat} (h : Cur w g p A n c l a) : w.cell? ⟨p, 0, none⟩ = some (.slice A n c) := by
  simp [World.cell?, h.place]
theorem Cur.x2 {w : World} {g p : Nat} {A : Option Addr} {n c : Nat} {l : List Int} {a : Nat} (h : Cur w g p A n c l a) : w.cell? ⟨p, 1, none⟩ = some (.int .i64 a) := by
  simp [World.cell?, h.place]
theorem Cur.f2 {w : World} {g p : Nat} {A : Option Addr} {n c : Nat} {l : List Int} {a : Nat} (h : Cur w g p A n c l a) : w.frozen? ⟨p, 1, none⟩ = false := by
  simp [World.frozen?, h.place]
theorem lt_of_heap {w : World} {k : Nat} {o : Obj} (h : w.heap[k]? = some o) : k < w.heap.size := by
  rcases Nat.lt_or_ge k w.heap.size with hl | hl
  · exact hl
  · rw [Array.getElem?_eq_none hl] at h
    cases h
theorem addr_block (a : Addr) (n : Nat) : (a.add n).block = a.block := by unfold Addr.add; split <;> rfl
theorem Rd.grown {w w' : World} {row : Option Nat} {A : Option Addr} {n : Nat} {l : List Int} (h : Rd w A n l) (hg : w.grownBy w' row) (hf : ∀ ad, A = some ad → some ad.block ≠ row) : Rd w' A n l := by
  cases A with
  | none =>
    obtain ⟨rfl, rfl⟩ := h.isNil
    exact Rd.empty _ _
  | some ad =>
    refine Rd.mk (Kd.C_len h) (Kd.C_max h) fun j hj => ?_
    obtain ⟨ad', e, hc⟩ := Rd.cells h (by omega)
    cases e
    exact hg.cell (hc j hj) (by rw [addr_block]; exact hf ad rfl)
theorem Cur.grown {w w' : World} {g p : Nat} {A : Option Addr} {n c : Nat} {l : List Int} {a : Nat} (h : Cur w g p A n c l a) {row : Option Nat} (hg : w.grownBy w' row) (h1 : some g ≠ row) (h2 : some p ≠ row) (h3 : ∀ ad, A = some ad → some ad.block ≠ row) : Cur w' g p A n c l a :=
  ⟨(hg.block g (lt_of_heap h.own) h1).trans h.own, (hg.block p (lt_of_heap h.place) h2).trans h.place, h.row.grown hg h3, h.part, h.far, h.cap, h.le⟩
theorem Cur.below {w w' : World} {g p : Nat} {A : Option Addr} {n c : Nat} {l : List Int} {a : Nat} (h : Cur w g p A n c l a) (hb : Below w.heap.size w w') : Cur w' g p A n c l a :=
  ⟨(hb.block g (lt_of_heap h.own)).trans h.own, (hb.block p (lt_of_heap h.place)).trans h.place, Kd.C_below h.row hb, h.part, h.far, h.cap, h.le⟩
theorem Cur.set {w : World} {g p : Nat} {A : Option Addr} {n c : Nat} {l : List Int} {a : Nat} (h : Cur w g p A n c l a) (b : Nat) (hb : b ≤ n) : Cur (w.setCell ⟨p, 1, none⟩ (.int .i64 b)) g p A n c l b := by
  have hg := Lib.grownBy_setCell w p 1 (.int .i64 b)
  refine ⟨(hg.block g (lt_of_heap h.own) (by intro e; exact h.part (Option.some.inj e))).trans h.own, ?_, h.row.grown hg (fun ad he e => h.far ad he (Option.some.inj e)), h.part, h.far, h.cap, hb⟩
  have hp := h.place
  simp [World.setCell, Array.getElem?_modify, hp]
set_option maxHeartbeats 400000 in
theorem made_calls {g p : Nat} {A : Option Addr} {n c : Nat} {l : List Int} {a : Nat} (w : World) (h : Cur w g p A n c l a) :
    Calls Try.prog 62 #[.pointer (some ⟨g, 0, none⟩)] w fun e w' => e = .returned (.bool true) ∧ w' = w := by
  have x0 := h.x0
  clear h
  go_enter Try.func62, Try.ntmps62
  go_wp2
  go_ret
  exact ⟨rfl, rfl⟩
theorem made_nil (w : World) :
    Calls Try.prog 62 #[.pointer none] w fun e w' => e = .returned (.bool false) ∧ w' = w := by
  go_enter Try.func62, Try.ntmps62
  go_wp2
  go_ret
  exact ⟨rfl, rfl⟩
theorem made_zero (w : World) (g : Nat) (x0 : w.cell? ⟨g, 0, none⟩ = some (.pointer none)) :
    Calls Try.prog 62 #[.pointer (some ⟨g, 0, none⟩)] w fun e w' => e = .returned (.bool false) ∧ w' = w := by
  go_enter Try.func62, Try.ntmps62
  go_wp2
  go_ret
  exact ⟨rfl, rfl⟩
set_option maxHeartbeats 400000 in
theorem left_calls {g p : Nat} {A : Option Addr} {n c : Nat} {l : List Int} {a : Nat} (w : World) (h : Cur w g p A n c l a) :
    Calls Try.prog 63 #[.pointer (some ⟨p, 0, none⟩)] w fun e w' => e = .returned (.int .i64 ((n : Int) - a)) ∧ Drawn0 w w' := by
  have x1 := h.x1
  have x2 := h.x2
  have hm := Kd.C_max h.row
  have hle := h.le
  clear h
  go_enter Try.func63, Try.ntmps63
  have hw : IntKind.i64.wrap ((n : Int) - a) = n - a := wrap_id (by omega) (by omega)
  go_wp2_with fail
  go_quiet (fail)
  go_wp2
  go_ret
  exact ⟨rfl, (Drawn0.refl _).step _⟩
end Go.Proofs.Ythbdgakeglppbaa
