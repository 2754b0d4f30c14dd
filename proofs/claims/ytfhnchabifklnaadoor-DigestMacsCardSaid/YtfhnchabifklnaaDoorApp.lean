/- append on rows of bytes of the call's own, in short. -/
import Derived.Test.YtfhnchabifklnaaDoorStr
import Derived.Test.YtfhnchabifklnaaDoorClone
namespace Go.Proofs.YtfhnchabifklnaaDoor
open Go.RowKit Go.Proofs.YtfhnchabifklnaaDoorW.PrintWords
/-- A row of bytes of the call's own: whatever block it lies in, if it is younger than the call. -/
abbrev Own (w0 w : World) (v : Value) (l : List Int) : Prop := Kd.R (Kd.int .u8) 5 w w0.heap.size (fun _ => True) v l
abbrev Rd (w : World) (A : Option Addr) (n : Nat) (l : List Int) : Prop := Kd.C (Kd.int .u8) w A n l
theorem Rd.cells {w : World} {A : Option Addr} {n : Nat} {l : List Int} (h : Rd w A n l) (hn : 0 < n) : ∃ ad, A = some ad ∧ ∀ j, j < n → w.cell? (ad.add j) = some (.int .u8 (rd l j)) := by
  obtain ⟨ad, rfl, _⟩ := Kd.at_int h 0 (by omega) (by omega)
  refine ⟨ad, rfl, fun j hj => ?_⟩
  obtain ⟨ad', e, hx⟩ := Kd.at_int h j (by omega) (by omega)
  cases e
  exact hx
theorem Rd.mk {w : World} {a : Addr} {n : Nat} {l : List Int} (hl : l.length = n) (hm : n ≤ 9223372036854775807) (h : ∀ j, j < n → w.cell? (a.add j) = some (.int .u8 (rd l j))) : Rd w (some a) n l :=
  Kd.C_of_reads (d := (0 : Int)) (h1 := fun _ => rfl) ⟨hl, hm, fun _ => ⟨a, rfl, fun j hj => h j hj⟩⟩
theorem Rd.isNil {w : World} {n : Nat} {l : List Int} (h : Rd w none n l) : n = 0 ∧ l = [] := by
  rcases Nat.eq_zero_or_pos n with h0 | h0
  · exact ⟨h0, List.eq_nil_of_length_eq_zero (by rw [Kd.C_len h, h0])⟩
  · obtain ⟨ad, e, _⟩ := Rd.cells h h0
    cases e
theorem Rd.empty (w : World) (A : Option Addr) : Rd w A 0 [] := by
  cases A with
  | none => exact Kd.C_nil _ _
  | some a => exact Rd.mk rfl (by omega) (fun j hj => by omega)
theorem rd_mid (l : List Int) (lo hi j : Nat) (h : lo + j < hi) : rd ((l.take hi).drop lo) j = rd l ((lo + j : Nat) : Int) := by
  unfold rd
  simp only [Int.toNat_natCast, List.getD_eq_getElem?_getD, List.getElem?_drop, List.getElem?_take]
  rw [if_pos h]
/-- A cut out of the middle. -/
theorem Rd.mid {w : World} {ad x : Addr} {n : Nat} {l : List Int} (h : Rd w (some ad) n l) (lo hi : Nat) (h1 : lo ≤ hi) (h2 : hi ≤ n) (hx : lo < hi → x = ad.add lo) : Rd w (some x) (hi - lo) ((l.take hi).drop lo) := by
  have hl := Kd.C_len h
  have hm := Kd.C_max h
  refine Rd.mk (by simp; omega) (by omega) fun j hj => ?_
  obtain ⟨ad', e, hc⟩ := Rd.cells h (by omega)
  cases e
  rw [hx (by omega), add_add, rd_mid l lo hi j (by omega)]
  exact hc (lo + j) (by omega)
theorem Own.cast {w0 w : World} {v : Value} {l m : List Int} (h : Own w0 w v l) (he : l = m) : Own w0 w v m := he ▸ h
theorem Own.nil (w0 w : World) : Own w0 w (.slice none 0 0) [] := Kd.R_nil _ _ _ _ _
theorem Own.reads {w0 w : World} {v : Value} {l : List Int} (h : Own w0 w v l) : ∃ A c, v = .slice A l.length c ∧ l.length ≤ c ∧ Rd w A l.length l := by
  obtain ⟨A, c, rfl⟩ := Kd.R_slice h
  exact ⟨A, c, rfl, (Kd.R_reads' h).2.1, (Kd.R_reads' h).2.2⟩
theorem Own.below {w0 w w1 : World} {v : Value} {l : List Int} (h : Own w0 w v l) (hb : Below w.heap.size w w1) : Own w0 w1 v l := Kd.R_below h hb
theorem Own.form {w0 w : World} {v : Value} {l : List Int} (h : Own w0 w v l) (hp : 0 < l.length) : ∃ g cap, v = .slice (some ⟨g, 0, none⟩) l.length cap ∧ l.length ≤ cap ∧ w0.heap.size ≤ g ∧ g < w.heap.size := by
  obtain ⟨g, cap, rfl, h1, h2, _⟩ := Kd.R_form h hp
  exact ⟨g, cap, rfl, (Kd.R_reads' h).2.1, h1, h2⟩
theorem Own.cell {w0 w : World} {g n cap : Nat} {l : List Int} (h : Own w0 w (.slice (some ⟨g, 0, none⟩) n cap) l) (i : Nat) (hi : i < n) : w.cell? ⟨g, i, none⟩ = some (.int .u8 (rd l i)) ∧ w.frozen? ⟨g, i, none⟩ = false :=
  Kd.R_celln (0 : Int) h (i : Int) (by omega) (by omega)
theorem Own.put {w0 w : World} {g n cap : Nat} {l : List Int} (h : Own w0 w (.slice (some ⟨g, 0, none⟩) n cap) l) (i : Nat) (x : Int) : Own w0 (w.setCell ⟨g, i, none⟩ (.int .u8 x)) (.slice (some ⟨g, 0, none⟩) n cap) (l.set i x) :=
  Kd.R_putn h (i : Int) x
theorem Own.stay {w0 w w1 : World} {v : Value} {l : List Int} (h : Own w0 w v l) {row : Option Nat} (hg : w.grownBy w1 row) (hne : row ≠ v.ownBlock) : Own w0 w1 v l := Kd.R_grown1 h rfl hg hne
theorem Own.far {w0 w : World} {v : Value} {l : List Int} (h : Own w0 w v l) {p : Addr} (hne : some p.block ≠ v.ownBlock) (u : Value) : Own w0 (w.setCell p u) v l := Kd.R_drop (Kd.R_far (Kd.R_far1 h rfl hne) (fun _ hk => hk.2) u)
theorem Own.lt {w0 w : World} {v : Value} {l : List Int} (h : Own w0 w v l) : ∀ k, v.ownBlock = some k → k < w.heap.size := Kd.R_lt h
theorem Own.ge {w0 w : World} {v : Value} {l : List Int} (h : Own w0 w v l) : ∀ k, v.ownBlock = some k → w0.heap.size ≤ k := Kd.R_base h
/-- A row made later lies in another block. -/
theorem Own.apart {w0 w w1 w2 : World} {v u : Value} {l m : List Int} (h : Own w0 w v l) (k : Own w1 w2 u m) (hs : w.heap.size ≤ w1.heap.size) (hu : u.ownBlock ≠ none ∨ v.ownBlock ≠ none) : v.ownBlock ≠ u.ownBlock := by
  intro he
  cases hv : v.ownBlock with
  | none => rw [hv] at he hu; rcases hu with h1 | h1 <;> simp_all
  | some b => have h1 := h.lt b hv; have h2 := k.ge b (by rw [← he, hv]); omega
theorem Own.lower {w0 w1 w : World} {v : Value} {l : List Int} (h : Own w1 w v l) (hs : w0.heap.size ≤ w1.heap.size) : Own w0 w v l := Kd.R_lower h hs
theorem lit_nil {w0 W : World} (hB : Below w0.heap.size w0 W) : Own w0 (W.alloc (.cells #[] 5)) (.slice (some ⟨W.heap.size, 0, none⟩) 0 0) [] := R_laid W _ _ _ [] hB.size (by simp)
theorem lit_one {w0 W : World} (hB : Below w0.heap.size w0 W) (p : Int) : Own w0 (W.alloc (.cells #[.int .u8 p] 5)) (.slice (some ⟨W.heap.size, 0, none⟩) 1 1) [p] := R_laid W _ _ _ [p] hB.size (by simp)
theorem lit_two {w0 W : World} (hB : Below w0.heap.size w0 W) (p q : Int) : Own w0 (W.alloc (.cells #[.int .u8 p, .int .u8 q] 5)) (.slice (some ⟨W.heap.size, 0, none⟩) 2 2) [p, q] := R_laid W _ _ _ [p, q] hB.size (by simp)
theorem lit_three {w0 W : World} (hB : Below w0.heap.size w0 W) (p q r : Int) : Own w0 (W.alloc (.cells #[.int .u8 p, .int .u8 q, .int .u8 r] 5)) (.slice (some ⟨W.heap.size, 0, none⟩) 3 3) [p, q, r] := R_laid W _ _ _ [p, q, r] hB.size (by simp)
theorem lit_four {w0 W : World} (hB : Below w0.heap.size w0 W) (p q r t : Int) : Own w0 (W.alloc (.cells #[.int .u8 p, .int .u8 q, .int .u8 r, .int .u8 t] 5)) (.slice (some ⟨W.heap.size, 0, none⟩) 4 4) [p, q, r, t] := R_laid W _ _ _ [p, q, r, t] hB.size (by simp)
section
variable {ops : Array Oper} {rest : List Oper} {o : Oper} {a : Act} {Q : Exit → Act → World → Prop} {w0 W : World} {v : Value} {l ys : List Int} {A : Option Addr} {m c : Nat} {s x : Operand}
theorem app_row (hO : Own w0 W v l) (hR : Rd W A m ys) (hB : Below w0.heap.size w0 W) (hL : l.length + m ≤ 140737488355328)
    (hgd : o.guard = none) (hop : o.op = .call { callee := .builtin .append, args := #[s, x], argTypes := #[22, 22] }) (hv : a.eval s = v) (hx : a.eval x = .slice A m c)
    (K : ∀ v1 w1, Own w0 w1 v1 (l ++ ys) → Below w0.heap.size w0 w1 → W.grownBy w1 v.ownBlock → (v1.ownBlock = v.ownBlock ∨ ∃ b, v1.ownBlock = some b ∧ W.heap.size ≤ b) → wpList Tryd.prog ops Q rest (a.put o.dst v1) w1) : wpList Tryd.prog ops Q (o :: rest) a W :=
  Kd.R_append_rows (Kd.int .u8) (w0 := w0) w0.heap.size hgd s x 22 5 (.int .u8 0) 1 hop Tryd.underlying22 info_u8 rfl (by decide) (by omega) v l ys A m c (fun _ => True) (fun _ => False) hv hx hO hR (fun _ _ h => h) (fun _ h => h.elim) (fun _ _ => trivial) hB hB.size (by omega) K
theorem app_one {p : Int} (hO : Own w0 W v l) (hB : Below w0.heap.size w0 W) (hL : l.length + 1 ≤ 140737488355328)
    (hgd : o.guard = none) (hop : o.op = .call { callee := .builtin .append, args := #[s, x], argTypes := #[22, 22] }) (hv : a.eval s = v) (hx : a.eval x = .slice (some ⟨W.heap.size, 0, none⟩) 1 1)
    (K : ∀ v1 w1, Own w0 w1 v1 (l ++ [p]) → Below w0.heap.size w0 w1 → W.grownBy w1 v.ownBlock → (v1.ownBlock = v.ownBlock ∨ ∃ b, v1.ownBlock = some b ∧ W.heap.size ≤ b) → wpList Tryd.prog ops Q rest (a.put o.dst v1) w1) : wpList Tryd.prog ops Q (o :: rest) a (W.alloc (.cells #[.int .u8 p] 5)) :=
  Kd.R_append (Kd.int .u8) (w0 := w0) w0.heap.size hgd s x 22 5 (.int .u8 0) 1 hop Tryd.underlying22 info_u8 rfl (by decide) (by omega) v l p [.int .u8 p] (fun _ => True) (fun _ => False) hv hx rfl (fun _ hk => hk.elim) (fun _ _ => trivial) hO hB hB.size (by omega) K
theorem app_str {y : ByteArray} (hO : Own w0 W v l) (hB : Below w0.heap.size w0 W) (hL : l.length + y.size ≤ 140737488355328)
    (hgd : o.guard = none) (hop : o.op = .call { callee := .builtin .append, args := #[s, x], argTypes := #[22, 9] }) (hv : a.eval s = v) (hx : a.eval x = .string y)
    (K : ∀ v1 w1, Own w0 w1 v1 (l ++ bytesOf y) → Below w0.heap.size w0 w1 → W.grownBy w1 v.ownBlock → wpList Tryd.prog ops Q rest (a.put o.dst v1) w1) : wpList Tryd.prog ops Q (o :: rest) a W :=
  print_append_str (w0 := w0) w0.heap.size hgd s x 22 9 5 hop Tryd.underlying22 Tryd.underlying9 info_u8 v l y hv hx (Kd.own_of_R hO) hB hB.size hL (fun v1 w1 h1 h2 h3 => K v1 w1 (Kd.R_of_own h1 (fun _ _ => trivial)) h2 h3)
end
end Go.Proofs.YtfhnchabifklnaaDoor
