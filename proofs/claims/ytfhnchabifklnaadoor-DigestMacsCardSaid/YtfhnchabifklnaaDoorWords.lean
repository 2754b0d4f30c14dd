/- digest.words: a block's words, as many more as are asked for. -/
import Derived.Test.YtfhnchabifklnaaDoorPadded
import Derived.StillTailTactics
namespace Go.Proofs.YtfhnchabifklnaaDoor
open Go.RowKit Go.Proofs.YtfhnchabifklnaaDoorW.PrintWords
theorem info_u32 : (Tryd.prog.info? 39).map (fun i => (i.zero, i.size, i.bytes)) = some (some (.int .u32 0), 1, 4) := by kernel_rfl
abbrev OwnW (w0 w : World) (v : Value) (l : List Int) : Prop := Kd.R (Kd.int .u32) 39 w w0.heap.size (fun _ => True) v l
abbrev RdW (w : World) (A : Option Addr) (n : Nat) (l : List Int) : Prop := Kd.C (Kd.int .u32) w A n l
theorem RdW.cells {w : World} {A : Option Addr} {n : Nat} {l : List Int} (h : RdW w A n l) (hn : 0 < n) : ∃ ad, A = some ad ∧ ∀ j, j < n → w.cell? (ad.add j) = some (.int .u32 (rd l j)) := by
  obtain ⟨ad, rfl, _⟩ := Kd.at_int h 0 (by omega) (by omega)
  refine ⟨ad, rfl, fun j hj => ?_⟩
  obtain ⟨ad', e, hx⟩ := Kd.at_int h j (by omega) (by omega)
  cases e
  exact hx
theorem OwnW.cast {w0 w : World} {v : Value} {l m : List Int} (h : OwnW w0 w v l) (he : l = m) : OwnW w0 w v m := he ▸ h
theorem OwnW.nil (w0 w : World) : OwnW w0 w (.slice none 0 0) [] := Kd.R_nil _ _ _ _ _
theorem OwnW.reads {w0 w : World} {v : Value} {l : List Int} (h : OwnW w0 w v l) : ∃ A c, v = .slice A l.length c ∧ l.length ≤ c ∧ RdW w A l.length l := by
  obtain ⟨A, c, rfl⟩ := Kd.R_slice h
  exact ⟨A, c, rfl, (Kd.R_reads' h).2.1, (Kd.R_reads' h).2.2⟩
theorem OwnW.below {w0 w w1 : World} {v : Value} {l : List Int} (h : OwnW w0 w v l) (hb : Below w.heap.size w w1) : OwnW w0 w1 v l := Kd.R_below h hb
section
variable {ops : Array Oper} {rest : List Oper} {o : Oper} {a : Act} {Q : Exit → Act → World → Prop} {w0 W : World} {v : Value} {l : List Int} {s x : Operand}
theorem appw_one {p : Int} (hO : OwnW w0 W v l) (hB : Below w0.heap.size w0 W) (hL : l.length + 1 ≤ 35184372088832)
    (hgd : o.guard = none) (hop : o.op = .call { callee := .builtin .append, args := #[s, x], argTypes := #[41, 41] }) (hv : a.eval s = v) (hx : a.eval x = .slice (some ⟨W.heap.size, 0, none⟩) 1 1)
    (K : ∀ v1 w1, OwnW w0 w1 v1 (l ++ [p]) → Below w0.heap.size w0 w1 → W.grownBy w1 v.ownBlock → (v1.ownBlock = v.ownBlock ∨ ∃ b, v1.ownBlock = some b ∧ W.heap.size ≤ b) → wpList Tryd.prog ops Q rest (a.put o.dst v1) w1) : wpList Tryd.prog ops Q (o :: rest) a (W.alloc (.cells #[.int .u32 p] 39)) :=
  Kd.R_append (Kd.int .u32) (w0 := w0) w0.heap.size hgd s x 41 39 (.int .u32 0) 4 hop Tryd.underlying41 info_u32 rfl (by decide) (by omega) v l p [.int .u32 p] (fun _ => True) (fun _ => False) hv hx rfl (fun _ hk => hk.elim) (fun _ _ => trivial) hO hB hB.size (by omega) K
end
section
variable {ops : Array Oper} {o : Oper} {a : Act} {Q : Exit → Act → World → Prop} {Kc : Act → World → Prop} {w0 W : World} {v : Value} {l : List Int} {s x : Operand}
theorem appw_step {p : Int} (hO : OwnW w0 W v l) (hB : Below w0.heap.size w0 W) (hL : l.length + 1 ≤ 35184372088832)
    (hw : Region.wanted o (yielded ops a.tmps) = true) (hop : o.op = .call { callee := .builtin .append, args := #[s, x], argTypes := #[41, 41] }) (hv : a.eval s = v) (hx : a.eval x = .slice (some ⟨W.heap.size, 0, none⟩) 1 1)
    (K : ∀ v1 w1, OwnW w0 w1 v1 (l ++ [p]) → Below w0.heap.size w0 w1 → W.grownBy w1 v.ownBlock → (v1.ownBlock = v.ownBlock ∨ ∃ b, v1.ownBlock = some b ∧ W.heap.size ≤ b) → Kc (a.put o.dst v1) w1) :
    if Region.wanted o (yielded ops a.tmps) = true then Oper.wp Tryd.prog o a (W.alloc (.cells #[.int .u32 p] 39)) Kc Q else Kc (a.put o.dst undef) (W.alloc (.cells #[.int .u32 p] 39)) :=
  Kd.R_append_step (Kd.int .u32) (w0 := w0) w0.heap.size hw s x 41 39 (.int .u32 0) 4 hop Tryd.underlying41 info_u32 rfl (by decide) (by omega) v l p [.int .u32 p] (fun _ => True) (fun _ => False) hv hx rfl (fun _ hk => hk.elim) (fun _ _ => trivial) hO hB hB.size (by omega) K
end
theorem Rd.lit {w : World} {ad : Addr} {n : Nat} {l : List Int} (h : ∀ j, j < n → w.cell? (ad.add j) = some (.int .u8 (rd l j))) (j : Nat) (hj : j + 1 < n) : w.cell? ⟨ad.block, ad.off + (j + 1), none⟩ = some (.int .u8 (rd l ((j + 1 : Nat) : Int))) := by
  have := h (j + 1) hj
  unfold Addr.add at this
  rwa [if_neg (by omega)] at this
theorem rd_drop (l : List Int) (a i : Nat) : rd (l.drop a) (i : Int) = rd l ((a + i : Nat) : Int) := by
  unfold rd
  simp only [Int.toNat_natCast, List.getD_eq_getElem?_getD, List.getElem?_drop]
theorem or_four32 (a b c d : Int) (a0 : 0 ≤ a) (a1 : a < 256) (b0 : 0 ≤ b) (b1 : b < 256) (c0 : 0 ≤ c) (c1 : c < 256) (d0 : 0 ≤ d) (d1 : d < 256) :
    bits .or .u32 (bits .or .u32 (bits .or .u32 (a * 16777216) (b * 65536)) (c * 256)) d = 16777216 * a + 65536 * b + 256 * c + d := by
  rw [bits_join .u32 32 (by decide) wraps_u32 24 (a * 16777216) (b * 65536) (by omega) (by omega) (by omega) (by omega) (by omega) (by omega),
    bits_join .u32 32 (by decide) wraps_u32 16 (a * 16777216 + b * 65536) (c * 256) (by omega) (by omega) (by omega) (by omega) (by omega) (by omega),
    bits_join .u32 32 (by decide) wraps_u32 8 (a * 16777216 + b * 65536 + c * 256) d (by omega) (by omega) (by omega) (by omega) (by omega) (by omega)]
  omega
/-- A block's words. -/
def w32 : List Int → List Int
  | a :: b :: c :: d :: t => (16777216 * a + 65536 * b + 256 * c + d) :: w32 t
  | _ => []
/-- So many words more, each made of those ahead. -/
def extW (F : List Int → Int) : Nat → List Int → List Int
  | 0, l => l
  | k + 1, l => extW F k (l ++ [F l])
theorem w32_length : ∀ (l : List Int), (w32 l).length = l.length / 4
  | [] => rfl
  | [_] => by simp [w32]
  | [_, _] => by simp [w32]
  | [_, _, _] => by simp [w32]
  | _ :: _ :: _ :: _ :: t => by
    simp only [w32, List.length_cons, w32_length t]
    omega
/-- Words. -/
def Ws (l : List Int) : Prop := ∀ x ∈ l, 0 ≤ x ∧ x < 4294967296
theorem Ws.app {a b : List Int} (h : Ws a) (k : Ws b) : Ws (a ++ b) := by
  intro x hx
  rcases List.mem_append.1 hx with hx | hx
  · exact h x hx
  · exact k x hx
theorem Ws.rd {l : List Int} (h : Ws l) (k : Nat) (hk : k < l.length) : 0 ≤ rd l k ∧ rd l k < 4294967296 := by
  rw [rd_get l k hk]
  exact h _ (List.getElem_mem hk)
theorem w32_Ws : ∀ (l : List Int), Bytes l → Ws (w32 l)
  | a :: b :: c :: d :: t, hb => by
    have h0 := hb a (by simp)
    have h1 := hb b (by simp)
    have h2 := hb c (by simp)
    have h3 := hb d (by simp)
    have ih := w32_Ws t (fun x hx => hb x (by simp [hx]))
    intro x hx
    simp only [w32, List.mem_cons] at hx
    rcases hx with rfl | hx
    · omega
    · exact ih x hx
  | [], _ | [_], _ | [_, _], _ | [_, _, _], _ => by intro x hx; simp [w32] at hx
theorem extW_Ws (F : List Int → Int) (hF : ∀ l, Ws l → 16 ≤ l.length → 0 ≤ F l ∧ F l < 4294967296) : ∀ (k : Nat) (l : List Int), Ws l → 16 ≤ l.length → Ws (extW F k l)
  | 0, _, h, _ => h
  | k + 1, l, h, hl => by
    refine extW_Ws F hF k _ (h.app ?_) (by rw [List.length_append]; omega)
    intro x hx
    rw [List.mem_singleton] at hx
    rw [hx]
    exact hF l h hl
/-- What a maker of more words is held to. -/
def Makes (f : FuncId) (F : List Int → Int) : Prop := (∀ l, Ws l → 16 ≤ l.length → 0 ≤ F l ∧ F l < 4294967296) ∧ ∀ (W : World) (A : Option Addr) (c : Nat) (l : List Int), RdW W A l.length l → Ws l → 16 ≤ l.length → l.length ≤ 80 → Calls Tryd.prog f #[.slice A l.length c] W fun e w' => e = .returned (.int .u32 (F l)) ∧ Drawn0 W w'
theorem w32_snoc (l : List Int) (j : Nat) (h : 4 * j + 4 ≤ l.length) : w32 (l.take (4 * (j + 1))) = w32 (l.take (4 * j)) ++ [16777216 * rd l ((4 * j : Nat) : Int) + 65536 * rd l ((4 * j + 1 : Nat) : Int) + 256 * rd l ((4 * j + 2 : Nat) : Int) + rd l ((4 * j + 3 : Nat) : Int)] := by
  induction j generalizing l with
  | zero =>
    match l, h with
    | a :: b :: c :: d :: t, _ => simp [w32, rd]
  | succ j ih =>
    match l, h with
    | a :: b :: c :: d :: t, h =>
      simp only [List.length_cons] at h
      have e := ih t (by omega)
      rw [show 4 * (j + 1 + 1) = 4 * (j + 1) + 1 + 1 + 1 + 1 by omega, show 4 * (j + 1) = 4 * j + 1 + 1 + 1 + 1 by omega]
      simp only [List.take_succ_cons, w32, List.cons_append]
      rw [show 4 * j + 1 + 1 + 1 + 1 = 4 * (j + 1) by omega, e]
      have hr : ∀ i : Nat, rd (a :: b :: c :: d :: t) ((4 * (j + 1) + i : Nat) : Int) = rd t ((4 * j + i : Nat) : Int) := by
        intro i
        unfold rd
        simp only [Int.toNat_natCast]
        rw [show 4 * (j + 1) + i = (4 * j + i) + 1 + 1 + 1 + 1 by omega]
        rfl
      have h0 := hr 0
      rw [Nat.add_zero, Nat.add_zero] at h0
      rw [h0, hr 1, hr 2, hr 3]
      rfl
theorem extW_snoc (F : List Int → Int) : ∀ (k : Nat) (l : List Int), extW F (k + 1) l = extW F k l ++ [F (extW F k l)]
  | 0, _ => rfl
  | k + 1, l => by rw [extW, extW_snoc F k]; rfl
theorem extW_length (F : List Int → Int) (k : Nat) (l : List Int) : (extW F k l).length = l.length + k := by
  induction k with
  | zero => rfl
  | succ k ih => rw [extW_snoc, List.length_append, ih]; rfl
end Go.Proofs.YtfhnchabifklnaaDoor
