/- Rows of rows of words; a message's blocks of sixteen words. -/
import Derived.Test.YtfhnchabifklnaaDoorWords
import Derived.Test.YtfhnchabifklnaaDoorApp
import Derived.Test.YtfhnchabifklnaaDoorShaMem
namespace Go.Proofs.YtfhnchabifklnaaDoor
open Go.RowKit Go.Proofs.YtfhnchabifklnaaDoorW.PrintWords
abbrev KW : Kd (List Int) := Kd.slice 39 (Kd.int .u32)
theorem info_words : (Tryd.prog.info? 41).map (fun i => (i.zero, i.size, i.bytes)) = some (some (.slice none 0 0), 1, 24) := by kernel_rfl
abbrev OwnLW (w0 w : World) (v : Value) (ls : List (List Int)) : Prop := Kd.S KW 41 w w0.heap.size (fun _ => True) v ls
abbrev RdLW (w : World) (A : Option Addr) (n : Nat) (ls : List (List Int)) : Prop := Kd.C KW w A n ls
theorem OwnLW.cast {w0 w : World} {v : Value} {l m : List (List Int)} (h : OwnLW w0 w v l) (he : l = m) : OwnLW w0 w v m := he ▸ h
theorem OwnLW.nil (w0 w : World) : OwnLW w0 w (.slice none 0 0) [] := Kd.S_nil _ _ _ _ _
theorem OwnLW.reads {w0 w : World} {v : Value} {ls : List (List Int)} (h : OwnLW w0 w v ls) : ∃ A c, v = .slice A ls.length c ∧ ls.length ≤ c ∧ RdLW w A ls.length ls := Kd.S_reads h
theorem OwnLW.below {w0 w w1 : World} {v : Value} {l : List (List Int)} (h : OwnLW w0 w v l) (hb : Below w.heap.size w w1) : OwnLW w0 w1 v l := Kd.S_below h hb
theorem OwnLW.lower {w0 w1 w : World} {v : Value} {l : List (List Int)} (h : OwnLW w1 w v l) (hs : w0.heap.size ≤ w1.heap.size) : OwnLW w0 w v l := Kd.S_lower h hs
theorem RdLW.at {w : World} {A : Option Addr} {n : Nat} {ls : List (List Int)} (h : RdLW w A n ls) (i : Nat) (hi : i < n) : ∃ ad Ai ci, A = some ad ∧ w.cell? (ad.add i) = some (.slice Ai (ls.getD i []).length ci) ∧ (ls.getD i []).length ≤ ci ∧ RdW w Ai (ls.getD i []).length (ls.getD i []) := by
  obtain ⟨ad, c, e, hcl, ⟨Ai, ci, rfl, hle, hr⟩, hc⟩ := ReadsRow.get_ h [] (i : Int) (by omega) (by omega)
  simp only [Int.toNat_natCast] at hle hr hc
  refine ⟨ad, Ai, ci, e, ?_, hle, hr⟩
  have := hc 0 _ rfl
  rwa [show i * KW.sz + 0 = i from Nat.mul_one i] at this
theorem frozen_same {w w' : World} {g i : Nat} (h : w'.heap[g]? = w.heap[g]?) : w'.frozen? ⟨g, i, none⟩ = w.frozen? ⟨g, i, none⟩ := by
  unfold World.frozen?
  simp only [h]
section
variable {ops : Array Oper} {rest : List Oper} {o : Oper} {a : Act} {Q : Exit → Act → World → Prop} {w0 w1 W : World} {s x : Operand} {v pv : Value} {ls : List (List Int)} {l p : List Int}
theorem applw_one (h0 : w0.heap.size ≤ w1.heap.size) (hO : OwnLW w0 w1 v ls) (hW : Below w1.heap.size w1 W) (hp : OwnW w1 W pv p) (hB : Below w0.heap.size w0 W) (hL : ls.length + 1 ≤ 5864062014805)
    (hgd : o.guard = none) (hop : o.op = .call { callee := .builtin .append, args := #[s, x], argTypes := #[46, 46] }) (hv : a.eval s = v) (hx : a.eval x = .slice (some ⟨W.heap.size, 0, none⟩) 1 1)
    (K : ∀ v1 w2, OwnLW w0 w2 v1 (ls ++ [p]) → Below w0.heap.size w0 w2 → wpList Tryd.prog ops Q rest (a.put o.dst v1) w2) : wpList Tryd.prog ops Q (o :: rest) a (W.alloc (.cells #[pv] 41)) := by
  have hlt : ∀ k, v.ownBlock = some k → k < w1.heap.size := Kd.S_lt hO
  have h1 : Kd.S KW 41 W w0.heap.size (fun k => True ∧ ¬ w1.heap.size ≤ k) v ls :=
    Kd.S_below (Kd.S_mono (Kd.S_bound hO) (fun k hk => ⟨trivial, by omega⟩)) hW |> fun h => h
  have hM : KW.M W w0.heap.size (fun k => w1.heap.size ≤ k) p [pv] :=
    ⟨pv, rfl, Kd.R_lower (Kd.R_mono (Kd.R_bound hp) (fun k hk => hk.2.1)) h0⟩
  exact Kd.S_append KW (w0 := w0) w0.heap.size hgd s x 46 41 (.slice none 0 0) 24 hop Tryd.underlying46 info_words rfl (by decide) (by omega) v ls p [pv] (fun _ => True) (fun k => w1.heap.size ≤ k) hv hx hM (fun k hk => ⟨trivial, fun he => by have := hlt k he.symm; omega⟩) (fun _ _ => trivial) h1 hB hB.size (by omega) (fun v1 w2 h1 h2 _ _ => K v1 w2 h1 h2)
theorem appw_oneR {y : Int} {base : Nat} {ok : Nat → Prop} (hO : (Kd.int .u32).R 39 W base ok v l) (hfresh : ∀ k, W.heap.size ≤ k → ok k) (hB : Below base w0 W) (hbase : base ≤ W.heap.size) (hL : l.length + 1 ≤ 35184372088832)
    (hgd : o.guard = none) (hop : o.op = .call { callee := .builtin .append, args := #[s, x], argTypes := #[41, 41] }) (hv : a.eval s = v) (hx : a.eval x = .slice (some ⟨W.heap.size, 0, none⟩) 1 1)
    (K : ∀ v1 w1, (Kd.int .u32).R 39 w1 base ok v1 (l ++ [y]) → Below base w0 w1 → W.grownBy w1 v.ownBlock → (v1.ownBlock = v.ownBlock ∨ ∃ b, v1.ownBlock = some b ∧ W.heap.size ≤ b) → wpList Tryd.prog ops Q rest (a.put o.dst v1) w1) : wpList Tryd.prog ops Q (o :: rest) a (W.alloc (.cells #[.int .u32 y] 39)) :=
  Kd.R_append (Kd.int .u32) (w0 := w0) base hgd s x 41 39 (.int .u32 0) 4 hop Tryd.underlying41 info_u32 rfl (by decide) (by omega) v l y [.int .u32 y] ok (fun _ => False) hv hx rfl (fun _ hk => hk.elim) hfresh hO hB hbase (by omega) K
end
/-- The first j words in rows of sixteen, m rows. -/
def rowF (Wd : List Int) (j t : Nat) : List Int := ((Wd.take j).drop (16 * t)).take 16
def rowsF (Wd : List Int) (j m : Nat) : List (List Int) := (List.range m).map (rowF Wd j)
theorem rowsF_length (Wd : List Int) (j m : Nat) : (rowsF Wd j m).length = m := by simp [rowsF]
theorem rowF_eq (Wd : List Int) (j t : Nat) : rowF Wd j t = (Wd.drop (16 * t)).take (min 16 (j - 16 * t)) := by
  unfold rowF
  rw [List.drop_take, List.take_take]
theorem rowsF_new (Wd : List Int) (j : Nat) (hj : j % 16 = 0) : rowsF Wd j (j / 16) ++ [[]] = rowsF Wd j (j / 16 + 1) := by
  unfold rowsF
  rw [List.range_succ, List.map_append]
  congr 1
  have : rowF Wd j (j / 16) = [] := by rw [rowF_eq, show j - 16 * (j / 16) = 0 by omega]; simp
  simp [this]
theorem rowsF_getD (Wd : List Int) (j m t : Nat) (h : t < m) : (rowsF Wd j m).getD t [] = rowF Wd j t := by
  unfold rowsF
  rw [List.getD_eq_getElem?_getD, List.getElem?_map, List.getElem?_range h]
  rfl
theorem rowF_next (Wd : List Int) (j : Nat) (hj : j < Wd.length) : rowF Wd j (j / 16) ++ [rd Wd j] = rowF Wd (j + 1) (j / 16) := by
  rw [rowF_eq, rowF_eq, show min 16 (j - 16 * (j / 16)) = j - 16 * (j / 16) by omega, show min 16 (j + 1 - 16 * (j / 16)) = j - 16 * (j / 16) + 1 by omega,
    List.take_succ_eq_append_getElem (by rw [List.length_drop]; omega), rd_get Wd j hj]
  congr 2
  rw [List.getElem_drop]
  congr 1
  omega
theorem rowsF_set (Wd : List Int) (j : Nat) (hj : j < Wd.length) : (rowsF Wd j (j / 16 + 1)).set (j / 16) (rowF Wd j (j / 16) ++ [rd Wd j]) = rowsF Wd (j + 1) (j / 16 + 1) := by
  rw [rowF_next Wd j hj]
  apply List.ext_getElem
  · simp [rowsF]
  · intro t h1 h2
    have ht : t < j / 16 + 1 := by rw [rowsF_length] at h2; exact h2
    rw [List.getElem_set]
    split
    · rename_i he
      subst he
      simp [rowsF]
    · rename_i he
      simp only [rowsF, List.getElem_map, List.getElem_range]
      rw [rowF_eq, rowF_eq]
      congr 1
      omega
theorem w32_drop : ∀ (i : Nat) (l : List Int), w32 (l.drop (4 * i)) = (w32 l).drop i
  | 0, l => rfl
  | i + 1, a :: b :: c :: d :: t => by
    rw [show 4 * (i + 1) = 4 * i + 1 + 1 + 1 + 1 by omega]
    simp only [List.drop_succ_cons, w32]
    exact w32_drop i t
  | i + 1, [] => by simp [w32]
  | i + 1, [_] => by rw [List.drop_of_length_le (by simp; omega)]; simp [w32]
  | i + 1, [_, _] => by rw [List.drop_of_length_le (by simp; omega)]; simp [w32]
  | i + 1, [_, _, _] => by rw [List.drop_of_length_le (by simp; omega)]; simp [w32]
theorem w32_take : ∀ (i : Nat) (l : List Int), w32 (l.take (4 * i)) = (w32 l).take i
  | 0, l => by simp [w32]
  | i + 1, a :: b :: c :: d :: t => by
    rw [show 4 * (i + 1) = 4 * i + 1 + 1 + 1 + 1 by omega]
    simp only [List.take_succ_cons, w32]
    rw [w32_take i t]
  | i + 1, [] => by simp [w32]
  | i + 1, [_] => by rw [List.take_of_length_le (by simp; omega)]; simp [w32]
  | i + 1, [_, _] => by rw [List.take_of_length_le (by simp; omega)]; simp [w32]
  | i + 1, [_, _, _] => by rw [List.take_of_length_le (by simp; omega)]; simp [w32]
theorem w32_at : ∀ (j : Nat) (l : List Int), 4 * j + 4 ≤ l.length → rd (w32 l) (j : Int) = 16777216 * rd l ((4 * j : Nat) : Int) + 65536 * rd l ((4 * j + 1 : Nat) : Int) + 256 * rd l ((4 * j + 2 : Nat) : Int) + rd l ((4 * j + 3 : Nat) : Int)
  | 0, a :: b :: c :: d :: t, _ => rfl
  | j + 1, a :: b :: c :: d :: t, h => by
    have ih := w32_at j t (by simp at h; omega)
    have e : rd (w32 (a :: b :: c :: d :: t)) ((j + 1 : Nat) : Int) = rd (w32 t) (j : Int) := rfl
    have e4 : ∀ k : Nat, rd (a :: b :: c :: d :: t) ((4 * (j + 1) + k : Nat) : Int) = rd t ((4 * j + k : Nat) : Int) := by
      intro k
      unfold rd
      simp only [Int.toNat_natCast]
      rw [show 4 * (j + 1) + k = (4 * j + k) + 1 + 1 + 1 + 1 by omega]
      rfl
    have h0 := e4 0
    rw [Nat.add_zero, Nat.add_zero] at h0
    rw [e, ih, h0, e4 1, e4 2, e4 3]
    try simp only [Nat.add_zero]
/-- Row t of a message's blocks: the words of its t-th block. -/
theorem rowF_block (P : List Int) (K t : Nat) (ht : t < K) : rowF (w32 P) (16 * K) t = w32 ((P.drop (64 * t)).take 64) := by
  rw [rowF_eq, show min 16 (16 * K - 16 * t) = 16 by omega, show 64 * t = 4 * (16 * t) by omega, show (64 : Nat) = 4 * 16 from rfl, w32_take, w32_drop]
end Go.Proofs.YtfhnchabifklnaaDoor
