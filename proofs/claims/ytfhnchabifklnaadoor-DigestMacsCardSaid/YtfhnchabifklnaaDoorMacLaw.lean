/- digest.Mac: what it computes; and append behind an array that is full. -/
import Derived.Test.YtfhnchabifklnaaDoorSha256
import Derived.Test.YtfhnchabifklnaaDoorBase64
import Derived.Test.YtfhnchabifklnaaDoorQuietTail2
import Derived.ArgAppend
namespace Go.Proofs.YtfhnchabifklnaaDoor
open Go.RowKit Go.Proofs.YtfhnchabifklnaaDoorW.PrintWords
/-- A key of 64 bytes. -/
def pad64 (l : List Int) : List Int := l ++ List.replicate (64 - l.length) 0
def macKey (key : List Int) : List Int := pad64 (if 64 < key.length then sha2 key else key)
def xorB (c : Int) (l : List Int) : List Int := l.map fun x => bits .xor .u8 x c
def mac (key b : List Int) : List Int := sha2 (xorB 92 (macKey key) ++ sha2 (xorB 54 (macKey key) ++ b))
theorem sha2_length (l : List Int) : (sha2 l).length = 32 := rfl
theorem be4_Bytes (x : Int) : Bytes (be4 x) := by
  intro y hy
  unfold be4 at hy
  simp only [List.mem_cons, List.not_mem_nil, or_false] at hy
  rcases hy with rfl | rfl | rfl | rfl <;> omega
theorem app_Bytes {a b : List Int} (h : Bytes a) (k : Bytes b) : Bytes (a ++ b) := by
  intro x hx
  rcases List.mem_append.1 hx with hx | hx
  · exact h x hx
  · exact k x hx
theorem sha2_Bytes (l : List Int) : Bytes (sha2 l) := by
  unfold sha2
  repeat' apply app_Bytes
  all_goals exact be4_Bytes _
theorem sha1_Bytes (l : List Int) : Bytes (sha1 l) := by
  unfold sha1
  repeat' apply app_Bytes
  all_goals exact be4_Bytes _
theorem pad64_length (l : List Int) (h : l.length ≤ 64) : (pad64 l).length = 64 := by unfold pad64; simp; omega
theorem pad64_Bytes (l : List Int) (h : Bytes l) : Bytes (pad64 l) := app_Bytes h (fun x hx => by rw [List.mem_replicate] at hx; omega)
theorem macKey_length (key : List Int) : (macKey key).length = 64 := by
  unfold macKey
  split
  · exact pad64_length _ (by rw [sha2_length]; decide)
  · exact pad64_length _ (by omega)
theorem xorB_length (c : Int) (l : List Int) : (xorB c l).length = l.length := List.length_map ..
theorem xorB_Bytes (c : Int) (l : List Int) : Bytes (xorB c l) := by
  intro x hx
  unfold xorB at hx
  obtain ⟨y, _, rfl⟩ := List.mem_map.1 hx
  have := bits_within .xor .u8 y c
  have e1 : IntKind.u8.min = 0 := rfl
  have e2 : IntKind.u8.max = 255 := rfl
  omega
/-- The first i bytes turned. -/
def xorUp (c : Int) (l : List Int) (i : Nat) : List Int := xorB c (l.take i) ++ l.drop i
theorem xorUp_zero (c : Int) (l : List Int) : xorUp c l 0 = l := by simp [xorUp, xorB]
theorem xorUp_length (c : Int) (l : List Int) (i : Nat) : (xorUp c l i).length = l.length := by simp [xorUp, xorB]; omega
theorem xorUp_at (c : Int) (l : List Int) (i : Nat) (hi : i < l.length) : rd (xorUp c l i) (i : Int) = rd l i := by
  have h1 : (xorB c (l.take i)).length = i := by simp [xorB]; omega
  unfold rd xorUp
  simp only [Int.toNat_natCast, List.getD_eq_getElem?_getD]
  rw [List.getElem?_append_right (by omega), h1, Nat.sub_self, List.getElem?_drop, Nat.add_zero]
theorem xorUp_set (c : Int) (l : List Int) (i : Nat) (hi : i < l.length) : (xorUp c l i).set i (bits .xor .u8 (rd l i) c) = xorUp c l (i + 1) := by
  have h1 : (xorB c (l.take i)).length = i := by simp [xorB]; omega
  unfold xorUp
  rw [List.set_append_right _ _ (by omega), h1, Nat.sub_self, List.drop_eq_getElem_cons hi, List.set_cons_zero, List.take_succ_eq_append_getElem hi, rd_get l i hi]
  unfold xorB
  rw [List.map_append, List.append_assoc]
  rfl
theorem xorUp_all (c : Int) (l : List Int) : xorUp c l l.length = xorB c l := by simp [xorUp]
section
variable {ops : Array Oper} {rest : List Oper} {o : Oper} {a : Act} {Q : Exit → Act → World → Prop} {w : World}
theorem Blk.row {g t : Nat} {l : List Int} (h : Blk w g t .u8 l) (hm : l.length ≤ 9223372036854775807) : Rd w (some ⟨g, 0, none⟩) l.length l := by
  refine Kd.C_of_reads (d := (0 : Int)) (h1 := fun _ => rfl) ⟨rfl, hm, fun _ => ⟨_, rfl, fun j hj => ?_⟩⟩
  rw [add_plain]
  have := h.cell j hj
  rw [this]
  simp [rd, hj]
theorem app_full {s x : Operand} {g t m c n : Nat} {A : Option Addr} {l ys : List Int} (hgd : o.guard = none) (hop : o.op = .call { callee := .builtin .append, args := #[s, x], argTypes := #[22, 22] }) (hv : a.eval s = .slice (some ⟨g, 0, none⟩) n n) (hx : a.eval x = .slice A m c)
    (hn : l.length = n) (h : Blk w g t .u8 l) (hr : Rd w A m ys) (hl : n + m ≤ 140737488355328)
    (K : ∀ A1 c1 w1, n + m ≤ c1 → Rd w1 A1 (n + m) (l ++ ys) → Below w.heap.size w w1 → wpList Tryd.prog ops Q rest (a.put o.dst (.slice A1 (n + m) c1)) w1) : wpList Tryd.prog ops Q (o :: rest) a w := by
  obtain ⟨i, hi, hzz⟩ := Option.map_eq_some_iff.1 (show (Tryd.prog.info? 5).map (fun i => (i.zero, i.size, i.bytes)) = some (some (.int .u8 0), 1, 1) from info_u8)
  simp only [Prod.mk.injEq] at hzz
  obtain ⟨hz0, hz1, hz2⟩ := hzz
  have hys := Kd.C_len hr
  have hrl := h.row (by omega)
  rw [hn] at hrl
  rcases Nat.eq_zero_or_pos m with hm | hm
  · subst hm
    obtain rfl : ys = [] := List.eq_nil_of_length_eq_zero hys
    have hrun : (Builtin.append_ #[22, 22] o.type #[.slice (some ⟨g, 0, none⟩) n n, .slice A 0 c]).run Tryd.prog w = .ok (.slice (some ⟨g, 0, none⟩) (n + 0) n) w := by
      cases A with
      | none => simp [Builtin.append_, run_underlying Tryd.underlying22, Go.sizeOf, typeInfo, hi, Builtin.lenOf, run_firstCells_none, storeCells]
      | some ad =>
        have := run_append_room_cells (P := Tryd.prog) w 22 o.type 5 i Tryd.underlying22 hi g 0 n n ad 0 c [] (by simp) (by simp) (by simp) (by omega) (by simp) (by simp)
        exact this
    refine wpList_plain hgd fun K' hK' => ?_
    unfold Oper.wp execOp
    simp only [hop, resolve, invoke, builtin, Sem.run_bind, Sem.run_pure, Result.andThen_ok, List.map_toArray, List.map_cons, List.map_nil, hv, hx, hrun]
    exact hK' _ _ (K _ _ _ (by omega) (by rw [List.append_nil]; exact hrl) (Below.refl _ _))
  · obtain ⟨ad, rfl, hcell⟩ := Rd.cells hr hm
    obtain ⟨v', w', hrun, hown, hg⟩ := run_append_arg_grows (P := Tryd.prog) w 22 o.type 5 i (.int .u8 0) 1 1 Tryd.underlying22 hi hz0 hz1 hz2 rfl (by decide) ⟨g, 0, none⟩ n n (nums .u8 l) (by simp [nums, hn])
      (fun j u hu => by
        have hj : j < l.length := by have := (List.getElem?_eq_some_iff.1 hu).1; simpa [nums] using this
        have hc := h.cell j hj
        rw [show (⟨g, 0, none⟩ : Addr).add j = ⟨g, j, none⟩ by unfold Addr.add; split <;> simp_all]
        rw [hc, ← hu]
        simp [nums, rd, List.getD_eq_getElem?_getD, hj])
      ad m c (nums .u8 ys) (by simp [nums, hys])
      (fun j u hu => by
        have hj : j < ys.length := by have := (List.getElem?_eq_some_iff.1 hu).1; simpa [nums] using this
        rw [hcell j (by omega), ← hu]
        simp [nums, rd, List.getD_eq_getElem?_getD, hj])
      (by omega) (by simp [maxLen]; omega) (by omega)
    have hown2 : w'.ownsRow w.heap.size 5 1 v' (l ++ ys).length (encs (Value.int .u8) (l ++ ys)) := by
      rw [List.length_append, hn, hys]
      simpa [encs, nums] using hown
    have hR : Own w w' v' (l ++ ys) := Kd.R_of_own (h1 := fun _ => rfl) hown2 (fun _ _ => trivial)
    obtain ⟨A1, c1, rfl, hc1, hr1⟩ := hR.reads
    rw [List.length_append, hn, hys] at hc1 hr1 hrun
    refine wpList_plain hgd fun K' hK' => ?_
    unfold Oper.wp execOp
    simp only [hop, resolve, invoke, builtin, Sem.run_bind, Sem.run_pure, Result.andThen_ok, List.map_toArray, List.map_cons, List.map_nil, hv, hx, hrun]
    exact hK' _ _ (K _ _ _ hc1 hr1 (Below.grown (Below.refl _ _) hg (Nat.le_refl _) (fun k hk => by cases hk)))
end
end Go.Proofs.YtfhnchabifklnaaDoor
