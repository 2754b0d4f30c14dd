/- '==' of arrays of whole numbers. -/
import Derived.Test.YthbdgakeglppbaaBase
import Derived.Laws.StructEq
namespace Go.Proofs.Ythbdgakeglppbaa
variable {P : Program} (w : World)
/-- The loop over an array's cells. -/
theorem run_arr_loop (d : Nat) (e : TypeId) (k : IntKind) (hq : ∀ a b : Int, (Op.equalIn d e (.int k a) (.int k b)).run P w = .ok (a == b) w) (ha : ∀ w, (isAgg e).run P w = .ok false w) (xs ys : List Int) :
    ∀ (m i : Nat), i + m = xs.length → xs.length = ys.length → (forIn (List.range' i m) ((none, ()) : Option Bool × Unit) fun i __s => do
            let __do_lift ← part e (xs.map (Value.int k)).toArray (i * 1)
            let __do_lift_1 ← part e (ys.map (Value.int k)).toArray (i * 1)
            let __do_lift ← Op.equalIn d e __do_lift __do_lift_1
            if (!__do_lift) = true then pure (ForInStep.done (some false, ())) else pure (ForInStep.yield ((none, ()) : Option Bool × Unit)) : Sem (Option Bool × Unit)).run P w = .ok (if xs.drop i = ys.drop i then (none, ()) else (some false, ())) w
  | 0, i, h, hl => by
    have e1 : xs.drop i = ys.drop i := by rw [List.drop_of_length_le (by omega), List.drop_of_length_le (by omega)]
    simp [e1]
  | m + 1, i, h, hl => by
    have ih := run_arr_loop d e k hq ha xs ys m (i + 1) (by omega) hl
    have hi : i < xs.length := by omega
    have hi' : i < ys.length := by omega
    have px : (part e (xs.map (Value.int k)).toArray i).run P w = .ok (.int k xs[i]) w := by
      unfold part
      simp [Sem.run_bind, ha, Result.andThen, hi]
    have py : (part e (ys.map (Value.int k)).toArray i).run P w = .ok (.int k ys[i]) w := by
      unfold part
      simp [Sem.run_bind, ha, Result.andThen, hi']
    have q := hq xs[i] ys[i]
    rw [List.range'_succ, List.forIn_cons]
    simp only [Nat.mul_one] at ih ⊢
    simp only [Sem.run_bind, px, py, q, Result.andThen_ok]
    rw [List.drop_eq_getElem_cons hi, List.drop_eq_getElem_cons hi']
    by_cases hxy : xs[i] = ys[i]
    · rw [hxy]
      simp only [beq_self_eq_true, Bool.not_true, Bool.false_eq_true, if_false, Sem.run_pure, Result.andThen_ok, List.cons.injEq, true_and]
      exact ih
    · have h1 : (xs[i] == ys[i]) = false := by simpa using hxy
      simp only [h1, Bool.not_false, if_true, Sem.run_pure, Result.andThen_ok, List.cons.injEq, hxy, false_and, if_false]
theorem run_equalIn_arr' (d : Nat) (t e : TypeId) (n : Nat) (k : IntKind) (xs ys : List Int) (ht : P.underlying t = some (.array n e)) (hs : (sizeOf e).run P w = .ok 1 w) (hq : ∀ a b : Int, (Op.equalIn d e (.int k a) (.int k b)).run P w = .ok (a == b) w) (ha : ∀ w, (isAgg e).run P w = .ok false w)
    (hx : xs.length = n) (hy : ys.length = n) :
    (Op.equalIn (d + 1) t (.agg (xs.map (Value.int k)).toArray) (.agg (ys.map (Value.int k)).toArray)).run P w = .ok (decide (xs = ys)) w := by
  simp only [Op.equalIn, Sem.run_bind, run_underlying ht, Result.andThen_ok, hs]
  rw [Std.Legacy.Range.forIn_eq_forIn_range']
  have := run_arr_loop (P := P) w d e k hq ha xs ys n 0 (by omega) (by omega)
  simp only [Std.Legacy.Range.size, Nat.sub_zero, Nat.add_sub_cancel, Nat.div_one]
  rw [this]
  simp only [List.drop_zero, Result.andThen_ok]
  by_cases h : xs = ys
  · simp [h]
  · simp [h]
theorem run_equalIn_arr (d : Nat) (t e : TypeId) (n : Nat) (k : IntKind) (xs ys : List Int) (ht : P.underlying t = some (.array n e)) (hs : (sizeOf e).run P w = .ok 1 w) (he : P.underlying e = some (.int k)) (ha : ∀ w, (isAgg e).run P w = .ok false w)
    (hx : xs.length = n) (hy : ys.length = n) :
    (Op.equalIn (d + 2) t (.agg (xs.map (Value.int k)).toArray) (.agg (ys.map (Value.int k)).toArray)).run P w = .ok (decide (xs = ys)) w :=
  run_equalIn_arr' w (d + 1) t e n k xs ys ht hs (fun a b => run_equalIn_int w d e k k a b he) ha hx hy
end Go.Proofs.Ythbdgakeglppbaa
