/- The texts WsMask, Cursor, Whole, Ints, Rot, Padded, Words in one. -/
import Derived.Test.YtcfbfmgckaehdaaDoorG01
import Derived.Test.YtcfbfmgckaehdaaDoorG02
import Derived.Test.YtcfbfmgckaehdaaDoorG03
import Derived.Lib.BufferOwn
import Derived.Laws.Rows
import Derived.StillTailTactics
namespace Go.Proofs.YtcfbfmgckaehdaaDoor
open Go.RowKit Go.Proofs.YtcfbfmgckaehdaaDoorW.PrintWords
set_option maxHeartbeats 1600000 in
theorem masked_calls {n : Nat} (A0 : Option Addr) (c0 : Nat) (l : List Int) (A1 : Option Addr) (c1 : Nat) (m : List Int) (w : World) (hr0 : Rd w A0 n l) (hc0 : n ≤ c0) (hr1 : Rd w A1 4 m) (hn : n ≤ 35184372088832) :
    Calls Tryd.prog 41 #[.slice A0 n c0, .slice A1 4 c1] w fun e w' => ∃ v0 : Value, e = .returned v0 ∧ Own w w' v0 (maskL m l) ∧ Below w.heap.size w w' := by
  have hlen := Kd.C_len hr0
  subst hlen
  have HR1 := Lib.hid hr1
  obtain ⟨am, hA1, hm⟩ := Rd.cells hr1 (by decide)
  subst hA1
  have HM := Lib.hid (Kd.C_len hr1)
  have HZ := Lib.hid hr0
  clear hr1 hr0 hm
  go_enter Tryd.func41, Tryd.ntmps41
  go_wp2_with fail
  refine (bytes_Clone.calls A0 c0 l l _ HZ.out hc0 (if_pos (by omega))).mono ?_
  rintro e w1 ⟨v1, rfl, ho1, hb1⟩
  obtain ⟨A, c, rfl, hcc, hrd⟩ := Own.reads ho1
  have HS := Lib.hid (show Own w w1 (.slice A l.length c) (maskUp m l 0) ∧ Below w.heap.size w w1 from ⟨by rw [maskUp_zero]; exact ho1, hb1⟩)
  have HW := Lib.hid hb1
  clear ho1 hb1 hrd HZ hc0 hcc
  go_wp2_with fail
  go_loopw [11] (fun i wr => ∃ k : Nat, i = .int .i64 k ∧ k ≤ l.length ∧ Hid (Own w wr (.slice A l.length c) (maskUp m l k) ∧ Below w.heap.size w wr)) (fun i _ => l.length - (intOf i).toNat)
  case atStart => exact ⟨0, rfl, by omega, HS⟩
  case round =>
    obtain ⟨k, rfl, hk, HA⟩ := hrel
    by_cases hkn : k < l.length
    · have ho := HA.out.1
      rw [← maskUp_length m l k] at ho
      obtain ⟨g, cap, e, _, hg, _⟩ := Own.form ho (by rw [maskUp_length]; omega)
      rw [maskUp_length] at e
      injection e with e1 e2 e3
      subst e1
      have HG := Lib.hid hg
      clear ho hg e2 e3
      have hcell := Own.cell HA.out.1 k hkn
      rw [maskUp_at m l k hkn] at hcell
      obtain ⟨hx, hf⟩ := hcell
      have hrm := Kd.C_below HR1.out HA.out.2
      obtain ⟨am', e', hmc⟩ := Rd.cells hrm (by decide)
      cases e'
      have hy := hmc (k % 4) (Nat.mod_lt _ (by decide))
      have t1 : (k : Int).tmod 4 = ((k % 4 : Nat) : Int) := Int.ofNat_tmod k 4
      obtain ⟨j, hj⟩ : ∃ j, j = k % 4 := ⟨_, rfl⟩
      rw [← hj] at hy t1
      have j4 : j < 4 := by omega
      have ji4 : (j : Int) < 4 := by omega
      obtain ⟨x, hxe⟩ : ∃ x, x = rd l (k : Nat) := ⟨_, rfl⟩
      obtain ⟨y, hye⟩ : ∃ y, y = rd m (j : Nat) := ⟨_, rfl⟩
      rw [← hxe] at hx
      rw [← hye] at hy
      have HSET := Lib.hid (show (maskUp m l k).set k (bits .xor .u8 x y) = maskUp m l (k + 1) by rw [hxe, hye, hj]; exact maskUp_set m l k hkn)
      have dkn : decide (k < l.length) = true := decide_eq_true hkn
      have ikn : (k : Int) < l.length := by omega
      have wj : IntKind.i64.wrap (j : Int) = j := wrap_id (by omega) (by omega)
      have wk : IntKind.i64.wrap ((k : Int) + 1) = k + 1 := wrap_id (by omega) (by omega)
      clear hrm hmc hj hxe hye
      go_upto_region 5 with (fail)
      refine wp_region_quiet_tail_at 11 (by kernel_rfl) (by kernel_rfl) (by kernel_rfl) (by kernel_rfl) ?_
      simp only [List.take_succ_cons, List.take_zero, List.drop_succ_cons, List.drop_zero]
      repeat (quiet_step (fail))
      refine wpQuiet_nil ?_
      intro _ hw'
      obtain ⟨nq, hw''⟩ := hw'
      subst hw''
      have hO := Own.below HA.out.1 (show Below wr.heap.size wr (wr.drewN nq) from pw_below_drewN (Below.refl _ _) nq)
      have hB := pw_below_drewN HA.out.2 nq
      have hx' : (wr.drewN nq).cell? ⟨g, k, none⟩ = some (.int .u8 x) := hx
      have hf' : (wr.drewN nq).frozen? ⟨g, k, none⟩ = false := hf
      generalize wr.drewN nq = W6 at hO hB hx' hf' ⊢
      have hO2 := Own.put hO k (bits .xor .u8 x y)
      rw [HSET.out] at hO2
      have HN := Lib.hid (And.intro hO2 (hB.setCell (p := ⟨g, k, none⟩) HG.out (.int .u8 (bits .xor .u8 x y))))
      clear hO hB hO2 hx hf hy
      go_wp2
      go_roundw
      case rel => exact ⟨k + 1, by go_num, by omega, HN⟩
      case measure => simp [intOf]; omega
    · obtain rfl : k = l.length := by omega
      have dkn : decide (l.length < l.length) = false := decide_eq_false (by omega)
      go_wp2
      go_ret
      exact ⟨_, rfl, HA.out.1.cast (maskUp_all m l), HA.out.2⟩
end Go.Proofs.YtcfbfmgckaehdaaDoor
namespace Go.Proofs.YtcfbfmgckaehdaaDoor
open Go.RowKit Go.Proofs.YtcfbfmgckaehdaaDoorW.PrintWords
theorem lt_of_heap {w : World} {k : Nat} {o : Obj} (h : w.heap[k]? = some o) : k < w.heap.size := by
  rcases Nat.lt_or_ge k w.heap.size with hl | hl
  · exact hl
  · rw [Array.getElem?_eq_none hl] at h
    cases h
theorem addr_block (a : Addr) (n : Nat) : (a.add n).block = a.block := by unfold Addr.add; split <;> rfl
theorem Rd.grown {w w' : World} {row : Option Nat} {A : Option Addr} {n : Nat} {l : List Int} (h : Rd w A n l) (hg : w.grownBy w' row) (hf : ∀ ad, A = some ad → some ad.block ≠ row) : Rd w' A n l := by
  cases A with
  | none =>
    obtain ⟨rfl, rfl⟩ := h.isNil
    exact Rd.empty _ _
  | some ad =>
    refine Rd.mk (Kd.C_len h) (Kd.C_max h) fun j hj => ?_
    obtain ⟨ad', e, hc⟩ := Rd.cells h (by omega)
    cases e
    exact hg.cell (hc j hj) (by rw [addr_block]; exact hf ad rfl)
end Go.Proofs.YtcfbfmgckaehdaaDoor
namespace Go.Proofs.YtcfbfmgckaehdaaDoor
open Go.RowKit Go.Proofs.YtcfbfmgckaehdaaDoorW.PrintWords
/-- Block g holds just these cells, and may be written. -/
def Whole (w : World) (g : Nat) (t : TypeId) (cs : Array Value) : Prop := w.heap[g]? = some (.cells cs t (0, 0))
theorem Whole.new (w : World) (t : TypeId) (cs : Array Value) : Whole (w.alloc (.cells cs t)) w.heap.size t cs := heap_alloc_new w _
theorem Whole.lt {w : World} {g t : Nat} {cs : Array Value} (h : Whole w g t cs) : g < w.heap.size := lt_of_heap h
theorem Whole.below {w w1 : World} {g t B : Nat} {cs : Array Value} (h : Whole w g t cs) (hb : Below B w w1) (hg : g < B) : Whole w1 g t cs := by
  unfold Whole at *
  rw [hb.block g hg, h]
theorem Whole.far {w : World} {g t : Nat} {cs : Array Value} (h : Whole w g t cs) {w1 : World} (hk : w1.heap[g]? = w.heap[g]?) : Whole w1 g t cs := hk.trans h
theorem Whole.grown {w w1 : World} {g t : Nat} {cs : Array Value} (h : Whole w g t cs) {row : Option Nat} (hg : w.grownBy w1 row) (hr : some g ≠ row) : Whole w1 g t cs := (hg.block g h.lt hr).trans h
theorem Whole.cell {w : World} {g t : Nat} {cs : Array Value} (h : Whole w g t cs) (i : Nat) (v : Value) (hi : cs[i]? = some v) : w.cell? ⟨g, i, none⟩ = some v := by
  simp [World.cell?, show w.heap[g]? = some (.cells cs t (0, 0)) from h, hi]
theorem Whole.free {w : World} {g t : Nat} {cs : Array Value} (h : Whole w g t cs) (i : Nat) : w.frozen? ⟨g, i, none⟩ = false := by
  simp [World.frozen?, show w.heap[g]? = some (.cells cs t (0, 0)) from h]
theorem Whole.set {w : World} {g t : Nat} {cs : Array Value} (h : Whole w g t cs) (i : Nat) (v : Value) : Whole (w.setCell ⟨g, i, none⟩ v) g t (cs.set! i v) := by
  have hp : w.heap[g]? = some (.cells cs t (0, 0)) := h
  unfold Whole
  simp [World.setCell, Array.getElem?_modify, hp]
section
variable {ops : Array Oper} {rest : List Oper} {o : Oper} {a : Act} {Q : Exit → Act → World → Prop} {w : World}
/-- A struct is stored whole. -/
theorem store_whole {g t : Nat} {cs ds : Array Value} {T : TypeId} {p x : Operand} (hgd : o.guard = none) (hN : o.dst = none) (ho : o.op = .store T p x) (hp : a.eval p = .pointer (some ⟨g, 0, none⟩)) (hx : a.eval x = .agg ds) (h : Whole w g t cs) (hl : ds.size = cs.size)
    (h1 : ∀ q ∈ ds.toList, q.oneCell' = true) (hd : (Value.agg ds).cells.toList = ds.toList) (ht : (Tryd.prog.info? T).map (·.size) = some ds.toList.length)
    (hK : ∀ w1, Whole w1 g t ds → (∀ B a0, Below B a0 w → B ≤ g → Below B a0 w1) → (∀ k, k ≠ g → w1.heap[k]? = w.heap[k]?) → w.grownBy w1 (some g) → wpList Tryd.prog ops Q rest a w1) : wpList Tryd.prog ops Q (o :: rest) a w := by
  have hrun := run_store_run (P := Tryd.prog) (w := w) (g := g) (o := 0) T (.agg ds) ds.toList h hd ht (by rw [Array.length_toList]; omega) h1
  obtain ⟨cur', h2, h3, h4⟩ := setCells_row ds.toList 0 w _ h (by rw [Array.length_toList]; omega)
  obtain ⟨s1, s2, s3, s4⟩ := setCells_same g ds.toList 0 w
  refine wpList_plain hgd fun K hK' => ?_
  unfold Oper.wp execOp
  simp only [ho, hp, hx, Sem.run_bind, Sem.run_pure, Result.andThen_ok, hrun]
  show K (a.put o.dst undef) _
  rw [hN]
  refine hK' a _ (hK _ ?_ ?_ ?_ ?_)
  · unfold Whole
    have : cur' = ds := Array.ext' (by rw [h4]; simp [hl])
    rw [h2, this]
  · intro B a0 hb hB
    exact hb.trans ⟨s1, s2, s3, by rw [s4]; exact Nat.le_refl _, fun j hj => setCells_far _ _ j (by omega)⟩
  · intro k hk
    exact setCells_far _ _ k hk
  · exact ⟨s1, s2, s3, by rw [s4]; exact Nat.le_refl _, fun j _ hj => setCells_far _ _ j (fun e => hj (by rw [e]))⟩
end
section
variable {P : Program}
end
end Go.Proofs.YtcfbfmgckaehdaaDoor
namespace Go.Proofs.YtcfbfmgckaehdaaDoor
theorem u64_wrap (x : Int) : IntKind.u64.wrap x = x % 18446744073709551616 := by simp [IntKind.wrap, IntKind.bits, IntKind.signed]
theorem u64_wrap_range (x : Int) : 0 ≤ IntKind.u64.wrap x ∧ IntKind.u64.wrap x < 18446744073709551616 := by rw [u64_wrap]; omega
theorem u64_id {x : Int} (h0 : 0 ≤ x) (h1 : x < 18446744073709551616) : IntKind.u64.wrap x = x := by rw [u64_wrap]; omega
end Go.Proofs.YtcfbfmgckaehdaaDoor
namespace Go.Proofs.YtcfbfmgckaehdaaDoor
open Go.RowKit Go.Proofs.YtcfbfmgckaehdaaDoorW.PrintWords
/-- A word turned left. -/
def rotl (x : Int) (s : Nat) : Int := x * 2 ^ s % 4294967296 + x / 2 ^ (32 - s)
theorem rotl_range (x : Int) (x0 : 0 ≤ x) (x1 : x < 4294967296) (s : Nat) (hs : s < 32) : 0 ≤ rotl x s ∧ rotl x s < 4294967296 := by
  have hp : (2 : Int) ^ s * 2 ^ (32 - s) = 4294967296 := by rw [← Int.pow_add, show s + (32 - s) = 32 by omega]; rfl
  have hs0 : (0 : Int) < 2 ^ s := Int.pow_pos (by decide)
  have ht0 : (0 : Int) < 2 ^ (32 - s) := Int.pow_pos (by decide)
  have h1 : x / 2 ^ (32 - s) < 2 ^ s := Int.ediv_lt_of_lt_mul ht0 (by rw [hp]; exact x1)
  have h2 : 0 ≤ x / 2 ^ (32 - s) := Int.ediv_nonneg x0 (Int.le_of_lt ht0)
  have h3 : x * 2 ^ s % 4294967296 = (x % 2 ^ (32 - s)) * 2 ^ s := by
    rw [← hp, Int.mul_comm x, Int.mul_emod_mul_of_pos _ _ hs0, Int.mul_comm]
  unfold rotl
  rw [h3]
  have h4 : 0 ≤ x % 2 ^ (32 - s) := Int.emod_nonneg _ (by omega)
  have h5 : x % 2 ^ (32 - s) < 2 ^ (32 - s) := Int.emod_lt_of_pos _ ht0
  have h6 : (x % 2 ^ (32 - s)) * 2 ^ s ≤ (2 ^ (32 - s) - 1) * 2 ^ s := Int.mul_le_mul_of_nonneg_right (by omega) (Int.le_of_lt hs0)
  have h7 : (2 ^ (32 - s) - 1 : Int) * 2 ^ s = 4294967296 - 2 ^ s := by rw [Int.sub_mul, Int.mul_comm, hp, Int.one_mul]
  have h8 : 0 ≤ (x % 2 ^ (32 - s)) * 2 ^ s := Int.mul_nonneg h4 (Int.le_of_lt hs0)
  omega
theorem rotl_or (x : Int) (x0 : 0 ≤ x) (x1 : x < 4294967296) (s : Nat) (hs : s < 32) : bits .or .u32 (x * 2 ^ s % 4294967296) (x / 2 ^ (32 - s)) = rotl x s := by
  have hp : (2 : Int) ^ s * 2 ^ (32 - s) = 4294967296 := by rw [← Int.pow_add, show s + (32 - s) = 32 by omega]; rfl
  have hs0 : (0 : Int) < 2 ^ s := Int.pow_pos (by decide)
  have ht0 : (0 : Int) < 2 ^ (32 - s) := Int.pow_pos (by decide)
  have h1 : x / 2 ^ (32 - s) < 2 ^ s := Int.ediv_lt_of_lt_mul ht0 (by rw [hp]; exact x1)
  have h2 : 0 ≤ x / 2 ^ (32 - s) := Int.ediv_nonneg x0 (Int.le_of_lt ht0)
  have h3 : x * 2 ^ s % 4294967296 = (x % 2 ^ (32 - s)) * 2 ^ s := by
    rw [← hp, Int.mul_comm x, Int.mul_emod_mul_of_pos _ _ hs0, Int.mul_comm]
  have hr := rotl_range x x0 x1 s hs
  have h8 : 0 ≤ x * 2 ^ s % 4294967296 ∧ x * 2 ^ s % 4294967296 < 4294967296 := ⟨Int.emod_nonneg _ (by decide), Int.emod_lt_of_pos _ (by decide)⟩
  exact bits_join .u32 32 (by decide) wraps_u32 s (x * 2 ^ s % 4294967296) (x / 2 ^ (32 - s)) h8.1 (by rw [h3]; exact Int.mul_emod_left _ _) h8.2 h2 h1 (by unfold rotl at hr; omega)
theorem and_31 (k : Int) : bits .and .u64 (IntKind.u64.wrap k) 31 = k % 32 := by
  have hr := u64_wrap_range k
  rw [u64_wrap] at hr ⊢
  obtain ⟨a, ha⟩ := Int.eq_ofNat_of_zero_le hr.1
  rw [ha]
  have h := (bits_nat .u64 64 (by decide) (fun n h₀ h₁ => by rw [IntKind.wrap_u64]; omega) a 31 (by omega) (by omega)).1
  have e : a &&& 31 = a % 32 := Nat.and_two_pow_sub_one_eq_mod a 5
  rw [e] at h
  exact h.trans (by omega)
set_option maxHeartbeats 800000 in
theorem rot_calls (x k : Int) (w : World) (x0 : 0 ≤ x) (x1 : x < 4294967296) (s : Nat) (hs : s < 32) (hk : k % 32 = s) :
    Calls Tryd.prog 67 #[.int .u32 x, .int .i64 k] w fun e w' => e = .returned (.int .u32 (rotl x s)) ∧ Drawn0 w w' := by
  have hA : bits .and .u64 (IntKind.u64.wrap k) 31 = s := by rw [and_31, hk]
  have hB : IntKind.u64.wrap (32 - (s : Int)) = 32 - s := u64_id (by omega) (by omega)
  have hC : IntKind.u32.wrap (x * 2 ^ min s 32) = x * 2 ^ s % 4294967296 := by rw [Nat.min_eq_left (by omega), IntKind.wrap_u32]
  have hD : x / 2 ^ min (32 - (s : Int)).toNat 32 = x / 2 ^ (32 - s) := by rw [show (32 - (s : Int)).toNat = 32 - s by omega, Nat.min_eq_left (by omega)]
  have hO := rotl_or x x0 x1 s hs
  have hs1 : (0 : Int) ≤ 32 - (s : Int) := by omega
  clear hk x0 x1
  go_enter Tryd.func67, Tryd.ntmps67
  go_wp2
  go_ret
  exact ⟨rfl, Drawn0.refl _⟩
end Go.Proofs.YtcfbfmgckaehdaaDoor
namespace Go.Proofs.YtcfbfmgckaehdaaDoor
open Go.RowKit Go.Proofs.YtcfbfmgckaehdaaDoorW.PrintWords
/-- A word's bytes, the highest first. -/
def be4 (x : Int) : List Int := [x / 16777216 % 256, x / 65536 % 256, x / 256 % 256, x % 256]
/-- Noughts up to 56 behind the last 64. -/
def padZ (m : Nat) : Nat := (119 - m % 64) % 64
/-- How long a slice is. -/
def slenB : Value → Nat
  | .slice _ m _ => m
  | _ => 0
def padSha (l : List Int) : List Int := l ++ 128 :: List.replicate (padZ l.length) 0 ++ be4 ((l.length : Int) * 8 / 4294967296) ++ be4 ((l.length : Int) * 8 % 4294967296)
theorem padSha_length (l : List Int) : (padSha l).length = l.length + 1 + padZ l.length + 8 := by simp [padSha, be4]; omega
theorem padSha_mod (l : List Int) : (padSha l).length % 64 = 0 := by rw [padSha_length]; unfold padZ; omega
set_option maxHeartbeats 400000 in
theorem laid_calls (x : Int) (w0 w : World) (v : Value) (l : List Int) (hO : Own w0 w v l) (hB : Below w0.heap.size w0 w) (hl : l.length + 4 ≤ 140737488355328) (_x0 : 0 ≤ x) (_x1 : x < 4294967296) :
    Calls Tryd.prog 68 #[v, .int .u32 x] w fun e w' => ∃ v', e = .returned v' ∧ Own w0 w' v' (l ++ be4 x) ∧ Below w0.heap.size w0 w' := by
  have HO := Lib.hid hO
  have HB := Lib.hid hB
  have h1 : IntKind.u8.wrap (x / 16777216) = x / 16777216 % 256 := by rw [IntKind.wrap_u8]
  have h2 : IntKind.u8.wrap (x / 65536) = x / 65536 % 256 := by rw [IntKind.wrap_u8]
  have h3 : IntKind.u8.wrap (x / 256) = x / 256 % 256 := by rw [IntKind.wrap_u8]
  have h4 : IntKind.u8.wrap x = x % 256 := by rw [IntKind.wrap_u8]
  obtain ⟨A, c, rfl⟩ := Kd.R_slice hO
  clear hO hB
  go_enter Tryd.func68, Tryd.ntmps68
  go_wp2_with (at_builtin; refine app_row (Kd.R_alloc HO.out _) (C_const _ _ [x / 16777216 % 256, x / 65536 % 256, x / 256 % 256, x % 256] (0, 0) (by simp)) (below_alloc HB.out _) (by simp only [List.length_cons, List.length_nil]; omega) rfl rfl rfl rfl ?_)
  intro v3 w3 ho3 hb3 _ _
  have HO3 := Lib.hid ho3
  have HB3 := Lib.hid hb3
  clear ho3 hb3
  go_wp2
  go_ret
  exact ⟨_, rfl, HO3.out.cast (by simp [be4]), HB3.out⟩
set_option maxHeartbeats 800000 in
theorem padded_calls {n : Nat} (A0 : Option Addr) (c0 : Nat) (l0 : List Int) (w : World) (hr0 : Rd w A0 n l0) (hc0 : n ≤ c0) (hs : n ≤ 1099511627776) :
    Calls Tryd.prog 64 #[.slice A0 n c0] w fun e w' => ∃ v', e = .returned v' ∧ Own w w' v' (padSha l0) ∧ Below w.heap.size w w' := by
  obtain rfl : n = l0.length := (Kd.C_len hr0).symm
  have HR := Lib.hid hr0
  clear hr0
  go_enter Tryd.func64, Tryd.ntmps64
  go_wp2_with fail
  refine (bytes_Clone.calls A0 c0 l0 l0 _ HR.out hc0 (if_pos (by omega))).mono ?_
  rintro e w1 ⟨v1, rfl, ho1, hb1⟩
  replace ho1 : Own w w1 v1 l0 := ho1
  have HO1 := Lib.hid ho1
  have HB1 := Lib.hid hb1
  obtain ⟨A1, c1, rfl⟩ := Kd.R_slice ho1
  obtain ⟨n, hn⟩ : ∃ n, n = l0.length := ⟨_, rfl⟩
  rw [← hn] at HO1 hc0 hs ⊢
  have HL := Lib.hid hn.symm
  have hl1 : l0.length + 1 ≤ 140737488355328 := by omega
  clear hn ho1 hb1
  go_wp2_with (at_builtin; refine app_one HO1.out HB1.out hl1 rfl rfl rfl rfl ?_)
  intro v2 w2 ho2 hb2 _ _
  have HO2 := Lib.hid ho2
  have HB2 := Lib.hid hb2
  clear ho2 hb2 HO1 HB1 hl1
  obtain ⟨pz, hpz⟩ : ∃ pz, pz = padZ n := ⟨_, rfl⟩
  have hz64 : pz < 64 ∧ (n + 1 + pz) % 64 = 56 ∧ ∀ z, z < pz → (n + 1 + z) % 64 ≠ 56 := by
    rw [hpz]
    unfold padZ
    refine ⟨by omega, by omega, fun z hz => by omega⟩
  have HPZ := Lib.hid hpz
  clear hpz
  go_wp2
  go_loopw [3] (fun v wr => ∃ (z : Nat) (A : Option Addr) (c : Nat), z ≤ pz ∧ v = .slice A (n + 1 + z) c ∧ Hid (Own w wr v (l0 ++ 128 :: List.replicate z 0)) ∧ Hid (Below w.heap.size w wr)) (fun v _ => n + 70 - slenB v)
  case atStart =>
    obtain ⟨A2, c2, h2, _, _⟩ := HO2.out.reads
    refine ⟨0, A2, c2, by omega, ?_, Lib.hid (HO2.out.cast (by simp)), HB2⟩
    rw [h2, List.length_append, HL.out]
    rfl
  case round =>
    obtain ⟨z, A, c, hz, rfl, HO, HB⟩ := hrel
    obtain ⟨q, hq⟩ : ∃ q, q = n + 1 + z := ⟨_, rfl⟩
    rw [← hq] at HO ⊢
    by_cases hzp : z < pz
    · have hne := hz64.2.2 z hzp
      rw [← hq] at hne
      have d1 : ((q : Int) % 64 == 56) = false := beq_eq_false_iff_ne.2 (by omega)
      have d2 : ((q : Int) % 64 != 56) = true := by rw [bne, d1]; rfl
      have hL1 : (l0 ++ 128 :: List.replicate z 0).length + 1 ≤ 140737488355328 := by simp [HL.out]; omega
      have HZ3 := Lib.hid (show l0 ++ 128 :: List.replicate z 0 ++ [0] = l0 ++ 128 :: List.replicate (z + 1) 0 by simp [List.replicate_succ'])
      have HZL := Lib.hid (show (l0 ++ 128 :: List.replicate (z + 1) (0 : Int)).length = n + 1 + (z + 1) by simp [HL.out]; omega)
      have hqn : q < n + 70 := by omega
      have HQ := Lib.hid hq
      clear hne hq
      go_wp2_with (at_builtin; refine app_one HO.out HB.out hL1 rfl rfl rfl rfl ?_)
      intro v3 w3 ho3 hb3 _ _
      have HO3 := Lib.hid (ho3.cast (show _ = l0 ++ 128 :: List.replicate (z + 1) 0 by rw [← HZ3.out]; simp only [List.append_assoc, List.cons_append]))
      have HB3 := Lib.hid hb3
      clear ho3 hb3 HO HB
      obtain ⟨A3, c3, rfl, _, _⟩ := HO3.out.reads
      rw [HZL.out] at HO3 ⊢
      go_wp2
      go_roundw
      case rel => exact ⟨z + 1, A3, c3, by omega, by first | rfl | go_num, HO3, HB3⟩
      case measure => have := HQ.out; simp [slenB]; omega
    · obtain rfl : z = pz := by omega
      have hq6 : q % 64 = 56 := by rw [hq]; exact hz64.2.1
      have d1 : ((q : Int) % 64 == 56) = true := beq_iff_eq.2 (by omega)
      have d2 : ((q : Int) % 64 != 56) = false := by rw [bne, d1]; rfl
      have hu1 : IntKind.u64.wrap (n : Int) = n := u64_id (by omega) (by omega)
      have hu2 : IntKind.u64.wrap ((n : Int) * 8) = (n : Int) * 8 := u64_id (by omega) (by omega)
      have hh : (n : Int) * 8 / 4294967296 < 4294967296 := by omega
      have hu3 : IntKind.u32.wrap ((n : Int) * 8 / 4294967296) = (n : Int) * 8 / 4294967296 := by rw [IntKind.wrap_u32]; omega
      have hu4 : IntKind.u32.wrap ((n : Int) * 8) = (n : Int) * 8 % 4294967296 := by rw [IntKind.wrap_u32]
      have HL1 := Lib.hid (show (l0 ++ 128 :: List.replicate z (0 : Int)).length + 4 ≤ 140737488355328 by simp [HL.out]; omega)
      have HL2 := Lib.hid (show (l0 ++ 128 :: List.replicate z (0 : Int) ++ be4 ((n : Int) * 8 / 4294967296)).length + 4 ≤ 140737488355328 by simp [HL.out, be4]; omega)
      have HE := Lib.hid (show l0 ++ 128 :: List.replicate z (0 : Int) ++ be4 ((n : Int) * 8 / 4294967296) ++ be4 ((n : Int) * 8 % 4294967296) = padSha l0 by rw [padSha, HL.out, ← HPZ.out])
      clear hq6 hz64 hq
      go_wp2_with fail
      refine (laid_calls ((n : Int) * 8 / 4294967296) w _ _ _ HO.out HB.out HL1.out (by omega) hh).mono ?_
      rintro e w3 ⟨v3, rfl, ho3, hb3⟩
      have HO3 := Lib.hid ho3
      have HB3 := Lib.hid hb3
      obtain ⟨A3, c3, rfl, _, _⟩ := HO3.out.reads
      obtain ⟨m3, hm3⟩ : ∃ m3, m3 = (l0 ++ 128 :: List.replicate z (0 : Int) ++ be4 ((n : Int) * 8 / 4294967296)).length := ⟨_, rfl⟩
      rw [← hm3] at HO3 ⊢
      clear ho3 hb3 hm3
      go_wp2_with fail
      refine (laid_calls ((n : Int) * 8 % 4294967296) w _ _ _ HO3.out HB3.out HL2.out (by omega) (by omega)).mono ?_
      rintro e w4 ⟨v4, rfl, ho4, hb4⟩
      have HO4 := Lib.hid (ho4.cast HE.out)
      have HB4 := Lib.hid hb4
      clear ho4 hb4
      go_wp2
      go_ret
      exact ⟨_, rfl, HO4.out, HB4.out⟩
end Go.Proofs.YtcfbfmgckaehdaaDoor
namespace Go.Proofs.YtcfbfmgckaehdaaDoor
open Go.RowKit Go.Proofs.YtcfbfmgckaehdaaDoorW.PrintWords
theorem info_u32 : (Tryd.prog.info? 103).map (fun i => (i.zero, i.size, i.bytes)) = some (some (.int .u32 0), 1, 4) := by kernel_rfl
abbrev OwnW (w0 w : World) (v : Value) (l : List Int) : Prop := Kd.R (Kd.int .u32) 103 w w0.heap.size (fun _ => True) v l
abbrev RdW (w : World) (A : Option Addr) (n : Nat) (l : List Int) : Prop := Kd.C (Kd.int .u32) w A n l
theorem RdW.cells {w : World} {A : Option Addr} {n : Nat} {l : List Int} (h : RdW w A n l) (hn : 0 < n) : ∃ ad, A = some ad ∧ ∀ j, j < n → w.cell? (ad.add j) = some (.int .u32 (rd l j)) := by
  obtain ⟨ad, rfl, _⟩ := Kd.at_int h 0 (by omega) (by omega)
  refine ⟨ad, rfl, fun j hj => ?_⟩
  obtain ⟨ad', e, hx⟩ := Kd.at_int h j (by omega) (by omega)
  cases e
  exact hx
theorem OwnW.cast {w0 w : World} {v : Value} {l m : List Int} (h : OwnW w0 w v l) (he : l = m) : OwnW w0 w v m := he ▸ h
theorem OwnW.nil (w0 w : World) : OwnW w0 w (.slice none 0 0) [] := Kd.R_nil _ _ _ _ _
theorem OwnW.reads {w0 w : World} {v : Value} {l : List Int} (h : OwnW w0 w v l) : ∃ A c, v = .slice A l.length c ∧ l.length ≤ c ∧ RdW w A l.length l := by
  obtain ⟨A, c, rfl⟩ := Kd.R_slice h
  exact ⟨A, c, rfl, (Kd.R_reads' h).2.1, (Kd.R_reads' h).2.2⟩
theorem OwnW.below {w0 w w1 : World} {v : Value} {l : List Int} (h : OwnW w0 w v l) (hb : Below w.heap.size w w1) : OwnW w0 w1 v l := Kd.R_below h hb
section
variable {ops : Array Oper} {rest : List Oper} {o : Oper} {a : Act} {Q : Exit → Act → World → Prop} {w0 W : World} {v : Value} {l : List Int} {s x : Operand}
theorem appw_one {p : Int} (hO : OwnW w0 W v l) (hB : Below w0.heap.size w0 W) (hL : l.length + 1 ≤ 35184372088832)
    (hgd : o.guard = none) (hop : o.op = .call { callee := .builtin .append, args := #[s, x], argTypes := #[105, 105] }) (hv : a.eval s = v) (hx : a.eval x = .slice (some ⟨W.heap.size, 0, none⟩) 1 1)
    (K : ∀ v1 w1, OwnW w0 w1 v1 (l ++ [p]) → Below w0.heap.size w0 w1 → W.grownBy w1 v.ownBlock → (v1.ownBlock = v.ownBlock ∨ ∃ b, v1.ownBlock = some b ∧ W.heap.size ≤ b) → wpList Tryd.prog ops Q rest (a.put o.dst v1) w1) : wpList Tryd.prog ops Q (o :: rest) a (W.alloc (.cells #[.int .u32 p] 103)) :=
  Kd.R_append (Kd.int .u32) (w0 := w0) w0.heap.size hgd s x 105 103 (.int .u32 0) 4 hop Tryd.underlying105 info_u32 rfl (by decide) (by omega) v l p [.int .u32 p] (fun _ => True) (fun _ => False) hv hx rfl (fun _ hk => hk.elim) (fun _ _ => trivial) hO hB hB.size (by omega) K
end
section
variable {ops : Array Oper} {o : Oper} {a : Act} {Q : Exit → Act → World → Prop} {Kc : Act → World → Prop} {w0 W : World} {v : Value} {l : List Int} {s x : Operand}
theorem appw_step {p : Int} (hO : OwnW w0 W v l) (hB : Below w0.heap.size w0 W) (hL : l.length + 1 ≤ 35184372088832)
    (hw : Region.wanted o (yielded ops a.tmps) = true) (hop : o.op = .call { callee := .builtin .append, args := #[s, x], argTypes := #[105, 105] }) (hv : a.eval s = v) (hx : a.eval x = .slice (some ⟨W.heap.size, 0, none⟩) 1 1)
    (K : ∀ v1 w1, OwnW w0 w1 v1 (l ++ [p]) → Below w0.heap.size w0 w1 → W.grownBy w1 v.ownBlock → (v1.ownBlock = v.ownBlock ∨ ∃ b, v1.ownBlock = some b ∧ W.heap.size ≤ b) → Kc (a.put o.dst v1) w1) :
    if Region.wanted o (yielded ops a.tmps) = true then Oper.wp Tryd.prog o a (W.alloc (.cells #[.int .u32 p] 103)) Kc Q else Kc (a.put o.dst undef) (W.alloc (.cells #[.int .u32 p] 103)) :=
  Kd.R_append_step (Kd.int .u32) (w0 := w0) w0.heap.size hw s x 105 103 (.int .u32 0) 4 hop Tryd.underlying105 info_u32 rfl (by decide) (by omega) v l p [.int .u32 p] (fun _ => True) (fun _ => False) hv hx rfl (fun _ hk => hk.elim) (fun _ _ => trivial) hO hB hB.size (by omega) K
end
theorem rd_drop (l : List Int) (a i : Nat) : rd (l.drop a) (i : Int) = rd l ((a + i : Nat) : Int) := by
  unfold rd
  simp only [Int.toNat_natCast, List.getD_eq_getElem?_getD, List.getElem?_drop]
theorem or_four32 (a b c d : Int) (a0 : 0 ≤ a) (a1 : a < 256) (b0 : 0 ≤ b) (b1 : b < 256) (c0 : 0 ≤ c) (c1 : c < 256) (d0 : 0 ≤ d) (d1 : d < 256) :
    bits .or .u32 (bits .or .u32 (bits .or .u32 (a * 16777216) (b * 65536)) (c * 256)) d = 16777216 * a + 65536 * b + 256 * c + d := by
  rw [bits_join .u32 32 (by decide) wraps_u32 24 (a * 16777216) (b * 65536) (by omega) (by omega) (by omega) (by omega) (by omega) (by omega),
    bits_join .u32 32 (by decide) wraps_u32 16 (a * 16777216 + b * 65536) (c * 256) (by omega) (by omega) (by omega) (by omega) (by omega) (by omega),
    bits_join .u32 32 (by decide) wraps_u32 8 (a * 16777216 + b * 65536 + c * 256) d (by omega) (by omega) (by omega) (by omega) (by omega) (by omega)]
  omega
/-- A block's words. -/
def w32 : List Int → List Int
  | a :: b :: c :: d :: t => (16777216 * a + 65536 * b + 256 * c + d) :: w32 t
  | _ => []
/-- So many words more, each made of those ahead. -/
def extW (F : List Int → Int) : Nat → List Int → List Int
  | 0, l => l
  | k + 1, l => extW F k (l ++ [F l])
theorem w32_length : ∀ (l : List Int), (w32 l).length = l.length / 4
  | [] => rfl
  | [_] => by simp [w32]
  | [_, _] => by simp [w32]
  | [_, _, _] => by simp [w32]
  | _ :: _ :: _ :: _ :: t => by
    simp only [w32, List.length_cons, w32_length t]
    omega
/-- Words. -/
def Ws (l : List Int) : Prop := ∀ x ∈ l, 0 ≤ x ∧ x < 4294967296
theorem Ws.app {a b : List Int} (h : Ws a) (k : Ws b) : Ws (a ++ b) := by
  intro x hx
  rcases List.mem_append.1 hx with hx | hx
  · exact h x hx
  · exact k x hx
theorem Ws.rd {l : List Int} (h : Ws l) (k : Nat) (hk : k < l.length) : 0 ≤ rd l k ∧ rd l k < 4294967296 := by
  rw [rd_get l k hk]
  exact h _ (List.getElem_mem hk)
theorem w32_Ws : ∀ (l : List Int), Bytes l → Ws (w32 l)
  | a :: b :: c :: d :: t, hb => by
    have h0 := hb a (by simp)
    have h1 := hb b (by simp)
    have h2 := hb c (by simp)
    have h3 := hb d (by simp)
    have ih := w32_Ws t (fun x hx => hb x (by simp [hx]))
    intro x hx
    simp only [w32, List.mem_cons] at hx
    rcases hx with rfl | hx
    · omega
    · exact ih x hx
  | [], _ | [_], _ | [_, _], _ | [_, _, _], _ => by intro x hx; simp [w32] at hx
theorem extW_Ws (F : List Int → Int) (hF : ∀ l, Ws l → 16 ≤ l.length → 0 ≤ F l ∧ F l < 4294967296) : ∀ (k : Nat) (l : List Int), Ws l → 16 ≤ l.length → Ws (extW F k l)
  | 0, _, h, _ => h
  | k + 1, l, h, hl => by
    refine extW_Ws F hF k _ (h.app ?_) (by rw [List.length_append]; omega)
    intro x hx
    rw [List.mem_singleton] at hx
    rw [hx]
    exact hF l h hl
/-- What a maker of more words is held to. -/
def Makes (f : FuncId) (F : List Int → Int) : Prop := (∀ l, Ws l → 16 ≤ l.length → 0 ≤ F l ∧ F l < 4294967296) ∧ ∀ (W : World) (A : Option Addr) (c : Nat) (l : List Int), RdW W A l.length l → Ws l → 16 ≤ l.length → l.length ≤ 80 → Calls Tryd.prog f #[.slice A l.length c] W fun e w' => e = .returned (.int .u32 (F l)) ∧ Drawn0 W w'
theorem w32_snoc (l : List Int) (j : Nat) (h : 4 * j + 4 ≤ l.length) : w32 (l.take (4 * (j + 1))) = w32 (l.take (4 * j)) ++ [16777216 * rd l ((4 * j : Nat) : Int) + 65536 * rd l ((4 * j + 1 : Nat) : Int) + 256 * rd l ((4 * j + 2 : Nat) : Int) + rd l ((4 * j + 3 : Nat) : Int)] := by
  induction j generalizing l with
  | zero =>
    match l, h with
    | a :: b :: c :: d :: t, _ => simp [w32, rd]
  | succ j ih =>
    match l, h with
    | a :: b :: c :: d :: t, h =>
      simp only [List.length_cons] at h
      have e := ih t (by omega)
      rw [show 4 * (j + 1 + 1) = 4 * (j + 1) + 1 + 1 + 1 + 1 by omega, show 4 * (j + 1) = 4 * j + 1 + 1 + 1 + 1 by omega]
      simp only [List.take_succ_cons, w32, List.cons_append]
      rw [show 4 * j + 1 + 1 + 1 + 1 = 4 * (j + 1) by omega, e]
      have hr : ∀ i : Nat, rd (a :: b :: c :: d :: t) ((4 * (j + 1) + i : Nat) : Int) = rd t ((4 * j + i : Nat) : Int) := by
        intro i
        unfold rd
        simp only [Int.toNat_natCast]
        rw [show 4 * (j + 1) + i = (4 * j + i) + 1 + 1 + 1 + 1 by omega]
        rfl
      have h0 := hr 0
      rw [Nat.add_zero, Nat.add_zero] at h0
      rw [h0, hr 1, hr 2, hr 3]
      rfl
theorem extW_snoc (F : List Int → Int) : ∀ (k : Nat) (l : List Int), extW F (k + 1) l = extW F k l ++ [F (extW F k l)]
  | 0, _ => rfl
  | k + 1, l => by rw [extW, extW_snoc F k]; rfl
theorem extW_length (F : List Int → Int) (k : Nat) (l : List Int) : (extW F k l).length = l.length + k := by
  induction k with
  | zero => rfl
  | succ k ih => rw [extW_snoc, List.length_append, ih]; rfl
end Go.Proofs.YtcfbfmgckaehdaaDoor
