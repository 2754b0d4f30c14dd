/- wire.Unframe. -/
import Derived.Test.YthbdgakeglppbaaFrame
import Derived.Test.YthbdgakeglppbaaCompare
import Derived.Test.YthbdgakeglppbaaArr
namespace Go.Proofs.Ythbdgakeglppbaa
open Go.RowKit Go.Proofs.YthbdgakeglppbaaW.PrintWords
theorem Rd.lit {w : World} {ad : Addr} {n : Nat} {l : List Int} (h : ∀ j, j < n → w.cell? (ad.add j) = some (.int .u8 (rd l j))) (j : Nat) (hj : j + 1 < n) : w.cell? ⟨ad.block, ad.off + (j + 1), none⟩ = some (.int .u8 (rd l ((j + 1 : Nat) : Int))) := by
  have := h (j + 1) hj
  unfold Addr.add at this
  rwa [if_neg (by omega)] at this
theorem wrap_id {x : Int} (h0 : 0 ≤ x) (h1 : x < 9223372036854775808) : IntKind.i64.wrap x = x := by rw [IntKind.wrap_i64]; omega
/-- The length that a frame's head tells. -/
def unLen (l : List Int) : Int := 65536 * rd l 0 + 256 * rd l 1 + rd l 2
theorem or_three (a b c : Int) (a0 : 0 ≤ a) (a1 : a < 256) (b0 : 0 ≤ b) (b1 : b < 256) (c0 : 0 ≤ c) (c1 : c < 256) :
    bits .or .i64 (bits .or .i64 (a * 65536) (b * 256)) c = 65536 * a + 256 * b + c := by
  rw [bits_join .i64 63 (by decide) wraps_i64 16 (a * 65536) (b * 256) (by omega) (by omega) (by omega) (by omega) (by omega) (by omega),
    bits_join .i64 63 (by decide) wraps_i64 8 (a * 65536 + b * 256) c (by omega) (by omega) (by omega) (by omega) (by omega) (by omega)]
  omega
theorem Unframe_short3 {n : Nat} (A0 : Option Addr) (c0 : Nat) (w : World) (hs0 : n < 3) :
    Calls Try.prog 29 #[.slice A0 n c0] w fun e w' => e = .returned (.tuple #[.slice none 0 0, .int .i64 0, .int .i64 2]) ∧ Below w.heap.size w w' := by
  have hd : decide (n < 3) = true := decide_eq_true hs0
  go_enter Try.func29, Try.ntmps29
  go_wp2
  go_ret3
  exact ⟨rfl, Below.refl _ _⟩
theorem eq_four (a b c d a' b' c' d' : Int) (W : World) (r : Bool) (h : decide ([a, b, c, d] = [a', b', c', d']) = r) :
    (Op.equalIn 10000 77 (.agg #[.int .u8 a, .int .u8 b, .int .u8 c, .int .u8 d]) (.agg #[.int .u8 a', .int .u8 b', .int .u8 c', .int .u8 d'])).run Try.prog W = .ok r W := by
  have := run_equalIn_arr (P := Try.prog) W 9998 77 5 4 .u8 [a, b, c, d] [a', b', c', d'] Try.underlying77 (Try.sizeOf5 W) Try.underlying5 (fun w => Try.isAgg5 w) rfl rfl
  rw [h] at this
  exact this
theorem take_four (l : List Int) (N : Nat) (h : N + 7 ≤ l.length) : (l.drop (N + 3)).take 4 = [rd l ((N : Int) + 3), rd l ((N : Int) + 4), rd l ((N : Int) + 5), rd l ((N : Int) + 6)] := by
  have e : ∀ j : Nat, N + 3 + j < l.length → rd l ((N : Int) + ((3 + j : Nat) : Int)) = l[N + 3 + j]?.getD 0 := fun j hj => by
    unfold rd
    rw [List.getD_eq_getElem?_getD, show ((N : Int) + ((3 + j : Nat) : Int)).toNat = N + 3 + j by omega]
  rw [show (N : Int) + 3 = (N : Int) + ((3 + 0 : Nat) : Int) by simp, show (N : Int) + 4 = (N : Int) + ((3 + 1 : Nat) : Int) by simp, show (N : Int) + 5 = (N : Int) + ((3 + 2 : Nat) : Int) by simp, show (N : Int) + 6 = (N : Int) + ((3 + 3 : Nat) : Int) by simp]
  rw [e 0 (by omega), e 1 (by omega), e 2 (by omega), e 3 (by omega)]
  apply List.ext_getElem
  · simp; omega
  · intro i h1 h2
    simp only [List.length_cons, List.length_nil] at h2
    have : i = 0 ∨ i = 1 ∨ i = 2 ∨ i = 3 := by omega
    rcases this with rfl | rfl | rfl | rfl <;> simp [List.getElem?_eq_getElem (show N + 3 < l.length by omega), List.getElem?_eq_getElem (show N + 3 + 1 < l.length by omega), List.getElem?_eq_getElem (show N + 3 + 2 < l.length by omega), List.getElem?_eq_getElem (show N + 3 + 3 < l.length by omega)]
set_option maxHeartbeats 400000 in
theorem Unframe_long {n : Nat} (A0 : Option Addr) (c0 : Nat) (l0 : List Int) (w : World) (hr0 : Rd w A0 n l0) (_hc0 : n ≤ c0) (hb0 : Bytes l0) (hs0 : 3 ≤ n) (N : Nat) (hN : unLen l0 = N) (hbig : 65536 < N) :
    Calls Try.prog 29 #[.slice A0 n c0] w fun e w' => e = .returned (.tuple #[.slice none 0 0, .int .i64 0, .int .i64 4]) ∧ Below w.heap.size w w' := by
  have hlen := Kd.C_len hr0
  have hm0 := Kd.C_max hr0
  obtain ⟨ad, rfl, hcell⟩ := Rd.cells hr0 (by omega)
  have hx0 := hcell 0 (by omega)
  have hx1 : w.cell? ⟨ad.block, ad.off + 1, none⟩ = some (.int .u8 (rd l0 1)) := Rd.lit hcell 0 (by omega)
  have hx2 : w.cell? ⟨ad.block, ad.off + 2, none⟩ = some (.int .u8 (rd l0 2)) := Rd.lit hcell 1 (by omega)
  rw [Addr.add_zero'] at hx0
  obtain ⟨a0, a1⟩ : 0 ≤ rd l0 0 ∧ rd l0 0 < 256 := bytes_rd hb0 0 (by omega)
  obtain ⟨b0, b1⟩ : 0 ≤ rd l0 1 ∧ rd l0 1 < 256 := bytes_rd hb0 1 (by omega)
  obtain ⟨d0, d1⟩ : 0 ≤ rd l0 2 ∧ rd l0 2 < 256 := bytes_rd hb0 2 (by omega)
  have hw0 := wrap_id a0 (by omega)
  have hw1 := wrap_id b0 (by omega)
  have hw2 := wrap_id d0 (by omega)
  have hv0 := wrap_id (x := rd l0 0 * 65536) (by omega) (by omega)
  have hv1 := wrap_id (x := rd l0 1 * 256) (by omega) (by omega)
  have hbits : bits .or .i64 (bits .or .i64 (rd l0 0 * 65536) (rd l0 1 * 256)) (rd l0 2) = (N : Int) := (or_three _ _ _ a0 a1 b0 b1 d0 d1).trans hN
  have HR := Lib.hid hr0
  have HC := Lib.hid hcell
  have hNb : N < 16777216 := by unfold unLen at hN; omega
  have hd : decide (n < 3) = false := decide_eq_false (by omega)
  have hd2 : decide (65536 < N) = true := decide_eq_true hbig
  have n0 : 0 < n := by omega
  have n1 : 1 < n := by omega
  have n2 : 2 < n := by omega
  have i0 : (0 : Int) < n := by omega
  have i1 : (1 : Int) < n := by omega
  have i2 : (2 : Int) < n := by omega
  clear hcell hlen hN hr0
  go_enter Try.func29, Try.ntmps29
  go_wp2_with fail
  go_quiet (fail)
  go_wp2
  go_ret3
  exact ⟨rfl, pw_below_drewN (Below.refl _ _) _⟩
set_option maxHeartbeats 400000 in
theorem Unframe_short {n : Nat} (A0 : Option Addr) (c0 : Nat) (l0 : List Int) (w : World) (hr0 : Rd w A0 n l0) (_hc0 : n ≤ c0) (hb0 : Bytes l0) (hs0 : 3 ≤ n) (N : Nat) (hN : unLen l0 = N) (hbig : N ≤ 65536) (hsh : n < N + 7) :
    Calls Try.prog 29 #[.slice A0 n c0] w fun e w' => e = .returned (.tuple #[.slice none 0 0, .int .i64 0, .int .i64 2]) ∧ Below w.heap.size w w' := by
  have hlen := Kd.C_len hr0
  have hm0 := Kd.C_max hr0
  obtain ⟨ad, rfl, hcell⟩ := Rd.cells hr0 (by omega)
  have hx0 := hcell 0 (by omega)
  have hx1 : w.cell? ⟨ad.block, ad.off + 1, none⟩ = some (.int .u8 (rd l0 1)) := Rd.lit hcell 0 (by omega)
  have hx2 : w.cell? ⟨ad.block, ad.off + 2, none⟩ = some (.int .u8 (rd l0 2)) := Rd.lit hcell 1 (by omega)
  rw [Addr.add_zero'] at hx0
  obtain ⟨a0, a1⟩ : 0 ≤ rd l0 0 ∧ rd l0 0 < 256 := bytes_rd hb0 0 (by omega)
  obtain ⟨b0, b1⟩ : 0 ≤ rd l0 1 ∧ rd l0 1 < 256 := bytes_rd hb0 1 (by omega)
  obtain ⟨d0, d1⟩ : 0 ≤ rd l0 2 ∧ rd l0 2 < 256 := bytes_rd hb0 2 (by omega)
  have hw0 := wrap_id a0 (by omega)
  have hw1 := wrap_id b0 (by omega)
  have hw2 := wrap_id d0 (by omega)
  have hv0 := wrap_id (x := rd l0 0 * 65536) (by omega) (by omega)
  have hv1 := wrap_id (x := rd l0 1 * 256) (by omega) (by omega)
  have hbits : bits .or .i64 (bits .or .i64 (rd l0 0 * 65536) (rd l0 1 * 256)) (rd l0 2) = (N : Int) := (or_three _ _ _ a0 a1 b0 b1 d0 d1).trans hN
  have HR := Lib.hid hr0
  have HC := Lib.hid hcell
  have hNb : N < 16777216 := by unfold unLen at hN; omega
  have hd : decide (n < 3) = false := decide_eq_false (by omega)
  have hd2 : decide (65536 < N) = false := decide_eq_false (by omega)
  have hd3 : decide (n < N + 7) = true := decide_eq_true hsh
  have n0 : 0 < n := by omega
  have n1 : 1 < n := by omega
  have n2 : 2 < n := by omega
  have i0 : (0 : Int) < n := by omega
  have i1 : (1 : Int) < n := by omega
  have i2 : (2 : Int) < n := by omega
  clear hcell hlen hN hr0
  go_enter Try.func29, Try.ntmps29
  go_wp2_with fail
  go_quiet (fail)
  go_wp2
  go_ret3
  exact ⟨rfl, pw_below_drewN (Below.refl _ _) _⟩
set_option maxHeartbeats 400000 in
theorem Unframe_sum {n : Nat} (A0 : Option Addr) (c0 : Nat) (l0 : List Int) (w : World) (hr0 : Rd w A0 n l0) (hc0 : n ≤ c0) (hb0 : Bytes l0) (hs0 : 3 ≤ n) (N : Nat) (hN : unLen l0 = N) (hbig : N ≤ 65536) (hsh : N + 7 ≤ n) (sm : Int) (hsm : wire_Sum.f (l0.take (N + 3)) = some sm) (sm0 : 0 ≤ sm) (sm1 : sm ≤ 4294967295) (hne : wordBytes sm ≠ (l0.drop (N + 3)).take 4) :
    Calls Try.prog 29 #[.slice A0 n c0] w fun e w' => e = .returned (.tuple #[.slice none 0 0, .int .i64 0, .int .i64 11]) ∧ Below w.heap.size w w' := by
  have hlen := Kd.C_len hr0
  have hm0 := Kd.C_max hr0
  obtain ⟨ad, rfl, hcell⟩ := Rd.cells hr0 (by omega)
  have hx0 := hcell 0 (by omega)
  have hx1 : w.cell? ⟨ad.block, ad.off + 1, none⟩ = some (.int .u8 (rd l0 1)) := Rd.lit hcell 0 (by omega)
  have hx2 : w.cell? ⟨ad.block, ad.off + 2, none⟩ = some (.int .u8 (rd l0 2)) := Rd.lit hcell 1 (by omega)
  rw [Addr.add_zero'] at hx0
  obtain ⟨a0, a1⟩ : 0 ≤ rd l0 0 ∧ rd l0 0 < 256 := bytes_rd hb0 0 (by omega)
  obtain ⟨b0, b1⟩ : 0 ≤ rd l0 1 ∧ rd l0 1 < 256 := bytes_rd hb0 1 (by omega)
  obtain ⟨d0, d1⟩ : 0 ≤ rd l0 2 ∧ rd l0 2 < 256 := bytes_rd hb0 2 (by omega)
  have hw0 := wrap_id a0 (by omega)
  have hw1 := wrap_id b0 (by omega)
  have hw2 := wrap_id d0 (by omega)
  have hv0 := wrap_id (x := rd l0 0 * 65536) (by omega) (by omega)
  have hv1 := wrap_id (x := rd l0 1 * 256) (by omega) (by omega)
  have hbits : bits .or .i64 (bits .or .i64 (rd l0 0 * 65536) (rd l0 1 * 256)) (rd l0 2) = (N : Int) := (or_three _ _ _ a0 a1 b0 b1 d0 d1).trans hN
  have HR := Lib.hid hr0
  have HC := Lib.hid hcell
  have hNb : N < 16777216 := by unfold unLen at hN; omega
  have hd : decide (n < 3) = false := decide_eq_false (by omega)
  have hd2 : decide (65536 < N) = false := decide_eq_false (by omega)
  have hd3 : decide (n < N + 7) = false := decide_eq_false (by omega)
  have HS := Lib.hid hsm
  have heq : ∀ W : World, (Op.equalIn 10000 77 (.agg #[.int .u8 (sm / 16777216), .int .u8 (sm / 65536 % 256), .int .u8 (sm / 256 % 256), .int .u8 (sm % 256)]) (.agg #[.int .u8 (rd l0 ((N : Int) + 3)), .int .u8 (rd l0 ((N : Int) + 4)), .int .u8 (rd l0 ((N : Int) + 5)), .int .u8 (rd l0 ((N : Int) + 6))])).run Try.prog W = .ok false W :=
    fun W => eq_four _ _ _ _ _ _ _ _ W false (decide_eq_false (fun h => hne (by rw [take_four l0 N (by omega)]; exact h)))
  clear hsm hne
  have hkp : ∀ w' : World, Below w.heap.size w w' → Hid (Below w.heap.size w w') ∧ w'.cell? ⟨ad.block, ad.off + (N + 3), none⟩ = some (.int .u8 (rd l0 ((N + 3 : Nat) : Int))) ∧ w'.cell? ⟨ad.block, ad.off + (N + 3) + 1, none⟩ = some (.int .u8 (rd l0 ((N + 4 : Nat) : Int))) ∧ w'.cell? ⟨ad.block, ad.off + (N + 3) + 2, none⟩ = some (.int .u8 (rd l0 ((N + 5 : Nat) : Int))) ∧ w'.cell? ⟨ad.block, ad.off + (N + 3) + 3, none⟩ = some (.int .u8 (rd l0 ((N + 6 : Nat) : Int))) := fun w' hb => by
    obtain ⟨ad', e, hc⟩ := Rd.cells (Kd.C_below HR.out hb) (by omega)
    cases e
    have e : ∀ j, ad.add (j + 1) = ⟨ad.block, ad.off + (j + 1), none⟩ := fun j => by
      show (if j + 1 = 0 then _ else _) = _
      rw [if_neg (by omega)]
    refine ⟨Lib.hid hb, ?_, ?_, ?_, ?_⟩
    · rw [← e (N + 2)]; exact hc (N + 3) (by omega)
    · rw [Nat.add_assoc, ← e (N + 3)]; exact hc (N + 4) (by omega)
    · rw [Nat.add_assoc, ← e (N + 4)]; exact hc (N + 5) (by omega)
    · rw [Nat.add_assoc, ← e (N + 5)]; exact hc (N + 6) (by omega)
  have HKP := Lib.hid hkp
  have f1 : IntKind.i64.wrap ((N : Int) + 3) = N + 3 := wrap_id (by omega) (by omega)
  have f2 : IntKind.i64.wrap ((N : Int) + 7) = N + 7 := wrap_id (by omega) (by omega)
  have f3 : (0 : Int) ≤ (N : Int) + 3 := by omega
  have f4 : (0 : Int) ≤ (N : Int) + 7 := by omega
  have f5 : (N : Int) + 3 ≤ c0 := by omega
  have f6 : (N : Int) + 7 ≤ c0 := by omega
  have f7 : (N : Int) + 3 ≤ (N : Int) + 7 := by omega
  have f8 : ((N : Int) + 3).toNat = N + 3 := by omega
  have f9 : ((N : Int) + 7).toNat = N + 7 := by omega
  have f10 : ¬ c0 = N + 3 := by omega
  have harr : ∀ (a : Addr) (c : Nat) (W : World), (Instr.arrayAt 77 (.slice (some a) 4 c)).run Try.prog W = .ok (.pointer (some a)) W := fun a c W => by rfl
  clear hkp
  have n0 : 0 < n := by omega
  have n1 : 1 < n := by omega
  have n2 : 2 < n := by omega
  have i0 : (0 : Int) < n := by omega
  have i1 : (1 : Int) < n := by omega
  have i2 : (2 : Int) < n := by omega
  clear hcell hlen hN hr0
  go_enter Try.func29, Try.ntmps29
  go_wp2_with fail
  go_quiet (fail)
  go_wp2_with fail
  go_region_held3 (fun w' => Hid (Below w.heap.size w w') ∧ w'.cell? ⟨ad.block, ad.off + (N + 3), none⟩ = some (.int .u8 (rd l0 ((N + 3 : Nat) : Int))) ∧ w'.cell? ⟨ad.block, ad.off + (N + 3) + 1, none⟩ = some (.int .u8 (rd l0 ((N + 4 : Nat) : Int))) ∧ w'.cell? ⟨ad.block, ad.off + (N + 3) + 2, none⟩ = some (.int .u8 (rd l0 ((N + 5 : Nat) : Int))) ∧ w'.cell? ⟨ad.block, ad.off + (N + 3) + 3, none⟩ = some (.int .u8 (rd l0 ((N + 6 : Nat) : Int)))) (first | exact HKP.out _ (below_drew (pw_below_drewN (Below.refl _ _) _)) | exact HKP.out _ HB1.out | exact HKP.out _ HB2.out) ((first | (go_at_call 18; (with_reducible refine (wire_Sum.calls _ _ (l0.take (N + 3)) sm _ (Rd.take (Kd.C_drewN HR.out _) (N + 3) (by omega)) (by omega) HS.out).mono ?_); rintro e w1 ⟨rfl, hd1⟩; have HB1 := Lib.hid (below_step (pw_below_drewN (Below.refl w.heap.size w) _) hd1.below); clear hd1) | (go_at_call 55; (with_reducible refine (word_calls sm _ sm0 sm1).mono ?_); rintro e w2 ⟨rfl, hb2⟩; have HB2 := Lib.hid (below_step HB1.out hb2); clear hb2)))
  all_goals
    go_wp2
    go_ret3
    exact ⟨rfl, HB2.out⟩
set_option maxHeartbeats 400000 in
theorem Unframe_ok {n : Nat} (A0 : Option Addr) (c0 : Nat) (l0 : List Int) (w : World) (hr0 : Rd w A0 n l0) (hc0 : n ≤ c0) (hb0 : Bytes l0) (hs0 : 3 ≤ n) (N : Nat) (hN : unLen l0 = N) (hbig : N ≤ 65536) (hsh : N + 7 ≤ n) (sm : Int) (hsm : wire_Sum.f (l0.take (N + 3)) = some sm) (sm0 : 0 ≤ sm) (sm1 : sm ≤ 4294967295) (hne : wordBytes sm = (l0.drop (N + 3)).take 4) :
    Calls Try.prog 29 #[.slice A0 n c0] w fun e w' => ∃ v0_ : Value, e = .returned (.tuple #[v0_, .int .i64 ((N : Int) + 7), .int .i64 0]) ∧ Own w w' v0_ ((l0.take (N + 3)).drop 3) ∧ Below w.heap.size w w' := by
  have hlen := Kd.C_len hr0
  have hm0 := Kd.C_max hr0
  obtain ⟨ad, rfl, hcell⟩ := Rd.cells hr0 (by omega)
  have hx0 := hcell 0 (by omega)
  have hx1 : w.cell? ⟨ad.block, ad.off + 1, none⟩ = some (.int .u8 (rd l0 1)) := Rd.lit hcell 0 (by omega)
  have hx2 : w.cell? ⟨ad.block, ad.off + 2, none⟩ = some (.int .u8 (rd l0 2)) := Rd.lit hcell 1 (by omega)
  rw [Addr.add_zero'] at hx0
  obtain ⟨a0, a1⟩ : 0 ≤ rd l0 0 ∧ rd l0 0 < 256 := bytes_rd hb0 0 (by omega)
  obtain ⟨b0, b1⟩ : 0 ≤ rd l0 1 ∧ rd l0 1 < 256 := bytes_rd hb0 1 (by omega)
  obtain ⟨d0, d1⟩ : 0 ≤ rd l0 2 ∧ rd l0 2 < 256 := bytes_rd hb0 2 (by omega)
  have hw0 := wrap_id a0 (by omega)
  have hw1 := wrap_id b0 (by omega)
  have hw2 := wrap_id d0 (by omega)
  have hv0 := wrap_id (x := rd l0 0 * 65536) (by omega) (by omega)
  have hv1 := wrap_id (x := rd l0 1 * 256) (by omega) (by omega)
  have hbits : bits .or .i64 (bits .or .i64 (rd l0 0 * 65536) (rd l0 1 * 256)) (rd l0 2) = (N : Int) := (or_three _ _ _ a0 a1 b0 b1 d0 d1).trans hN
  have HR := Lib.hid hr0
  have HC := Lib.hid hcell
  have hNb : N < 16777216 := by unfold unLen at hN; omega
  have hd : decide (n < 3) = false := decide_eq_false (by omega)
  have hd2 : decide (65536 < N) = false := decide_eq_false (by omega)
  have hd3 : decide (n < N + 7) = false := decide_eq_false (by omega)
  have HS := Lib.hid hsm
  have heq : ∀ W : World, (Op.equalIn 10000 77 (.agg #[.int .u8 (sm / 16777216), .int .u8 (sm / 65536 % 256), .int .u8 (sm / 256 % 256), .int .u8 (sm % 256)]) (.agg #[.int .u8 (rd l0 ((N : Int) + 3)), .int .u8 (rd l0 ((N : Int) + 4)), .int .u8 (rd l0 ((N : Int) + 5)), .int .u8 (rd l0 ((N : Int) + 6))])).run Try.prog W = .ok true W :=
    fun W => eq_four _ _ _ _ _ _ _ _ W true (decide_eq_true (by rw [take_four l0 N (by omega)] at hne; exact hne))
  clear hsm hne
  have hkp : ∀ w' : World, Below w.heap.size w w' → Hid (Below w.heap.size w w') ∧ w'.cell? ⟨ad.block, ad.off + (N + 3), none⟩ = some (.int .u8 (rd l0 ((N + 3 : Nat) : Int))) ∧ w'.cell? ⟨ad.block, ad.off + (N + 3) + 1, none⟩ = some (.int .u8 (rd l0 ((N + 4 : Nat) : Int))) ∧ w'.cell? ⟨ad.block, ad.off + (N + 3) + 2, none⟩ = some (.int .u8 (rd l0 ((N + 5 : Nat) : Int))) ∧ w'.cell? ⟨ad.block, ad.off + (N + 3) + 3, none⟩ = some (.int .u8 (rd l0 ((N + 6 : Nat) : Int))) := fun w' hb => by
    obtain ⟨ad', e, hc⟩ := Rd.cells (Kd.C_below HR.out hb) (by omega)
    cases e
    have e : ∀ j, ad.add (j + 1) = ⟨ad.block, ad.off + (j + 1), none⟩ := fun j => by
      show (if j + 1 = 0 then _ else _) = _
      rw [if_neg (by omega)]
    refine ⟨Lib.hid hb, ?_, ?_, ?_, ?_⟩
    · rw [← e (N + 2)]; exact hc (N + 3) (by omega)
    · rw [Nat.add_assoc, ← e (N + 3)]; exact hc (N + 4) (by omega)
    · rw [Nat.add_assoc, ← e (N + 4)]; exact hc (N + 5) (by omega)
    · rw [Nat.add_assoc, ← e (N + 5)]; exact hc (N + 6) (by omega)
  have HKP := Lib.hid hkp
  have f1 : IntKind.i64.wrap ((N : Int) + 3) = N + 3 := wrap_id (by omega) (by omega)
  have f2 : IntKind.i64.wrap ((N : Int) + 7) = N + 7 := wrap_id (by omega) (by omega)
  have f3 : (0 : Int) ≤ (N : Int) + 3 := by omega
  have f4 : (0 : Int) ≤ (N : Int) + 7 := by omega
  have f5 : (N : Int) + 3 ≤ c0 := by omega
  have f6 : (N : Int) + 7 ≤ c0 := by omega
  have f7 : (N : Int) + 3 ≤ (N : Int) + 7 := by omega
  have f8 : ((N : Int) + 3).toNat = N + 3 := by omega
  have f9 : ((N : Int) + 7).toNat = N + 7 := by omega
  have f10 : ¬ c0 = N + 3 := by omega
  have harr : ∀ (a : Addr) (c : Nat) (W : World), (Instr.arrayAt 77 (.slice (some a) 4 c)).run Try.prog W = .ok (.pointer (some a)) W := fun a c W => by rfl
  clear hkp
  have n0 : 0 < n := by omega
  have n1 : 1 < n := by omega
  have n2 : 2 < n := by omega
  have i0 : (0 : Int) < n := by omega
  have i1 : (1 : Int) < n := by omega
  have i2 : (2 : Int) < n := by omega
  clear hcell hlen hN hr0
  go_enter Try.func29, Try.ntmps29
  go_wp2_with fail
  go_quiet (fail)
  go_wp2_with fail
  go_region_held3 (fun w' => Hid (Below w.heap.size w w') ∧ w'.cell? ⟨ad.block, ad.off + (N + 3), none⟩ = some (.int .u8 (rd l0 ((N + 3 : Nat) : Int))) ∧ w'.cell? ⟨ad.block, ad.off + (N + 3) + 1, none⟩ = some (.int .u8 (rd l0 ((N + 4 : Nat) : Int))) ∧ w'.cell? ⟨ad.block, ad.off + (N + 3) + 2, none⟩ = some (.int .u8 (rd l0 ((N + 5 : Nat) : Int))) ∧ w'.cell? ⟨ad.block, ad.off + (N + 3) + 3, none⟩ = some (.int .u8 (rd l0 ((N + 6 : Nat) : Int)))) (first | exact HKP.out _ (below_drew (pw_below_drewN (Below.refl _ _) _)) | exact HKP.out _ HB1.out | exact HKP.out _ HB2.out) ((first | (go_at_call 18; (with_reducible refine (wire_Sum.calls _ _ (l0.take (N + 3)) sm _ (Rd.take (Kd.C_drewN HR.out _) (N + 3) (by omega)) (by omega) HS.out).mono ?_); rintro e w1 ⟨rfl, hd1⟩; have HB1 := Lib.hid (below_step (pw_below_drewN (Below.refl w.heap.size w) _) hd1.below); clear hd1) | (go_at_call 55; (with_reducible refine (word_calls sm _ sm0 sm1).mono ?_); rintro e w2 ⟨rfl, hb2⟩; have HB2 := Lib.hid (below_step HB1.out hb2); clear hb2)))
  all_goals
    clear hx0 hx1 hx2
    have HM := Lib.hid (show Rd w2 (some ⟨ad.block, ad.off + 3, none⟩) N ((l0.take (N + 3)).drop 3) from Rd.mid (Kd.C_below HR.out HB2.out) 3 (N + 3) (by omega) (by omega) (fun _ => rfl))
    go_wp2_with (at_builtin; refine app_row (Own.nil w _) HM.out HB2.out (by simp only [List.length_nil]; omega) rfl rfl rfl rfl ?_)
    intro v3 w3 ho3 hb3 _ _
    go_wp2
    go_ret3
    exact ⟨_, rfl, ho3, hb3⟩
end Go.Proofs.Ythbdgakeglppbaa
