/- wire.word, wire.Frame. -/
import Derived.Test.YthbdgakeglppbaaApp
import Derived.Test.YthbdgakeglppbaaForm
import Derived.Test.YthbdgakeglppbaaSumRef
namespace Go.Proofs.Ythbdgakeglppbaa
open Go.RowKit Go.Proofs.YthbdgakeglppbaaW.PrintWords
/-- A word's four bytes, the highest first. -/
def wordBytes (x : Int) : List Int := [x / 16777216, x / 65536 % 256, x / 256 % 256, x % 256]
def frameHead (n : Int) : List Int := [n / 65536 % 256, n / 256 % 256, n % 256]
def frameOf (p : List Int) : List Int := (frameHead p.length ++ p) ++ wordBytes (wireSum (frameHead p.length ++ p))
theorem wireSum_range (l : List Int) : 0 ≤ wireSum l ∧ wireSum l ≤ 4294967295 := by
  unfold wireSum
  have := bits_within .xor .u32 4294967295 (sumBytes l)
  have e1 : IntKind.u32.min = 0 := rfl
  have e2 : IntKind.u32.max = 4294967295 := rfl
  omega
theorem word_calls (x : Int) (w : World) (h0 : 0 ≤ x) (h1 : x ≤ 4294967295) :
    Calls Try.prog 55 #[.int .u32 x] w fun e w' => e = .returned (.agg #[.int .u8 (x / 16777216), .int .u8 (x / 65536 % 256), .int .u8 (x / 256 % 256), .int .u8 (x % 256)]) ∧ Below w.heap.size w w' := by
  go_enter Try.func55, Try.ntmps55
  go_wp2
  exact bodyPost_ret (v := .agg #[.int .u8 (x / 16777216), .int .u8 (x / 65536 % 256), .int .u8 (x / 256 % 256), .int .u8 (x % 256)]) (by simp [results, Try.results55, go_sem]) rfl ⟨rfl, (Below.refl _ _).alloc (Nat.le_refl _) _⟩
theorem Frame_long {n : Nat} (A0 : Option Addr) (c0 : Nat) (w : World) (hs0 : n ≤ 140737488351232) (hbig : 65536 < n) :
    Calls Try.prog 28 #[.slice A0 n c0] w fun e w' => e = .returned (.tuple #[.slice none 0 0, .int .i64 4]) ∧ Below w.heap.size w w' := by
  have hd : decide (65536 < n) = true := decide_eq_true (by omega)
  go_enter Try.func28, Try.ntmps28
  go_wp2
  go_ret2
  exact ⟨rfl, Below.refl _ _⟩
set_option maxHeartbeats 400000 in
theorem Frame_ok {n : Nat} (A0 : Option Addr) (c0 : Nat) (l0 : List Int) (w : World) (hr0 : Rd w A0 n l0) (hbig : n ≤ 65536) :
    Calls Try.prog 28 #[.slice A0 n c0] w fun e w' => ∃ v0_ : Value, e = .returned (.tuple #[v0_, .int .i64 0]) ∧ Own w w' v0_ (frameOf l0) ∧ Below w.heap.size w w' := by
  have hlen := Kd.C_len hr0
  have HLEN := Lib.hid hlen
  have hd : decide (65536 < n) = false := decide_eq_false (by omega)
  obtain ⟨lh, hlh⟩ : ∃ lh, lh = frameHead n ++ l0 := ⟨_, rfl⟩
  have hlh2 : lh.length = n + 3 := by rw [hlh, List.length_append, hlen, Nat.add_comm]; rfl
  have hrange := wireSum_range lh
  obtain ⟨sm, hsm⟩ : ∃ sm, sm = wireSum lh := ⟨_, rfl⟩
  rw [← hsm] at hrange
  have HS := Lib.hid (show wire_Sum.f lh = some sm by rw [hsm]; rfl)
  have HF := Lib.hid (show frameOf l0 = lh ++ wordBytes sm by rw [hsm, hlh, ← hlen]; rfl)
  have HL := Lib.hid hlh
  have HR := Lib.hid hr0
  have HL2 := Lib.hid hlh2
  have hlh0 : 0 < lh.length := by omega
  clear hlh hsm hr0 hlh2 hlen
  go_enter Try.func28, Try.ntmps28
  go_wp2_with (at_builtin; refine app_row (lit_three (Below.refl _ _) _ _ _) (Kd.C_alloc HR.out _) (below_alloc (Below.refl _ _) _) (by simp; omega) rfl rfl rfl rfl ?_)
  intro v1 w1 ho1 hb1 _ _
  have ho1' := ho1.cast (show _ = lh by rw [HL.out]; unfold frameHead; rw [Int.emod_eq_of_lt (a := (n : Int) / 65536) (by omega) (by omega)]; rfl)
  obtain ⟨g1, c1, rfl, hc1, hg1, hg1'⟩ := ho1'.form hlh0
  have HO1 := Lib.hid ho1'
  have HB1 := Lib.hid hb1
  clear ho1 ho1' hb1
  go_wp2_with fail
  refine (wire_Sum.calls _ _ lh sm _ (Kd.R_reads' HO1.out).2.2 hc1 HS.out).mono ?_
  rintro e w2 ⟨rfl, hd2⟩
  have HO2 := Lib.hid (HO1.out.below hd2.below)
  have HB2 := Lib.hid (below_step HB1.out hd2.below)
  clear hd2 HO1 HB1
  go_wp2_with fail
  refine (word_calls sm _ hrange.1 hrange.2).mono ?_
  rintro e w3 ⟨rfl, hb3⟩
  have HO3 := Lib.hid (HO2.out.below hb3)
  have HB3 := Lib.hid (below_step HB2.out hb3)
  clear hb3 HO2 HB2
  go_wp2_with (at_builtin; refine app_row (Kd.R_alloc HO3.out _) (C_const _ _ [sm / 16777216, sm / 65536 % 256, sm / 256 % 256, sm % 256] (0, 0) (by simp)) (below_alloc HB3.out _) (by have := HL2.out; simp only [List.length_cons, List.length_nil]; omega) rfl rfl rfl rfl ?_)
  intro v4 w4 ho4 hb4 _ _
  go_wp2
  go_ret2
  exact ⟨_, rfl, ho4.cast (by rw [HF.out]; rfl), hb4⟩
end Go.Proofs.Ythbdgakeglppbaa
