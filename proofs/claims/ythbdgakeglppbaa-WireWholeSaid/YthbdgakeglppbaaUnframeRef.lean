/- blotterref01.Unframe. -/
import Derived.Test.YthbdgakeglppbaaUnframed
import Derived.Test.YthbdgakeglppbaaHigh
namespace Go.Proofs.Ythbdgakeglppbaa
open Go.RowKit Go.Proofs.YthbdgakeglppbaaW.PrintWords
theorem frame_length (p : List Int) : (frameOf p).length = p.length + 7 := by
  unfold frameOf frameHead wordBytes
  simp
theorem frame_Bytes (p : List Int) (h : Bytes p) : Bytes (frameOf p) := by
  have hr := wireSum_range (frameHead p.length ++ p)
  unfold frameOf
  refine Bytes.app (Bytes.app ?_ h) ?_
  · exact Bytes.con (by omega) (by omega) (Bytes.con (by omega) (by omega) (Bytes.con (by omega) (by omega) Bytes.nil))
  · exact Bytes.con (by omega) (by omega) (Bytes.con (by omega) (by omega) (Bytes.con (by omega) (by omega) (Bytes.con (by omega) (by omega) Bytes.nil)))
theorem Rd.len {w : World} {A : Option Addr} {n m : Nat} {l : List Int} (h : Rd w A n l) (e : m = n) : Rd w A m l := e ▸ h
theorem UnframeRef_short3 {n : Nat} (A0 : Option Addr) (c0 : Nat) (w : World) (hs0 : n < 3) :
    Calls Try.prog 31 #[.slice A0 n c0] w fun e w' => e = .returned (.tuple #[.slice none 0 0, .int .i64 0, .int .i64 2]) ∧ Below w.heap.size w w' := by
  have hd : decide (n < 3) = true := decide_eq_true hs0
  go_enter Try.func31, Try.ntmps31
  go_wp2
  go_ret3
  exact ⟨rfl, Below.refl _ _⟩
set_option maxHeartbeats 400000 in
theorem UnframeRef_long {n : Nat} (A0 : Option Addr) (c0 : Nat) (l0 : List Int) (w : World) (hr0 : Rd w A0 n l0) (_hc0 : n ≤ c0) (hb0 : Bytes l0) (hs0 : 3 ≤ n) (hmx : n ≤ 140737488351232) (N : Nat) (hN : unLen l0 = N) (hbig : 65536 < N) :
    Calls Try.prog 31 #[.slice A0 n c0] w fun e w' => e = .returned (.tuple #[.slice none 0 0, .int .i64 0, .int .i64 4]) ∧ Below w.heap.size w w' := by
  have hlen := Kd.C_len hr0
  obtain ⟨ad, rfl, hcell⟩ := Rd.cells hr0 (by omega)
  have hx0 := hcell 0 (by omega)
  have hx1 : w.cell? ⟨ad.block, ad.off + 1, none⟩ = some (.int .u8 (rd l0 1)) := Rd.lit hcell 0 (by omega)
  have hx2 : w.cell? ⟨ad.block, ad.off + 2, none⟩ = some (.int .u8 (rd l0 2)) := Rd.lit hcell 1 (by omega)
  rw [Addr.add_zero'] at hx0
  obtain ⟨a0, a1⟩ : 0 ≤ rd l0 0 ∧ rd l0 0 < 256 := bytes_rd hb0 0 (by omega)
  obtain ⟨b0, b1⟩ : 0 ≤ rd l0 1 ∧ rd l0 1 < 256 := bytes_rd hb0 1 (by omega)
  obtain ⟨d0, d1⟩ : 0 ≤ rd l0 2 ∧ rd l0 2 < 256 := bytes_rd hb0 2 (by omega)
  have hw0 := wrap_id a0 (by omega)
  have hw1 := wrap_id b0 (by omega)
  have hw2 := wrap_id d0 (by omega)
  have hv0 := wrap_id (x := 65536 * rd l0 0) (by omega) (by omega)
  have hv1 := wrap_id (x := 256 * rd l0 1) (by omega) (by omega)
  have hv2 := wrap_id (x := 65536 * rd l0 0 + 256 * rd l0 1) (by omega) (by omega)
  have hbits : 65536 * rd l0 0 + 256 * rd l0 1 + rd l0 2 = (N : Int) := hN
  have hv3 : IntKind.i64.wrap (65536 * rd l0 0 + 256 * rd l0 1 + rd l0 2) = (N : Int) := (wrap_id (by omega) (by omega)).trans hN
  have HR := Lib.hid hr0
  have HC := Lib.hid hcell
  have HBY := Lib.hid hb0
  have hNb : N < 16777216 := by omega
  have hd : decide (n < 3) = false := decide_eq_false (by omega)
  have hd2 : decide (65536 < N) = true := decide_eq_true hbig
  have n0 : 0 < n := by omega
  have n1 : 1 < n := by omega
  have n2 : 2 < n := by omega
  have i0 : (0 : Int) < n := by omega
  have i1 : (1 : Int) < n := by omega
  have i2 : (2 : Int) < n := by omega
  clear hcell hlen hN hr0 hbits hb0
  go_enter Try.func31, Try.ntmps31
  go_wp2_with fail
  go_quiet (fail)
  go_wp2
  go_ret3
  exact ⟨rfl, pw_below_drewN (Below.refl _ _) _⟩
set_option maxHeartbeats 400000 in
theorem UnframeRef_short {n : Nat} (A0 : Option Addr) (c0 : Nat) (l0 : List Int) (w : World) (hr0 : Rd w A0 n l0) (_hc0 : n ≤ c0) (hb0 : Bytes l0) (hs0 : 3 ≤ n) (hmx : n ≤ 140737488351232) (N : Nat) (hN : unLen l0 = N) (hbig : N ≤ 65536) (hsh : n < N + 7) :
    Calls Try.prog 31 #[.slice A0 n c0] w fun e w' => e = .returned (.tuple #[.slice none 0 0, .int .i64 0, .int .i64 2]) ∧ Below w.heap.size w w' := by
  have hlen := Kd.C_len hr0
  obtain ⟨ad, rfl, hcell⟩ := Rd.cells hr0 (by omega)
  have hx0 := hcell 0 (by omega)
  have hx1 : w.cell? ⟨ad.block, ad.off + 1, none⟩ = some (.int .u8 (rd l0 1)) := Rd.lit hcell 0 (by omega)
  have hx2 : w.cell? ⟨ad.block, ad.off + 2, none⟩ = some (.int .u8 (rd l0 2)) := Rd.lit hcell 1 (by omega)
  rw [Addr.add_zero'] at hx0
  obtain ⟨a0, a1⟩ : 0 ≤ rd l0 0 ∧ rd l0 0 < 256 := bytes_rd hb0 0 (by omega)
  obtain ⟨b0, b1⟩ : 0 ≤ rd l0 1 ∧ rd l0 1 < 256 := bytes_rd hb0 1 (by omega)
  obtain ⟨d0, d1⟩ : 0 ≤ rd l0 2 ∧ rd l0 2 < 256 := bytes_rd hb0 2 (by omega)
  have hw0 := wrap_id a0 (by omega)
  have hw1 := wrap_id b0 (by omega)
  have hw2 := wrap_id d0 (by omega)
  have hv0 := wrap_id (x := 65536 * rd l0 0) (by omega) (by omega)
  have hv1 := wrap_id (x := 256 * rd l0 1) (by omega) (by omega)
  have hv2 := wrap_id (x := 65536 * rd l0 0 + 256 * rd l0 1) (by omega) (by omega)
  have hbits : 65536 * rd l0 0 + 256 * rd l0 1 + rd l0 2 = (N : Int) := hN
  have hv3 : IntKind.i64.wrap (65536 * rd l0 0 + 256 * rd l0 1 + rd l0 2) = (N : Int) := (wrap_id (by omega) (by omega)).trans hN
  have HR := Lib.hid hr0
  have HC := Lib.hid hcell
  have HBY := Lib.hid hb0
  have hNb : N < 16777216 := by omega
  have hd : decide (n < 3) = false := decide_eq_false (by omega)
  have hd2 : decide (65536 < N) = false := decide_eq_false (by omega)
  have hd3 : decide ((n : Int) - 3 < N + 4) = true := decide_eq_true (by omega)
  have n0 : 0 < n := by omega
  have n1 : 1 < n := by omega
  have n2 : 2 < n := by omega
  have i0 : (0 : Int) < n := by omega
  have i1 : (1 : Int) < n := by omega
  have i2 : (2 : Int) < n := by omega
  clear hcell hlen hN hr0 hbits hb0
  go_enter Try.func31, Try.ntmps31
  go_wp2_with fail
  go_quiet (fail)
  go_wp2
  go_ret3
  exact ⟨rfl, pw_below_drewN (Below.refl _ _) _⟩
set_option maxHeartbeats 400000 in
theorem UnframeRef_sum {n : Nat} (A0 : Option Addr) (c0 : Nat) (l0 : List Int) (w : World) (hr0 : Rd w A0 n l0) (hc0 : n ≤ c0) (hb0 : Bytes l0) (hs0 : 3 ≤ n) (hmx : n ≤ 140737488351232) (N : Nat) (hN : unLen l0 = N) (hbig : N ≤ 65536) (hsh : N + 7 ≤ n) (hne : frameOf ((l0.take (N + 3)).drop 3) ≠ l0.take (N + 7)) :
    Calls Try.prog 31 #[.slice A0 n c0] w fun e w' => e = .returned (.tuple #[.slice none 0 0, .int .i64 0, .int .i64 11]) ∧ Below w.heap.size w w' := by
  have hlen := Kd.C_len hr0
  obtain ⟨ad, rfl, hcell⟩ := Rd.cells hr0 (by omega)
  have hx0 := hcell 0 (by omega)
  have hx1 : w.cell? ⟨ad.block, ad.off + 1, none⟩ = some (.int .u8 (rd l0 1)) := Rd.lit hcell 0 (by omega)
  have hx2 : w.cell? ⟨ad.block, ad.off + 2, none⟩ = some (.int .u8 (rd l0 2)) := Rd.lit hcell 1 (by omega)
  rw [Addr.add_zero'] at hx0
  obtain ⟨a0, a1⟩ : 0 ≤ rd l0 0 ∧ rd l0 0 < 256 := bytes_rd hb0 0 (by omega)
  obtain ⟨b0, b1⟩ : 0 ≤ rd l0 1 ∧ rd l0 1 < 256 := bytes_rd hb0 1 (by omega)
  obtain ⟨d0, d1⟩ : 0 ≤ rd l0 2 ∧ rd l0 2 < 256 := bytes_rd hb0 2 (by omega)
  have hw0 := wrap_id a0 (by omega)
  have hw1 := wrap_id b0 (by omega)
  have hw2 := wrap_id d0 (by omega)
  have hv0 := wrap_id (x := 65536 * rd l0 0) (by omega) (by omega)
  have hv1 := wrap_id (x := 256 * rd l0 1) (by omega) (by omega)
  have hv2 := wrap_id (x := 65536 * rd l0 0 + 256 * rd l0 1) (by omega) (by omega)
  have hbits : 65536 * rd l0 0 + 256 * rd l0 1 + rd l0 2 = (N : Int) := hN
  have hv3 : IntKind.i64.wrap (65536 * rd l0 0 + 256 * rd l0 1 + rd l0 2) = (N : Int) := (wrap_id (by omega) (by omega)).trans hN
  have HR := Lib.hid hr0
  have HC := Lib.hid hcell
  have HBY := Lib.hid hb0
  have hNb : N < 16777216 := by omega
  have hd : decide (n < 3) = false := decide_eq_false (by omega)
  have hd2 : decide (65536 < N) = false := decide_eq_false (by omega)
  have hd3 : decide ((n : Int) - 3 < N + 4) = false := decide_eq_false (by omega)
  have n0 : 0 < n := by omega
  have n1 : 1 < n := by omega
  have n2 : 2 < n := by omega
  have i0 : (0 : Int) < n := by omega
  have i1 : (1 : Int) < n := by omega
  have i2 : (2 : Int) < n := by omega
  clear hcell hlen hN hr0 hbits hb0
  go_enter Try.func31, Try.ntmps31
  go_wp2_with fail
  go_quiet (fail)
  have HQ := Lib.hid (fun (W : World) (h : Below w.heap.size w W) => (show Rd W (some ⟨ad.block, ad.off + 3, none⟩) N ((l0.take (N + 3)).drop 3) from Rd.mid (Kd.C_below HR.out h) 3 (N + 3) (by omega) (by omega) (fun _ => rfl)))
  obtain ⟨lm, hlm⟩ : ∃ lm, lm = (l0.take (N + 3)).drop 3 := ⟨_, rfl⟩
  rw [← hlm] at HQ
  have HBM := Lib.hid (show Bytes lm by rw [hlm]; exact (HBY.out.tk _).dp _)
  have HLM := Lib.hid hlm
  clear hlm
  go_wp2_with fail
  refine (FrameRef_ok _ _ lm _ (HQ.out _ (pw_below_drewN (Below.refl _ _) _)) HBM.out hbig).mono ?_
  rintro e w1 ⟨v1, rfl, ho1, hb1⟩
  have HLF := Lib.hid (frame_length lm)
  have HBF := Lib.hid (frame_Bytes lm HBM.out)
  obtain ⟨lf, hlf⟩ : ∃ lf, lf = frameOf lm := ⟨_, rfl⟩
  rw [← hlf] at ho1 HLF HBF
  obtain ⟨A1, c1, rfl, hc1, hrd1⟩ := ho1.reads
  have hnb : Below w.heap.size w w1 := below_step (pw_below_drewN (Below.refl _ _) _) hb1
  have k0 := fun a => Kd.C_string (P := Try.prog) (src := 22) (dst := 9) (e := 5) Try.underlying22 Try.underlying5 Try.underlying9 (c := c1) (Kd.C_drewN hrd1 a)
  have k1 := fun a => Kd.C_string (P := Try.prog) (src := 22) (dst := 9) (e := 5) Try.underlying22 Try.underlying5 Try.underlying9 (c := c0) (Kd.C_drewN (Rd.take (Kd.C_below HR.out hnb) (N + 7) (by omega)) a)
  have HEQ := Lib.hid (strOf_eql HBF.out (HBY.out.tk (N + 7)))
  have HB1 := Lib.hid hnb
  have HRD1 := Lib.hid hrd1
  clear ho1 hb1 hnb hrd1
  have f2 : IntKind.i64.wrap ((N : Int) + 7) = N + 7 := wrap_id (by omega) (by omega)
  have f4 : (0 : Int) ≤ (N : Int) + 7 := by omega
  have f6 : (N : Int) + 7 ≤ c0 := by omega
  have f9 : ((N : Int) + 7).toNat = N + 7 := by omega
  have HLF2 := Lib.hid hlf
  clear hlf
  go_wp2_with fail
  have hneq : ((strOfNums lf).toList == (strOfNums (l0.take (N + 7))).toList) = false := HEQ.out.trans (decide_eq_false (fun h => hne (by rw [← HLM.out, ← HLF2.out]; exact h)))
  go_quiet (fail)
  clear k0 k1
  go_wp2
  go_ret3
  exact ⟨rfl, pw_below_drewN HB1.out _⟩
set_option maxHeartbeats 400000 in
theorem UnframeRef_ok {n : Nat} (A0 : Option Addr) (c0 : Nat) (l0 : List Int) (w : World) (hr0 : Rd w A0 n l0) (hc0 : n ≤ c0) (hb0 : Bytes l0) (hs0 : 3 ≤ n) (hmx : n ≤ 140737488351232) (N : Nat) (hN : unLen l0 = N) (hbig : N ≤ 65536) (hsh : N + 7 ≤ n) (hne : frameOf ((l0.take (N + 3)).drop 3) = l0.take (N + 7)) :
    Calls Try.prog 31 #[.slice A0 n c0] w fun e w' => ∃ v0_ : Value, e = .returned (.tuple #[v0_, .int .i64 ((N : Int) + 7), .int .i64 0]) ∧ Own w w' v0_ ((l0.take (N + 3)).drop 3) ∧ Below w.heap.size w w' := by
  have hlen := Kd.C_len hr0
  obtain ⟨ad, rfl, hcell⟩ := Rd.cells hr0 (by omega)
  have hx0 := hcell 0 (by omega)
  have hx1 : w.cell? ⟨ad.block, ad.off + 1, none⟩ = some (.int .u8 (rd l0 1)) := Rd.lit hcell 0 (by omega)
  have hx2 : w.cell? ⟨ad.block, ad.off + 2, none⟩ = some (.int .u8 (rd l0 2)) := Rd.lit hcell 1 (by omega)
  rw [Addr.add_zero'] at hx0
  obtain ⟨a0, a1⟩ : 0 ≤ rd l0 0 ∧ rd l0 0 < 256 := bytes_rd hb0 0 (by omega)
  obtain ⟨b0, b1⟩ : 0 ≤ rd l0 1 ∧ rd l0 1 < 256 := bytes_rd hb0 1 (by omega)
  obtain ⟨d0, d1⟩ : 0 ≤ rd l0 2 ∧ rd l0 2 < 256 := bytes_rd hb0 2 (by omega)
  have hw0 := wrap_id a0 (by omega)
  have hw1 := wrap_id b0 (by omega)
  have hw2 := wrap_id d0 (by omega)
  have hv0 := wrap_id (x := 65536 * rd l0 0) (by omega) (by omega)
  have hv1 := wrap_id (x := 256 * rd l0 1) (by omega) (by omega)
  have hv2 := wrap_id (x := 65536 * rd l0 0 + 256 * rd l0 1) (by omega) (by omega)
  have hbits : 65536 * rd l0 0 + 256 * rd l0 1 + rd l0 2 = (N : Int) := hN
  have hv3 : IntKind.i64.wrap (65536 * rd l0 0 + 256 * rd l0 1 + rd l0 2) = (N : Int) := (wrap_id (by omega) (by omega)).trans hN
  have HR := Lib.hid hr0
  have HC := Lib.hid hcell
  have HBY := Lib.hid hb0
  have hNb : N < 16777216 := by omega
  have hd : decide (n < 3) = false := decide_eq_false (by omega)
  have hd2 : decide (65536 < N) = false := decide_eq_false (by omega)
  have hd3 : decide ((n : Int) - 3 < N + 4) = false := decide_eq_false (by omega)
  have n0 : 0 < n := by omega
  have n1 : 1 < n := by omega
  have n2 : 2 < n := by omega
  have i0 : (0 : Int) < n := by omega
  have i1 : (1 : Int) < n := by omega
  have i2 : (2 : Int) < n := by omega
  clear hcell hlen hN hr0 hbits hb0
  go_enter Try.func31, Try.ntmps31
  go_wp2_with fail
  go_quiet (fail)
  have HQ := Lib.hid (fun (W : World) (h : Below w.heap.size w W) => (show Rd W (some ⟨ad.block, ad.off + 3, none⟩) N ((l0.take (N + 3)).drop 3) from Rd.mid (Kd.C_below HR.out h) 3 (N + 3) (by omega) (by omega) (fun _ => rfl)))
  obtain ⟨lm, hlm⟩ : ∃ lm, lm = (l0.take (N + 3)).drop 3 := ⟨_, rfl⟩
  rw [← hlm] at HQ
  have HBM := Lib.hid (show Bytes lm by rw [hlm]; exact (HBY.out.tk _).dp _)
  have HLM := Lib.hid hlm
  clear hlm
  go_wp2_with fail
  refine (FrameRef_ok _ _ lm _ (HQ.out _ (pw_below_drewN (Below.refl _ _) _)) HBM.out hbig).mono ?_
  rintro e w1 ⟨v1, rfl, ho1, hb1⟩
  have HLF := Lib.hid (frame_length lm)
  have HBF := Lib.hid (frame_Bytes lm HBM.out)
  obtain ⟨lf, hlf⟩ : ∃ lf, lf = frameOf lm := ⟨_, rfl⟩
  rw [← hlf] at ho1 HLF HBF
  obtain ⟨A1, c1, rfl, hc1, hrd1⟩ := ho1.reads
  have hnb : Below w.heap.size w w1 := below_step (pw_below_drewN (Below.refl _ _) _) hb1
  have k0 := fun a => Kd.C_string (P := Try.prog) (src := 22) (dst := 9) (e := 5) Try.underlying22 Try.underlying5 Try.underlying9 (c := c1) (Kd.C_drewN hrd1 a)
  have k1 := fun a => Kd.C_string (P := Try.prog) (src := 22) (dst := 9) (e := 5) Try.underlying22 Try.underlying5 Try.underlying9 (c := c0) (Kd.C_drewN (Rd.take (Kd.C_below HR.out hnb) (N + 7) (by omega)) a)
  have HEQ := Lib.hid (strOf_eql HBF.out (HBY.out.tk (N + 7)))
  have HB1 := Lib.hid hnb
  have HRD1 := Lib.hid hrd1
  clear ho1 hb1 hnb hrd1
  have f2 : IntKind.i64.wrap ((N : Int) + 7) = N + 7 := wrap_id (by omega) (by omega)
  have f4 : (0 : Int) ≤ (N : Int) + 7 := by omega
  have f6 : (N : Int) + 7 ≤ c0 := by omega
  have f9 : ((N : Int) + 7).toNat = N + 7 := by omega
  have HLF2 := Lib.hid hlf
  clear hlf
  go_wp2_with fail
  have hneq : ((strOfNums lf).toList == (strOfNums (l0.take (N + 7))).toList) = true := HEQ.out.trans (decide_eq_true (by rw [HLF2.out, HLM.out]; exact hne))
  go_quiet (fail)
  clear k0 k1
  go_wp2_with (at_builtin; refine app_row (w0 := w) (lit_nil (pw_below_drewN HB1.out _)) (Kd.C_alloc (Rd.len (HQ.out _ (pw_below_drewN HB1.out _)) (show 3 + N - 3 = N by omega)) _) (below_alloc (pw_below_drewN HB1.out _) _) (by simp only [List.length_nil]; omega) rfl rfl rfl rfl ?_)
  intro v3 w3 ho3 hb3 _ _
  go_wp2
  go_ret3
  exact ⟨_, rfl, ho3.cast HLM.out, hb3⟩
theorem UnframeRef_calls {n : Nat} (A0 : Option Addr) (c0 : Nat) (l : List Int) (w : World) (hr0 : Rd w A0 n l) (hc0 : n ≤ c0) (hb : Bytes l) (hs0 : n ≤ 140737488351232) :
    Calls Try.prog 31 #[.slice A0 n c0] w fun e w' => ∃ v0_ : Value, e = .returned (.tuple #[v0_, .int .i64 (unframe l).2.1, .int .i64 (unframe l).2.2]) ∧ Own w w' v0_ (unframe l).1 ∧ Below w.heap.size w w' := by
  have hlen := Kd.C_len hr0
  unfold unframe
  by_cases h3 : l.length < 3
  · rw [if_pos h3]
    exact (UnframeRef_short3 A0 c0 w (by omega)).mono fun e w' ⟨h, k⟩ => ⟨_, h, Own.nil _ _, k⟩
  rw [if_neg h3]
  have hr := unLen_range l hb (by omega)
  have hN : unLen l = ((unLen l).toNat : Int) := by omega
  by_cases hbig : 65536 < unLen l
  · rw [if_pos hbig]
    exact (UnframeRef_long A0 c0 l w hr0 hc0 hb (by omega) hs0 _ hN (by omega)).mono fun e w' ⟨h, k⟩ => ⟨_, h, Own.nil _ _, k⟩
  rw [if_neg hbig]
  by_cases hsh : l.length < (unLen l).toNat + 7
  · rw [if_pos hsh]
    exact (UnframeRef_short A0 c0 l w hr0 hc0 hb (by omega) hs0 _ hN (by omega) (by omega)).mono fun e w' ⟨h, k⟩ => ⟨_, h, Own.nil _ _, k⟩
  rw [if_neg hsh]
  by_cases he : frameOf (unMid l) = l.take ((unLen l).toNat + 7)
  · rw [if_pos he]
    refine (UnframeRef_ok A0 c0 l w hr0 hc0 hb (by omega) hs0 _ hN (by omega) (by omega) he).mono fun e w' ⟨v, h, k, b⟩ => ⟨v, ?_, k, b⟩
    rw [h]
    simp only
    rw [← hN]
  · rw [if_neg he]
    exact (UnframeRef_sum A0 c0 l w hr0 hc0 hb (by omega) hs0 _ hN (by omega) (by omega) he).mono fun e w' ⟨h, k⟩ => ⟨_, h, Own.nil _ _, k⟩
end Go.Proofs.Ythbdgakeglppbaa
