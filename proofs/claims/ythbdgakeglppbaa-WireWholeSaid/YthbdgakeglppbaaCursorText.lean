/- wire.Cursor: Number, Text. -/
import Derived.Test.YthbdgakeglppbaaCursorNum
import Derived.Test.YthbdgakeglppbaaUnframeRef
namespace Go.Proofs.Ythbdgakeglppbaa
open Go.RowKit Go.Proofs.YthbdgakeglppbaaW.PrintWords Go.Proofs.YthbdgakeglppbaaW.PrintMore
attribute [local go_sem] max2_int max_two
set_option maxHeartbeats 400000 in
theorem CNumber_bad {g p : Nat} {A : Option Addr} {n c : Nat} {l : List Int} {a : Nat} (w : World) (h : Cur w g p A n c l a) (hb : Bytes l) (E : Int) (hE : E ≠ 0) (hr : readNum (l.drop a) = (0, 0, E)) :
    Calls Try.prog 43 #[.pointer (some ⟨g, 0, none⟩)] w fun e w' => e = .returned (.tuple #[.int .i64 0, .int .i64 E]) ∧ Drawn0 w w' := by
  have H := Lib.hid h
  have HY := Lib.hid hb
  have hd : (E == 0) = false := beq_eq_false_iff_ne.2 hE
  have HR := Lib.hid hr
  clear h hb hr
  go_enter Try.func43, Try.ntmps43
  go_wp2_with fail
  refine (peek_calls _ H.out HY.out).mono ?_
  rw [HR.out]
  rintro e w1 ⟨rfl, hd1⟩
  have HD := Lib.hid hd1
  clear hd1
  go_wp2
  go_ret2
  exact ⟨rfl, HD.out⟩
set_option maxHeartbeats 400000 in
theorem CNumber_ok {g p : Nat} {A : Option Addr} {n c : Nat} {l : List Int} {a : Nat} (w : World) (h : Cur w g p A n c l a) (hb : Bytes l) (N : Int) (K : Nat) (hr : readNum (l.drop a) = (N, (K : Int), 0)) :
    Calls Try.prog 43 #[.pointer (some ⟨g, 0, none⟩)] w fun e w' => e = .returned (.tuple #[.int .i64 N, .int .i64 0]) ∧ Cur w' g p A n c l (a + K) ∧ w.grownBy w' (some p) := by
  have H := Lib.hid h
  have HY := Lib.hid hb
  have hk := readNum_ok _ (hb.dp a) (by rw [hr])
  rw [hr] at hk
  have hlen := Kd.C_len h.row
  have hm := Kd.C_max h.row
  have hle := h.le
  have hk1 : 1 ≤ (K : Int) := hk.1
  have hk2 : (K : Int) ≤ (l.drop a).length := hk.2.1
  rw [List.length_drop, hlen] at hk2
  have HR := Lib.hid hr
  have hw := wrap_id (x := (a : Int) + K) (by omega) (by omega)
  clear h hb hr hk hlen
  go_enter Try.func43, Try.ntmps43
  go_wp2_with fail
  refine (peek_calls _ H.out HY.out).mono ?_
  rw [HR.out]
  rintro e w1 ⟨rfl, hd1⟩
  have H2 := Lib.hid (H.out.below hd1.below)
  have HG := Lib.hid (Lib.grownBy_below (World.grownBy.refl w (some p)) hd1.below)
  have x0 := H2.out.x0
  have x1 := H2.out.x1
  have x2 := H2.out.x2
  have f2 := H2.out.f2
  clear hd1
  go_wp2
  go_ret2
  refine ⟨rfl, ?_, Lib.grownBy_setB HG.out 1 _⟩
  have := H2.out.set (a + K) (by omega)
  rwa [show ((a + K : Nat) : Int) = (a : Int) + K by omega] at this
set_option maxHeartbeats 400000 in
theorem CText_bad {g p : Nat} {A : Option Addr} {n c : Nat} {l : List Int} {a : Nat} (most : Int) (w : World) (h : Cur w g p A n c l a) (hb : Bytes l) (E : Int) (hE : E ≠ 0) (hr : readNum (l.drop a) = (0, 0, E)) :
    Calls Try.prog 44 #[.pointer (some ⟨g, 0, none⟩), .int .i64 most] w fun e w' => e = .returned (.tuple #[.string ByteArray.empty, .int .i64 E]) ∧ Drawn0 w w' := by
  have H := Lib.hid h
  have HY := Lib.hid hb
  have hd : (E == 0) = false := beq_eq_false_iff_ne.2 hE
  have hd2 : (E != 0) = true := by rw [bne, hd]; rfl
  have HR := Lib.hid hr
  clear h hb hr
  go_enter Try.func44, Try.ntmps44
  go_wp2_with fail
  refine (peek_calls _ H.out HY.out).mono ?_
  rw [HR.out]
  rintro e w1 ⟨rfl, hd1⟩
  have HD := Lib.hid hd1
  clear hd1
  go_wp2
  go_ret2
  exact ⟨rfl, HD.out⟩
set_option maxHeartbeats 400000 in
theorem CText_long {g p : Nat} {A : Option Addr} {n c : Nat} {l : List Int} {a : Nat} (most : Int) (w : World) (h : Cur w g p A n c l a) (hb : Bytes l) (N : Int) (K : Nat) (hr : readNum (l.drop a) = (N, (K : Int), 0)) (hbig : max most 0 < N) :
    Calls Try.prog 44 #[.pointer (some ⟨g, 0, none⟩), .int .i64 most] w fun e w' => e = .returned (.tuple #[.string ByteArray.empty, .int .i64 4]) ∧ Drawn0 w w' := by
  have H := Lib.hid h
  have HY := Lib.hid hb
  have HR := Lib.hid hr
  clear h hb hr
  by_cases hs : most < 0
  case' pos => have hd : decide (0 < N) = true := decide_eq_true (by omega)
  case' neg => have hd : decide (most < N) = true := decide_eq_true (by omega)
  all_goals
    clear hbig
    go_enter Try.func44, Try.ntmps44
    go_wp2_with fail
    refine (peek_calls _ H.out HY.out).mono ?_
    rw [HR.out]
    rintro e w1 ⟨rfl, hd1⟩
    have HD := Lib.hid hd1
    clear hd1
    go_wp2
    go_ret2
    exact ⟨rfl, HD.out⟩
set_option maxHeartbeats 800000 in
theorem CText_short {g p : Nat} {A : Option Addr} {n c : Nat} {l : List Int} {a : Nat} (most : Int) (w : World) (h : Cur w g p A n c l a) (hb : Bytes l) (N : Int) (K : Nat) (hr : readNum (l.drop a) = (N, (K : Int), 0)) (hsm : ¬ max most 0 < N) (hsh : (n : Int) - a - K < N) :
    Calls Try.prog 44 #[.pointer (some ⟨g, 0, none⟩), .int .i64 most] w fun e w' => e = .returned (.tuple #[.string ByteArray.empty, .int .i64 2]) ∧ Drawn0 w w' := by
  have H := Lib.hid h
  have HY := Lib.hid hb
  have HR := Lib.hid hr
  have hk := readNum_ok _ (hb.dp a) (by rw [hr])
  rw [hr] at hk
  have hlen := Kd.C_len h.row
  have hm := Kd.C_max h.row
  have hle := h.le
  have hk1 : 1 ≤ (K : Int) := hk.1
  have hk2 : (K : Int) ≤ (l.drop a).length := hk.2.1
  rw [List.length_drop, hlen] at hk2
  have hw := wrap_id (x := (n : Int) - a - K) (by omega) (by omega)
  have hq : decide ((n : Int) - a - K < N) = true := decide_eq_true hsh
  clear h hb hr hk hlen
  by_cases hs : most < 0
  case' pos => have hd : decide (0 < N) = false := decide_eq_false (by omega)
  case' neg => have hd : decide (most < N) = false := decide_eq_false (by omega)
  all_goals
    clear hsm
    go_enter Try.func44, Try.ntmps44
    go_wp2_with fail
    refine (peek_calls _ H.out HY.out).mono ?_
    rw [HR.out]
    rintro e w1 ⟨rfl, hd1⟩
    have HD := Lib.hid hd1
    have H2 := Lib.hid (H.out.below hd1.below)
    have x0 := H2.out.x0
    clear hd1
    go_wp2_with fail
    refine (left_calls _ H2.out).mono ?_
    rintro e w2 ⟨rfl, hd2⟩
    have HD2 := Lib.hid (Drawn0.trans HD.out hd2)
    clear hd2
    go_wp2
    go_ret2
    exact ⟨rfl, HD2.out⟩
set_option maxHeartbeats 1600000 in
theorem CText_ok {g p : Nat} {A : Option Addr} {n c : Nat} {l : List Int} {a : Nat} (most : Int) (w : World) (h : Cur w g p A n c l a) (hb : Bytes l) (N : Int) (K : Nat) (hr : readNum (l.drop a) = (N, (K : Int), 0)) (M : Nat) (hM : N = M) (hsm : ¬ max most 0 < N) (hsh : a + K + M ≤ n) :
    Calls Try.prog 44 #[.pointer (some ⟨g, 0, none⟩), .int .i64 most] w fun e w' => e = .returned (.tuple #[.string (strOfNums ((l.take (a + (K + M))).drop (a + K))), .int .i64 0]) ∧ Cur w' g p A n c l (a + (K + M)) ∧ w.grownBy w' (some p) := by
  subst hM
  have H := Lib.hid h
  have HY := Lib.hid hb
  have HR := Lib.hid hr
  have hk := readNum_ok _ (hb.dp a) (by rw [hr])
  rw [hr] at hk
  have hlen := Kd.C_len h.row
  have hm := Kd.C_max h.row
  have hle := h.le
  have hk1 : 1 ≤ (K : Int) := hk.1
  have hk2 : (K : Int) ≤ (l.drop a).length := hk.2.1
  have hcap := h.cap
  rw [List.length_drop, hlen] at hk2
  have hw := wrap_id (x := (n : Int) - a - K) (by omega) (by omega)
  have hq : decide ((n : Int) - a - K < M) = false := decide_eq_false (by omega)
  have hw2 := wrap_id (x := (K : Int) + M) (by omega) (by omega)
  have hw3 := wrap_id (x := (a : Int) + ((K : Int) + M)) (by omega) (by omega)
  have e1 : ((a + (K + M) : Nat) : Int) = (a : Int) + ((K : Int) + M) := by omega
  have HE1 := Lib.hid e1
  obtain ⟨ad, rfl, _⟩ := Rd.cells h.row (by omega)
  clear h hb hr hk hlen e1
  by_cases hs : most < 0
  case' pos => have hd : decide (0 < M) = false := decide_eq_false (by omega)
  case' neg => have hd : decide (most < (M : Int)) = false := decide_eq_false (by omega)
  all_goals
    clear hsm
    go_enter Try.func44, Try.ntmps44
    go_wp2_with fail
    refine (peek_calls _ H.out HY.out).mono ?_
    rw [HR.out]
    rintro e w1 ⟨rfl, hd1⟩
    have HD := Lib.hid hd1
    have H2 := Lib.hid (H.out.below hd1.below)
    have x0 := H2.out.x0
    clear hd1
    go_wp2_with fail
    refine (left_calls _ H2.out).mono ?_
    rintro e w2 ⟨rfl, hd2⟩
    have HD2 := Lib.hid (Drawn0.trans HD.out hd2)
    have H3 := Lib.hid (H2.out.below hd2.below)
    clear hd2 x0
    have x0 := H3.out.x0
    have x1 := H3.out.x1
    have x2 := H3.out.x2
    have f2 := H3.out.f2
    go_wp2_with fail
    have H4 : Cur (w2.setCell ⟨p, 1, none⟩ (.int .i64 ((a : Int) + ((K : Int) + M)))) g p (some ad) n c l (a + (K + M)) := by
      have := H3.out.set (a + (K + M)) (by omega)
      rwa [HE1.out] at this
    have hg4 : w.grownBy (w2.setCell ⟨p, 1, none⟩ (.int .i64 ((a : Int) + ((K : Int) + M)))) (some p) := Lib.grownBy_setB (Lib.grownBy_below (World.grownBy.refl w (some p)) HD2.out.below) 1 _
    obtain ⟨w4, hw4⟩ : ∃ w4, w4 = w2.setCell ⟨p, 1, none⟩ (.int .i64 ((a : Int) + ((K : Int) + M))) := ⟨_, rfl⟩
    rw [← hw4] at H4 hg4 ⊢
    clear hw4 x0 x1 x2 f2
    have x0 := H4.x0
    have x1 := H4.x1
    have x2 := H4.x2
    rw [HE1.out] at x2
    have H5 := Lib.hid H4
    have HG5 := Lib.hid hg4
    clear H4 hg4
    have g1 : IntKind.i64.wrap ((a : Int) + ((K : Int) + M) - M) = (a : Int) + K := by rw [wrap_id (by omega) (by omega)]; omega
    have g3 : (0 : Int) ≤ (a : Int) + K := by omega
    have g4 : (0 : Int) ≤ (a : Int) + ((K : Int) + M) := by omega
    have g5 : (a : Int) + K ≤ c := by omega
    have g6 : (a : Int) + ((K : Int) + M) ≤ c := by omega
    have g7 : (a : Int) + K ≤ (a : Int) + ((K : Int) + M) := by omega
    have g8 : ((a : Int) + K).toNat = a + K := by omega
    have g9 : ((a : Int) + ((K : Int) + M)).toNat = a + (K + M) := by omega
    have g11 : a + (K + M) - (a + K) = M := by omega
    have HT := Lib.hid (show ∀ W, Below w4.heap.size w4 W → Rd W (some (ad.add (a + K))) M ((l.take (a + (K + M))).drop (a + K)) from fun W hb => by
      have hq := Rd.mid (x := ad.add (a + K)) (Kd.C_below H5.out.row hb) (a + K) (a + (K + M)) (by omega) (by omega) (fun _ => rfl)
      rwa [show a + (K + M) - (a + K) = M by omega] at hq)
    have k0 := fun i => Kd.C_string (P := Try.prog) (src := 22) (dst := 9) (e := 5) Try.underlying22 Try.underlying5 Try.underlying9 (c := c - (a + K)) (HT.out (w4.drewN i) (pw_below_drewN (Below.refl _ _) _))
    by_cases hc : c = a + K
    · obtain rfl : M = 0 := by omega
      subst hc
      clear g1 g3 g4 g5 g6 g7 g8 g9 g11 hw2 hw3 hw
      have g1 : IntKind.i64.wrap ((a : Int) + K) = a + K := wrap_id (by omega) (by omega)
      have g3 : (0 : Int) ≤ (a : Int) + K := by omega
      have g8 : ((a : Int) + K).toNat = a + K := by omega
      have k1 := fun i => Kd.C_string (P := Try.prog) (src := 22) (dst := 9) (e := 5) Try.underlying22 Try.underlying5 Try.underlying9 (c := 0) (Rd.empty (w4.drewN i) (some ad))
      clear k0
      have HNL := Lib.hid (show (l.take (a + (K + 0))).drop (a + K) = [] from List.drop_eq_nil_of_le (by rw [List.length_take]; omega))
      go_quiet (fail)
      go_wp2
      go_ret2
      exact ⟨by rw [HNL.out]; rfl, H5.out.below (pw_below_drewN (Below.refl _ _) _), Lib.grownBy_below HG5.out (pw_below_drewN (Below.refl _ _) _)⟩
    · go_quiet (fail)
      go_wp2
      go_ret2
      exact ⟨rfl, H5.out.below (pw_below_drewN (Below.refl _ _) _), Lib.grownBy_below HG5.out (pw_below_drewN (Below.refl _ _) _)⟩
end Go.Proofs.Ythbdgakeglppbaa
