/- The texts Peek, CursorNum in one. -/
import Derived.Test.YtcgenmogedndjaaDoorG01
import Derived.Test.YtcgenmogedndjaaDoorG10
namespace Go.Proofs.YtcgenmogedndjaaDoor
open Go.RowKit Go.Proofs.YtcgenmogedndjaaDoorW.PrintWords
def valOf (l : List Int) : Int := l.foldl (fun x d => 256 * x + d) 0
/-- The number with which bytes begin, how many bytes it has, or why there is none. -/
def readNum : List Int → Int × Int × Int
  | [] => (0, 0, 2)
  | b :: t =>
    if b ≤ 247 then (b, 1, 0)
    else if t.length < (b - 247).toNat then (0, 0, 2)
    else if valOf (t.take (b - 247).toNat) ≤ 247 ∨ valOf (t.take (b - 247).toNat) / 256 ^ ((b - 247).toNat - 1) = 0 then (0, 0, 10)
    else if 9223372036854775808 ≤ valOf (t.take (b - 247).toNat) then (0, 0, 5)
    else (valOf (t.take (b - 247).toNat), b - 246, 0)
theorem valOf_snoc (l : List Int) (d : Int) : valOf (l ++ [d]) = 256 * valOf l + d := by
  unfold valOf
  rw [List.foldl_append]
  rfl
theorem foldl_range (l : List Int) (h : Bytes l) : ∀ x : Int, 0 ≤ x → 0 ≤ l.foldl (fun x d => 256 * x + d) x ∧ l.foldl (fun x d => 256 * x + d) x < (x + 1) * 256 ^ l.length := by
  induction l with
  | nil => intro x hx; simp; omega
  | cons d t ih =>
    intro x hx
    have hd := h d (by simp)
    have h1 := ih (fun y hy => h y (by simp [hy])) (256 * x + d) (by omega)
    rw [List.foldl_cons, List.length_cons, Int.pow_succ]
    refine ⟨h1.1, Int.lt_of_lt_of_le h1.2 ?_⟩
    have hp : (0 : Int) ≤ 256 ^ t.length := Int.pow_nonneg (by decide)
    have h2 := Int.mul_le_mul_of_nonneg_right (show 256 * x + d + 1 ≤ (x + 1) * 256 by omega) hp
    rw [show (x + 1) * (256 ^ t.length * 256) = (x + 1) * 256 * 256 ^ t.length by rw [Int.mul_comm (256 ^ t.length) 256, Int.mul_assoc]]
    exact h2
theorem valOf_range (l : List Int) (h : Bytes l) : 0 ≤ valOf l ∧ valOf l < 256 ^ l.length := by
  have := foldl_range l h 0 (by omega)
  simpa [valOf] using this
theorem pow256 (j : Nat) (h : j ≤ 7) : (256 : Int) ^ j ≤ 72057594037927936 := by
  have hj : j = 0 ∨ j = 1 ∨ j = 2 ∨ j = 3 ∨ j = 4 ∨ j = 5 ∨ j = 6 ∨ j = 7 := by omega
  rcases hj with rfl | rfl | rfl | rfl | rfl | rfl | rfl | rfl
  all_goals decide
theorem or_u64 (a b : Nat) (ha : a < 18446744073709551616) (hb : b < 18446744073709551616) : bits .or .u64 a b = ((a ||| b : Nat) : Int) := (bits_nat .u64 64 (by decide) (fun n h₀ h₁ => by rw [IntKind.wrap_u64]; omega) a b ha hb).2
theorem or_byte_u64 (x d : Int) (x0 : 0 ≤ x) (x1 : x < 72057594037927936) (d0 : 0 ≤ d) (d1 : d < 256) : bits .or .u64 (x * 256) d = 256 * x + d := by
  obtain ⟨m, rfl⟩ := Int.eq_ofNat_of_zero_le x0
  obtain ⟨k, rfl⟩ := Int.eq_ofNat_of_zero_le d0
  rw [show (m : Int) * 256 = ((m * 256 : Nat) : Int) by omega, or_u64 _ _ (by omega) (by omega), show m * 256 = m <<< 8 by rw [Nat.shiftLeft_eq], ← Nat.shiftLeft_add_eq_or_of_lt (by omega), Nat.shiftLeft_eq]
  omega
set_option maxHeartbeats 400000 in
theorem peek_none {g p : Nat} {A : Option Addr} {n c : Nat} {l : List Int} {a : Nat} (w : World) (h : Cur w g p A n c l a) (ha : a = n) :
    Calls Tryd.prog 64 #[.pointer (some ⟨g, 0, none⟩)] w fun e w' => e = .returned (.tuple #[.int .i64 0, .int .i64 0, .int .i64 2]) ∧ Drawn0 w w' := by
  have H := Lib.hid h
  have x0 := h.x0
  have hd : ((n : Int) - a == 0) = true := by rw [ha, Int.sub_self]; rfl
  clear h ha
  go_enter Tryd.func64, Tryd.ntmps64
  go_wp2_with fail
  refine (made_calls _ H.out).mono ?_
  rintro e w1 ⟨rfl, rfl⟩
  go_wp2_with fail
  refine (left_calls _ H.out).mono ?_
  rintro e w2 ⟨rfl, hd2⟩
  have HD := Lib.hid hd2
  clear hd2
  go_wp2
  go_ret3
  exact ⟨rfl, HD.out⟩
set_option maxHeartbeats 400000 in
theorem peek_one {g p : Nat} {A : Option Addr} {n c : Nat} {l : List Int} {a : Nat} (w : World) (h : Cur w g p A n c l a) (hb : Bytes l) (ha : a < n) (hfst : rd l a ≤ 247) :
    Calls Tryd.prog 64 #[.pointer (some ⟨g, 0, none⟩)] w fun e w' => e = .returned (.tuple #[.int .i64 (rd l a), .int .i64 1, .int .i64 0]) ∧ Drawn0 w w' := by
  have H := Lib.hid h
  have x0 := h.x0
  have hd : ((n : Int) - a == 0) = false := beq_eq_false_iff_ne.2 (by omega)
  have hm := Kd.C_max h.row
  have hcap := h.cap
  have hlen := Kd.C_len h.row
  obtain ⟨b0, b1⟩ := bytes_rd hb a (by omega)
  obtain ⟨ad, rfl, hcell⟩ := Rd.cells h.row (by omega)
  have HC := Lib.hid hcell
  have HY := Lib.hid hb
  have HL := Lib.hid hlen
  obtain ⟨b, hbq⟩ : ∃ b, b = rd l a := ⟨_, rfl⟩
  rw [← hbq] at b0 b1 hfst
  have hw3 := wrap_id b0 (by omega)
  have HBQ := Lib.hid hbq
  have i0 : (a : Int) < n := by omega
  clear h hb hlen hcell hbq
  have hq : decide (b ≤ 247) = true := decide_eq_true hfst
  go_enter Tryd.func64, Tryd.ntmps64
  go_wp2_with fail
  refine (made_calls _ H.out).mono ?_
  rintro e w1 ⟨rfl, rfl⟩
  go_wp2_with fail
  refine (left_calls _ H.out).mono ?_
  rintro e w2 ⟨rfl, hd2⟩
  have H2 := Lib.hid (H.out.below hd2.below)
  have HD2 := Lib.hid hd2
  clear x0 hd2
  have x0 := H2.out.x0
  have x1 := H2.out.x1
  have x2 := H2.out.x2
  obtain ⟨ad', e, hcell⟩ := Rd.cells H2.out.row (by omega)
  cases e
  have hx := hcell a (by omega)
  rw [show rd l a = b from HBQ.out.symm] at hx
  clear hcell
  go_wp2_with fail
  go_quiet (fail)
  go_wp2
  go_ret3
  exact ⟨HBQ.out ▸ rfl, HD2.out.step _⟩
set_option maxHeartbeats 400000 in
theorem peek_short {g p : Nat} {A : Option Addr} {n c : Nat} {l : List Int} {a : Nat} (w : World) (h : Cur w g p A n c l a) (hb : Bytes l) (ha : a < n) (hfst : 247 < rd l a) (hsh : (n : Int) - a ≤ rd l a - 247) :
    Calls Tryd.prog 64 #[.pointer (some ⟨g, 0, none⟩)] w fun e w' => e = .returned (.tuple #[.int .i64 0, .int .i64 0, .int .i64 2]) ∧ Drawn0 w w' := by
  have H := Lib.hid h
  have x0 := h.x0
  have hd : ((n : Int) - a == 0) = false := beq_eq_false_iff_ne.2 (by omega)
  have hm := Kd.C_max h.row
  have hcap := h.cap
  have hlen := Kd.C_len h.row
  obtain ⟨b0, b1⟩ := bytes_rd hb a (by omega)
  obtain ⟨ad, rfl, hcell⟩ := Rd.cells h.row (by omega)
  have HC := Lib.hid hcell
  have HY := Lib.hid hb
  have HL := Lib.hid hlen
  obtain ⟨b, hbq⟩ : ∃ b, b = rd l a := ⟨_, rfl⟩
  rw [← hbq] at b0 b1 hfst hsh
  have hw3 := wrap_id b0 (by omega)
  have HBQ := Lib.hid hbq
  have i0 : (a : Int) < n := by omega
  clear h hb hlen hcell hbq
  have hq : decide (b ≤ 247) = false := decide_eq_false (by omega)
  have hq2 : decide ((n : Int) - a ≤ b - 247) = true := decide_eq_true hsh
  have hw4 := wrap_id (x := b - 247) (by omega) (by omega)
  go_enter Tryd.func64, Tryd.ntmps64
  go_wp2_with fail
  refine (made_calls _ H.out).mono ?_
  rintro e w1 ⟨rfl, rfl⟩
  go_wp2_with fail
  refine (left_calls _ H.out).mono ?_
  rintro e w2 ⟨rfl, hd2⟩
  have H2 := Lib.hid (H.out.below hd2.below)
  have HD2 := Lib.hid hd2
  clear x0 hd2
  have x0 := H2.out.x0
  have x1 := H2.out.x1
  have x2 := H2.out.x2
  obtain ⟨ad', e, hcell⟩ := Rd.cells H2.out.row (by omega)
  cases e
  have hx := hcell a (by omega)
  rw [show rd l a = b from HBQ.out.symm] at hx
  clear hcell
  go_wp2_with fail
  go_quiet (fail)
  go_wp2_with fail
  clear x1 x2 hx
  refine (left_calls _ (H2.out.below (pw_below_drewN (Below.refl _ _) _))).mono ?_
  rintro e w3 ⟨rfl, hd3⟩
  have HD4 := Lib.hid (Drawn0.trans (HD2.out.step _) hd3)
  clear hd3
  go_wp2
  go_ret3
  exact ⟨rfl, HD4.out⟩
set_option maxHeartbeats 4000000 in
theorem peek_long {g p : Nat} {A : Option Addr} {n c : Nat} {l : List Int} {a : Nat} (w : World) (h : Cur w g p A n c l a) (hb : Bytes l) (m : Nat) (hm1 : 1 ≤ m) (hm8 : m ≤ 8) (hfst : rd l a = 247 + (m : Int)) (hsh : a + 1 + m ≤ n) (x : Int) (hx : x = valOf ((l.take (a + 1 + m)).drop (a + 1))) (res : Value)
    (hres : (((x ≤ 247 ∨ x / 256 ^ (m - 1) = 0) ∧ res = .tuple #[.int .i64 0, .int .i64 0, .int .i64 10]) ∨ (¬ (x ≤ 247 ∨ x / 256 ^ (m - 1) = 0) ∧ 9223372036854775808 ≤ x ∧ res = .tuple #[.int .i64 0, .int .i64 0, .int .i64 5]) ∨ (¬ (x ≤ 247 ∨ x / 256 ^ (m - 1) = 0) ∧ x < 9223372036854775808 ∧ res = .tuple #[.int .i64 x, .int .i64 ((m : Int) + 1), .int .i64 0]))) :
    Calls Tryd.prog 64 #[.pointer (some ⟨g, 0, none⟩)] w fun e w' => e = .returned res ∧ Drawn0 w w' := by
  have H := Lib.hid h
  have x0 := h.x0
  have ha : a < n := by omega
  have hd : ((n : Int) - a == 0) = false := beq_eq_false_iff_ne.2 (by omega)
  have hm := Kd.C_max h.row
  have hcap := h.cap
  have hlen := Kd.C_len h.row
  obtain ⟨b0, b1⟩ := bytes_rd hb a (by omega)
  obtain ⟨ad, rfl, hcell⟩ := Rd.cells h.row (by omega)
  have HC := Lib.hid hcell
  have HY := Lib.hid hb
  have HL := Lib.hid hlen
  obtain ⟨b, hbq⟩ : ∃ b, b = rd l a := ⟨_, rfl⟩
  rw [← hbq] at b0 b1 hfst
  have hw3 := wrap_id b0 (by omega)
  have HBQ := Lib.hid hbq
  have i0 : (a : Int) < n := by omega
  clear h hb hlen hcell hbq
  obtain rfl : b = 247 + (m : Int) := hfst
  have hq : decide (247 + (m : Int) ≤ 247) = false := decide_eq_false (by omega)
  have hq2 : decide ((n : Int) - a ≤ m) = false := decide_eq_false (by omega)
  have hw4 : IntKind.i64.wrap (247 + (m : Int) - 247) = m := by rw [wrap_id (by omega) (by omega)]; omega
  have HRES := Lib.hid hres
  obtain ⟨t, ht⟩ : ∃ t, t = (l.take (a + 1 + m)).drop (a + 1) := ⟨_, rfl⟩
  rw [← ht] at hx
  have HT := Lib.hid ht
  have HTL := Lib.hid (show t.length = m by rw [ht, List.length_drop, List.length_take, HL.out]; omega)
  have HTB := Lib.hid (show Bytes t from ht ▸ (HY.out.tk _).dp _)
  have HX := Lib.hid hx
  clear hres ht hx
  go_enter Tryd.func64, Tryd.ntmps64
  go_wp2_with fail
  refine (made_calls _ H.out).mono ?_
  rintro e w1 ⟨rfl, rfl⟩
  go_wp2_with fail
  refine (left_calls _ H.out).mono ?_
  rintro e w2 ⟨rfl, hd2⟩
  have H2 := Lib.hid (H.out.below hd2.below)
  have HD2 := Lib.hid hd2
  clear x0 hd2
  have x0 := H2.out.x0
  have x1 := H2.out.x1
  have x2 := H2.out.x2
  obtain ⟨ad', e, hcell⟩ := Rd.cells H2.out.row (by omega)
  cases e
  have hx := hcell a (by omega)
  rw [show rd l a = 247 + (m : Int) from HBQ.out.symm] at hx
  clear hcell
  go_wp2_with fail
  go_quiet (fail)
  go_wp2_with fail
  clear x1 x2 hx
  refine (left_calls _ (H2.out.below (pw_below_drewN (Below.refl _ _) _))).mono ?_
  rintro e w3 ⟨rfl, hd3⟩
  have HD4 := Lib.hid (Drawn0.trans (HD2.out.step _) hd3)
  have H4 := Lib.hid (Cur.below (H2.out.below (pw_below_drewN (Below.refl _ _) _)) hd3.below)
  clear hd3 x0
  have x0 := H4.out.x0
  have x1 := H4.out.x1
  have x2 := H4.out.x2
  have g1 := wrap_id (x := (a : Int) + 1) (by omega) (by omega)
  have g2 := wrap_id (x := (a : Int) + 1 + m) (by omega) (by omega)
  have g3 : (0 : Int) ≤ (a : Int) + 1 := by omega
  have g4 : (0 : Int) ≤ (a : Int) + 1 + m := by omega
  have g5 : (a : Int) + 1 ≤ c := by omega
  have g6 : (a : Int) + 1 + m ≤ c := by omega
  have g7 : (a : Int) + 1 ≤ (a : Int) + 1 + m := by omega
  have g8 : ((a : Int) + 1).toNat = a + 1 := by omega
  have g9 : ((a : Int) + 1 + m).toNat = a + 1 + m := by omega
  have g10 : ¬ c = a + 1 := by omega
  have g11 : a + 1 + m - (a + 1) = m := by omega
  go_wp2_with fail
  go_quiet (fail)
  clear x0 x1 x2 g1 g2 g3 g4 g5 g6 g7 g8 g9 g10 g11
  have HROW := Lib.hid (fun (W : World) (hb : Below w3.heap.size w3 W) => (show Rd W (some ⟨ad.block, ad.off + (a + 1), none⟩) m t by
    have hq := Rd.mid (x := ⟨ad.block, ad.off + (a + 1), none⟩) (Kd.C_below H4.out.row hb) (a + 1) (a + 1 + m) (by omega) hsh (fun _ => by show _ = (if a + 1 = 0 then _ else _); rw [if_neg (by omega)])
    rwa [← HT.out, show a + 1 + m - (a + 1) = m by omega] at hq))
  go_wp2_with fail
  obtain ⟨bd, hbd⟩ : ∃ bd : Addr, bd = ⟨ad.block, ad.off + (a + 1), none⟩ := ⟨_, rfl⟩
  rw [← hbd] at HROW ⊢
  clear hbd
  go_loopw [7, 77] (fun v i wr => ∃ (j : Nat) (y : Int), j ≤ m ∧ i = .int .i64 j ∧ v = .int .u64 y ∧ Hid (y = valOf (t.take j)) ∧ Hid (Drawn0 w1 wr) ∧ Hid (Below w3.heap.size w3 wr)) (fun _ i _ => m - (intOf i).toNat)
  case atStart => exact ⟨0, 0, by omega, rfl, rfl, Lib.hid rfl, Lib.hid (HD4.out.step _), Lib.hid (pw_below_drewN (Below.refl _ _) _)⟩
  case round =>
    obtain ⟨j, y, hj, rfl, rfl, HYJ, HD, HB⟩ := hrel
    have HRW := Lib.hid (HROW.out _ HB.out)
    by_cases hjm : j < m
    · obtain ⟨ad', e, hx⟩ := Kd.at_int HRW.out j (by omega) (by omega)
      cases e
      rw [show ((j : Int)).toNat = j from rfl] at hx
      obtain ⟨d0, d1⟩ := bytes_rd HTB.out j (by rw [HTL.out]; exact hjm)
      have hstep : valOf (t.take (j + 1)) = 256 * y + rd t j := by
        rw [List.take_add_one, List.getElem?_eq_getElem (by rw [HTL.out]; exact hjm), rd_get t j (by rw [HTL.out]; exact hjm), HYJ.out]
        exact valOf_snoc _ _
      have hyr := valOf_range (t.take j) (HTB.out.tk j)
      rw [← HYJ.out, List.length_take, HTL.out, Nat.min_eq_left hj] at hyr
      have hp := pow256 j (by omega)
      obtain ⟨y0, y1'⟩ := hyr
      have y1 : y < 72057594037927936 := Int.lt_of_lt_of_le y1' hp
      obtain ⟨d, hd'⟩ : ∃ d, d = rd t j := ⟨_, rfl⟩
      rw [← hd'] at hx d0 d1 hstep
      have HSTEP := Lib.hid hstep
      have hor := or_byte_u64 y d y0 y1 d0 d1
      have hwd : IntKind.u64.wrap d = d := by rw [IntKind.wrap_u64]; omega
      clear hstep hd' hp y1'
      go_wp2
      go_roundw
      case rel => exact ⟨j + 1, 256 * y + d, by omega, by go_num, by first | rfl | (rw [hor]), Lib.hid HSTEP.out.symm, HD, HB⟩
      case measure => simp [intOf]; omega
    · obtain rfl : j = m := by omega
      have hyx : y = x := by rw [HYJ.out, HX.out, List.take_of_length_le (by rw [HTL.out]; exact Nat.le_refl _)]
      subst hyx
      have hyr := valOf_range t HTB.out
      rw [← HX.out, HTL.out] at hyr
      have hj8 : j = 1 ∨ j = 2 ∨ j = 3 ∨ j = 4 ∨ j = 5 ∨ j = 6 ∨ j = 7 ∨ j = 8 := by omega
      clear hsh hq hq2 hw4 i0
      rcases hj8 with rfl | rfl | rfl | rfl | rfl | rfl | rfl | rfl
      · have hres := HRES.out
        rw [show (256 : Int) ^ (1 - 1) = 1 by decide] at hres
        rw [show (256 : Int) ^ 1 = 256 by decide] at hyr
        rcases hres with ⟨hc, rfl⟩ | ⟨hc, hc2, rfl⟩ | ⟨hc, hc2, rfl⟩
        · by_cases e1 : y ≤ 247
          · have d1 : decide (y ≤ 247) = true := decide_eq_true e1
            go_wp2
            go_ret3
            exact ⟨rfl, HD.out⟩
          · have d1 : decide (y ≤ 247) = false := decide_eq_false e1
            have d2 : (y == 0) = true := beq_iff_eq.2 (by omega)
            go_wp2
            go_ret3
            exact ⟨rfl, HD.out⟩
        · have d1 : decide (y ≤ 247) = false := decide_eq_false (by omega)
          have d2 : (y == 0) = false := beq_eq_false_iff_ne.2 (by omega)
          have d3 : (y / 9223372036854775808 == 0) = false := beq_eq_false_iff_ne.2 (by omega)
          have d4 : (y / 9223372036854775808 != 0) = true := by rw [bne, d3]; rfl
          go_wp2
          go_ret3
          exact ⟨rfl, HD.out⟩
        · have d1 : decide (y ≤ 247) = false := decide_eq_false (by omega)
          have d2 : (y == 0) = false := beq_eq_false_iff_ne.2 (by omega)
          have d3 : (y / 9223372036854775808 == 0) = true := beq_iff_eq.2 (by omega)
          have d4 : (y / 9223372036854775808 != 0) = false := by rw [bne, d3]; rfl
          have d5 : IntKind.i64.wrap y = y := wrap_id (by omega) (by omega)
          go_wp2
          go_ret3
          exact ⟨rfl, HD.out⟩
      · have hres := HRES.out
        rw [show (256 : Int) ^ (2 - 1) = 256 by decide] at hres
        rw [show (256 : Int) ^ 2 = 65536 by decide] at hyr
        rcases hres with ⟨hc, rfl⟩ | ⟨hc, hc2, rfl⟩ | ⟨hc, hc2, rfl⟩
        · by_cases e1 : y ≤ 247
          · have d1 : decide (y ≤ 247) = true := decide_eq_true e1
            go_wp2
            go_ret3
            exact ⟨rfl, HD.out⟩
          · have d1 : decide (y ≤ 247) = false := decide_eq_false e1
            have d2 : (y / 256 == 0) = true := beq_iff_eq.2 (by omega)
            go_wp2
            go_ret3
            exact ⟨rfl, HD.out⟩
        · have d1 : decide (y ≤ 247) = false := decide_eq_false (by omega)
          have d2 : (y / 256 == 0) = false := beq_eq_false_iff_ne.2 (by omega)
          have d3 : (y / 9223372036854775808 == 0) = false := beq_eq_false_iff_ne.2 (by omega)
          have d4 : (y / 9223372036854775808 != 0) = true := by rw [bne, d3]; rfl
          go_wp2
          go_ret3
          exact ⟨rfl, HD.out⟩
        · have d1 : decide (y ≤ 247) = false := decide_eq_false (by omega)
          have d2 : (y / 256 == 0) = false := beq_eq_false_iff_ne.2 (by omega)
          have d3 : (y / 9223372036854775808 == 0) = true := beq_iff_eq.2 (by omega)
          have d4 : (y / 9223372036854775808 != 0) = false := by rw [bne, d3]; rfl
          have d5 : IntKind.i64.wrap y = y := wrap_id (by omega) (by omega)
          go_wp2
          go_ret3
          exact ⟨rfl, HD.out⟩
      · have hres := HRES.out
        rw [show (256 : Int) ^ (3 - 1) = 65536 by decide] at hres
        rw [show (256 : Int) ^ 3 = 16777216 by decide] at hyr
        rcases hres with ⟨hc, rfl⟩ | ⟨hc, hc2, rfl⟩ | ⟨hc, hc2, rfl⟩
        · by_cases e1 : y ≤ 247
          · have d1 : decide (y ≤ 247) = true := decide_eq_true e1
            go_wp2
            go_ret3
            exact ⟨rfl, HD.out⟩
          · have d1 : decide (y ≤ 247) = false := decide_eq_false e1
            have d2 : (y / 65536 == 0) = true := beq_iff_eq.2 (by omega)
            go_wp2
            go_ret3
            exact ⟨rfl, HD.out⟩
        · have d1 : decide (y ≤ 247) = false := decide_eq_false (by omega)
          have d2 : (y / 65536 == 0) = false := beq_eq_false_iff_ne.2 (by omega)
          have d3 : (y / 9223372036854775808 == 0) = false := beq_eq_false_iff_ne.2 (by omega)
          have d4 : (y / 9223372036854775808 != 0) = true := by rw [bne, d3]; rfl
          go_wp2
          go_ret3
          exact ⟨rfl, HD.out⟩
        · have d1 : decide (y ≤ 247) = false := decide_eq_false (by omega)
          have d2 : (y / 65536 == 0) = false := beq_eq_false_iff_ne.2 (by omega)
          have d3 : (y / 9223372036854775808 == 0) = true := beq_iff_eq.2 (by omega)
          have d4 : (y / 9223372036854775808 != 0) = false := by rw [bne, d3]; rfl
          have d5 : IntKind.i64.wrap y = y := wrap_id (by omega) (by omega)
          go_wp2
          go_ret3
          exact ⟨rfl, HD.out⟩
      · have hres := HRES.out
        rw [show (256 : Int) ^ (4 - 1) = 16777216 by decide] at hres
        rw [show (256 : Int) ^ 4 = 4294967296 by decide] at hyr
        rcases hres with ⟨hc, rfl⟩ | ⟨hc, hc2, rfl⟩ | ⟨hc, hc2, rfl⟩
        · by_cases e1 : y ≤ 247
          · have d1 : decide (y ≤ 247) = true := decide_eq_true e1
            go_wp2
            go_ret3
            exact ⟨rfl, HD.out⟩
          · have d1 : decide (y ≤ 247) = false := decide_eq_false e1
            have d2 : (y / 16777216 == 0) = true := beq_iff_eq.2 (by omega)
            go_wp2
            go_ret3
            exact ⟨rfl, HD.out⟩
        · have d1 : decide (y ≤ 247) = false := decide_eq_false (by omega)
          have d2 : (y / 16777216 == 0) = false := beq_eq_false_iff_ne.2 (by omega)
          have d3 : (y / 9223372036854775808 == 0) = false := beq_eq_false_iff_ne.2 (by omega)
          have d4 : (y / 9223372036854775808 != 0) = true := by rw [bne, d3]; rfl
          go_wp2
          go_ret3
          exact ⟨rfl, HD.out⟩
        · have d1 : decide (y ≤ 247) = false := decide_eq_false (by omega)
          have d2 : (y / 16777216 == 0) = false := beq_eq_false_iff_ne.2 (by omega)
          have d3 : (y / 9223372036854775808 == 0) = true := beq_iff_eq.2 (by omega)
          have d4 : (y / 9223372036854775808 != 0) = false := by rw [bne, d3]; rfl
          have d5 : IntKind.i64.wrap y = y := wrap_id (by omega) (by omega)
          go_wp2
          go_ret3
          exact ⟨rfl, HD.out⟩
      · have hres := HRES.out
        rw [show (256 : Int) ^ (5 - 1) = 4294967296 by decide] at hres
        rw [show (256 : Int) ^ 5 = 1099511627776 by decide] at hyr
        rcases hres with ⟨hc, rfl⟩ | ⟨hc, hc2, rfl⟩ | ⟨hc, hc2, rfl⟩
        · by_cases e1 : y ≤ 247
          · have d1 : decide (y ≤ 247) = true := decide_eq_true e1
            go_wp2
            go_ret3
            exact ⟨rfl, HD.out⟩
          · have d1 : decide (y ≤ 247) = false := decide_eq_false e1
            have d2 : (y / 4294967296 == 0) = true := beq_iff_eq.2 (by omega)
            go_wp2
            go_ret3
            exact ⟨rfl, HD.out⟩
        · have d1 : decide (y ≤ 247) = false := decide_eq_false (by omega)
          have d2 : (y / 4294967296 == 0) = false := beq_eq_false_iff_ne.2 (by omega)
          have d3 : (y / 9223372036854775808 == 0) = false := beq_eq_false_iff_ne.2 (by omega)
          have d4 : (y / 9223372036854775808 != 0) = true := by rw [bne, d3]; rfl
          go_wp2
          go_ret3
          exact ⟨rfl, HD.out⟩
        · have d1 : decide (y ≤ 247) = false := decide_eq_false (by omega)
          have d2 : (y / 4294967296 == 0) = false := beq_eq_false_iff_ne.2 (by omega)
          have d3 : (y / 9223372036854775808 == 0) = true := beq_iff_eq.2 (by omega)
          have d4 : (y / 9223372036854775808 != 0) = false := by rw [bne, d3]; rfl
          have d5 : IntKind.i64.wrap y = y := wrap_id (by omega) (by omega)
          go_wp2
          go_ret3
          exact ⟨rfl, HD.out⟩
      · have hres := HRES.out
        rw [show (256 : Int) ^ (6 - 1) = 1099511627776 by decide] at hres
        rw [show (256 : Int) ^ 6 = 281474976710656 by decide] at hyr
        rcases hres with ⟨hc, rfl⟩ | ⟨hc, hc2, rfl⟩ | ⟨hc, hc2, rfl⟩
        · by_cases e1 : y ≤ 247
          · have d1 : decide (y ≤ 247) = true := decide_eq_true e1
            go_wp2
            go_ret3
            exact ⟨rfl, HD.out⟩
          · have d1 : decide (y ≤ 247) = false := decide_eq_false e1
            have d2 : (y / 1099511627776 == 0) = true := beq_iff_eq.2 (by omega)
            go_wp2
            go_ret3
            exact ⟨rfl, HD.out⟩
        · have d1 : decide (y ≤ 247) = false := decide_eq_false (by omega)
          have d2 : (y / 1099511627776 == 0) = false := beq_eq_false_iff_ne.2 (by omega)
          have d3 : (y / 9223372036854775808 == 0) = false := beq_eq_false_iff_ne.2 (by omega)
          have d4 : (y / 9223372036854775808 != 0) = true := by rw [bne, d3]; rfl
          go_wp2
          go_ret3
          exact ⟨rfl, HD.out⟩
        · have d1 : decide (y ≤ 247) = false := decide_eq_false (by omega)
          have d2 : (y / 1099511627776 == 0) = false := beq_eq_false_iff_ne.2 (by omega)
          have d3 : (y / 9223372036854775808 == 0) = true := beq_iff_eq.2 (by omega)
          have d4 : (y / 9223372036854775808 != 0) = false := by rw [bne, d3]; rfl
          have d5 : IntKind.i64.wrap y = y := wrap_id (by omega) (by omega)
          go_wp2
          go_ret3
          exact ⟨rfl, HD.out⟩
      · have hres := HRES.out
        rw [show (256 : Int) ^ (7 - 1) = 281474976710656 by decide] at hres
        rw [show (256 : Int) ^ 7 = 72057594037927936 by decide] at hyr
        rcases hres with ⟨hc, rfl⟩ | ⟨hc, hc2, rfl⟩ | ⟨hc, hc2, rfl⟩
        · by_cases e1 : y ≤ 247
          · have d1 : decide (y ≤ 247) = true := decide_eq_true e1
            go_wp2
            go_ret3
            exact ⟨rfl, HD.out⟩
          · have d1 : decide (y ≤ 247) = false := decide_eq_false e1
            have d2 : (y / 281474976710656 == 0) = true := beq_iff_eq.2 (by omega)
            go_wp2
            go_ret3
            exact ⟨rfl, HD.out⟩
        · have d1 : decide (y ≤ 247) = false := decide_eq_false (by omega)
          have d2 : (y / 281474976710656 == 0) = false := beq_eq_false_iff_ne.2 (by omega)
          have d3 : (y / 9223372036854775808 == 0) = false := beq_eq_false_iff_ne.2 (by omega)
          have d4 : (y / 9223372036854775808 != 0) = true := by rw [bne, d3]; rfl
          go_wp2
          go_ret3
          exact ⟨rfl, HD.out⟩
        · have d1 : decide (y ≤ 247) = false := decide_eq_false (by omega)
          have d2 : (y / 281474976710656 == 0) = false := beq_eq_false_iff_ne.2 (by omega)
          have d3 : (y / 9223372036854775808 == 0) = true := beq_iff_eq.2 (by omega)
          have d4 : (y / 9223372036854775808 != 0) = false := by rw [bne, d3]; rfl
          have d5 : IntKind.i64.wrap y = y := wrap_id (by omega) (by omega)
          go_wp2
          go_ret3
          exact ⟨rfl, HD.out⟩
      · have hres := HRES.out
        rw [show (256 : Int) ^ (8 - 1) = 72057594037927936 by decide] at hres
        rw [show (256 : Int) ^ 8 = 18446744073709551616 by decide] at hyr
        rcases hres with ⟨hc, rfl⟩ | ⟨hc, hc2, rfl⟩ | ⟨hc, hc2, rfl⟩
        · by_cases e1 : y ≤ 247
          · have d1 : decide (y ≤ 247) = true := decide_eq_true e1
            go_wp2
            go_ret3
            exact ⟨rfl, HD.out⟩
          · have d1 : decide (y ≤ 247) = false := decide_eq_false e1
            have d2 : (y / 72057594037927936 == 0) = true := beq_iff_eq.2 (by omega)
            go_wp2
            go_ret3
            exact ⟨rfl, HD.out⟩
        · have d1 : decide (y ≤ 247) = false := decide_eq_false (by omega)
          have d2 : (y / 72057594037927936 == 0) = false := beq_eq_false_iff_ne.2 (by omega)
          have d3 : (y / 9223372036854775808 == 0) = false := beq_eq_false_iff_ne.2 (by omega)
          have d4 : (y / 9223372036854775808 != 0) = true := by rw [bne, d3]; rfl
          go_wp2
          go_ret3
          exact ⟨rfl, HD.out⟩
        · have d1 : decide (y ≤ 247) = false := decide_eq_false (by omega)
          have d2 : (y / 72057594037927936 == 0) = false := beq_eq_false_iff_ne.2 (by omega)
          have d3 : (y / 9223372036854775808 == 0) = true := beq_iff_eq.2 (by omega)
          have d4 : (y / 9223372036854775808 != 0) = false := by rw [bne, d3]; rfl
          have d5 : IntKind.i64.wrap y = y := wrap_id (by omega) (by omega)
          go_wp2
          go_ret3
          exact ⟨rfl, HD.out⟩
end Go.Proofs.YtcgenmogedndjaaDoor
namespace Go.Proofs.YtcgenmogedndjaaDoor
open Go.RowKit Go.Proofs.YtcgenmogedndjaaDoorW.PrintWords
theorem drop_cons (l : List Int) (a : Nat) (h : a < l.length) : l.drop a = rd l a :: l.drop (a + 1) := by
  rw [rd_get l a h]
  exact List.drop_eq_getElem_cons h
theorem readNum_small (b : Int) (t : List Int) (h : b ≤ 247) : readNum (b :: t) = (b, 1, 0) := if_pos h
theorem readNum_short (b : Int) (t : List Int) (h : 247 < b) (hs : t.length < (b - 247).toNat) : readNum (b :: t) = (0, 0, 2) := (if_neg (by omega)).trans (if_pos hs)
theorem readNum_form (b : Int) (t : List Int) (h : 247 < b) (hs : ¬ t.length < (b - 247).toNat) (hf : valOf (t.take (b - 247).toNat) ≤ 247 ∨ valOf (t.take (b - 247).toNat) / 256 ^ ((b - 247).toNat - 1) = 0) : readNum (b :: t) = (0, 0, 10) :=
  (if_neg (by omega)).trans ((if_neg hs).trans (if_pos hf))
theorem readNum_big (b : Int) (t : List Int) (h : 247 < b) (hs : ¬ t.length < (b - 247).toNat) (hf : ¬ (valOf (t.take (b - 247).toNat) ≤ 247 ∨ valOf (t.take (b - 247).toNat) / 256 ^ ((b - 247).toNat - 1) = 0)) (hb : 9223372036854775808 ≤ valOf (t.take (b - 247).toNat)) : readNum (b :: t) = (0, 0, 5) :=
  (if_neg (by omega)).trans ((if_neg hs).trans ((if_neg hf).trans (if_pos hb)))
theorem readNum_long (b : Int) (t : List Int) (h : 247 < b) (hs : ¬ t.length < (b - 247).toNat) (hf : ¬ (valOf (t.take (b - 247).toNat) ≤ 247 ∨ valOf (t.take (b - 247).toNat) / 256 ^ ((b - 247).toNat - 1) = 0)) (hb : ¬ 9223372036854775808 ≤ valOf (t.take (b - 247).toNat)) : readNum (b :: t) = (valOf (t.take (b - 247).toNat), b - 246, 0) :=
  (if_neg (by omega)).trans ((if_neg hs).trans ((if_neg hf).trans (if_neg hb)))
theorem peek_calls {g p : Nat} {A : Option Addr} {n c : Nat} {l : List Int} {a : Nat} (w : World) (h : Cur w g p A n c l a) (hb : Bytes l) :
    Calls Tryd.prog 64 #[.pointer (some ⟨g, 0, none⟩)] w fun e w' => e = .returned (.tuple #[.int .i64 (readNum (l.drop a)).1, .int .i64 (readNum (l.drop a)).2.1, .int .i64 (readNum (l.drop a)).2.2]) ∧ Drawn0 w w' := by
  have hlen := Kd.C_len h.row
  have hle := h.le
  by_cases ha : a = n
  · rw [List.drop_eq_nil_of_le (by omega)]
    exact peek_none w h ha
  have hd := drop_cons l a (by omega)
  obtain ⟨b0, b1⟩ := bytes_rd hb a (by omega)
  rw [hd]
  by_cases h1 : rd l a ≤ 247
  · rw [readNum_small _ _ h1]
    exact peek_one w h hb (by omega) h1
  have htl : (l.drop (a + 1)).length = n - (a + 1) := by rw [List.length_drop, hlen]
  by_cases h2 : (l.drop (a + 1)).length < (rd l a - 247).toNat
  · rw [readNum_short _ _ (by omega) h2]
    exact peek_short w h hb (by omega) (by omega) (by omega)
  obtain ⟨m, hm⟩ : ∃ m, m = (rd l a - 247).toNat := ⟨_, rfl⟩
  have hx : valOf ((l.take (a + 1 + m)).drop (a + 1)) = valOf ((l.drop (a + 1)).take m) := by rw [List.drop_take, show a + 1 + m - (a + 1) = m by omega]
  by_cases h3 : valOf ((l.drop (a + 1)).take m) ≤ 247 ∨ valOf ((l.drop (a + 1)).take m) / 256 ^ (m - 1) = 0
  · rw [readNum_form _ _ (by omega) h2 (hm ▸ h3)]
    exact peek_long w h hb m (by omega) (by omega) (by omega) (by omega) _ hx.symm _ (.inl ⟨h3, rfl⟩)
  by_cases h4 : 9223372036854775808 ≤ valOf ((l.drop (a + 1)).take m)
  · rw [readNum_big _ _ (by omega) h2 (hm ▸ h3) (hm ▸ h4)]
    exact peek_long w h hb m (by omega) (by omega) (by omega) (by omega) _ hx.symm _ (.inr (.inl ⟨h3, h4, rfl⟩))
  · rw [readNum_long _ _ (by omega) h2 (hm ▸ h3) (hm ▸ h4)]
    have := peek_long w h hb m (by omega) (by omega) (by omega) (by omega) _ hx.symm _ (.inr (.inr ⟨h3, by omega, rfl⟩))
    rw [← hm, show rd l a - 246 = (m : Int) + 1 by omega]
    exact this
/-- What a number that is read has. -/
theorem readNum_ok (r : List Int) (hb : Bytes r) (h : (readNum r).2.2 = 0) : 1 ≤ (readNum r).2.1 ∧ (readNum r).2.1 ≤ r.length ∧ 0 ≤ (readNum r).1 ∧ (readNum r).1 < 9223372036854775808 := by
  cases r with
  | nil => simp [readNum] at h
  | cons b t =>
    have hb0 := hb b (by simp)
    have hv := (valOf_range (t.take (b - 247).toNat) (fun x hx => hb x (by simp [List.mem_of_mem_take hx]))).1
    unfold readNum at h ⊢
    simp only at h ⊢
    repeat' split
    all_goals simp_all
    all_goals omega
theorem readNum_bad (r : List Int) (h : (readNum r).2.2 ≠ 0) : (readNum r).1 = 0 ∧ (readNum r).2.1 = 0 := by
  cases r with
  | nil => simp [readNum]
  | cons b t =>
    unfold readNum at h ⊢
    simp only at h ⊢
    repeat' split
    all_goals simp_all
end Go.Proofs.YtcgenmogedndjaaDoor
