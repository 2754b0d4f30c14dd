/- The texts CursorAll, ReadRef, CursorRef in one. -/
import Derived.Test.YtcgenmogedndjaaDoorG14
import Derived.StillTailTactics
namespace Go.Proofs.YtcgenmogedndjaaDoor
open Go.RowKit Go.Proofs.YtcgenmogedndjaaDoorW.PrintWords
/-- The text with which bytes begin, how many bytes its form has, or why there is none. -/
def readText (r : List Int) (most : Int) : List Int × Nat × Int :=
  if (readNum r).2.2 ≠ 0 then ([], 0, (readNum r).2.2)
  else if max most 0 < (readNum r).1 then ([], 0, 4)
  else if (r.length : Int) - (readNum r).2.1 < (readNum r).1 then ([], 0, 2)
  else ((r.take ((readNum r).2.1.toNat + (readNum r).1.toNat)).drop (readNum r).2.1.toNat, (readNum r).2.1.toNat + (readNum r).1.toNat, 0)
theorem CNumber_calls {g p : Nat} {A : Option Addr} {n c : Nat} {l : List Int} {a : Nat} (w : World) (h : Cur w g p A n c l a) (hb : Bytes l) :
    Calls Tryd.prog 50 #[.pointer (some ⟨g, 0, none⟩)] w fun e w' => e = .returned (.tuple #[.int .i64 (readNum (l.drop a)).1, .int .i64 (readNum (l.drop a)).2.2]) ∧ Cur w' g p A n c l (a + (readNum (l.drop a)).2.1.toNat) ∧ w.grownBy w' (some p) := by
  by_cases hE : (readNum (l.drop a)).2.2 = 0
  · have hk := readNum_ok _ (hb.dp a) hE
    have hr : readNum (l.drop a) = ((readNum (l.drop a)).1, ((readNum (l.drop a)).2.1.toNat : Int), 0) := by rw [← hE, Int.toNat_of_nonneg (by omega)]
    exact (CNumber_ok w h hb (readNum (l.drop a)).1 (readNum (l.drop a)).2.1.toNat hr).mono fun e w' ⟨h1, h2, h3⟩ => ⟨by rw [h1, hE], h2, h3⟩
  · have hk := readNum_bad _ hE
    refine (CNumber_bad w h hb (readNum (l.drop a)).2.2 hE (Prod.ext hk.1 (Prod.ext hk.2 rfl))).mono fun e w' ⟨h1, h2⟩ => ⟨by rw [h1, hk.1], ?_, Lib.grownBy_below (World.grownBy.refl w (some p)) h2.below⟩
    rw [hk.2]
    exact h.below h2.below
theorem CText_calls {g p : Nat} {A : Option Addr} {n c : Nat} {l : List Int} {a : Nat} (most : Int) (w : World) (h : Cur w g p A n c l a) (hb : Bytes l) :
    Calls Tryd.prog 51 #[.pointer (some ⟨g, 0, none⟩), .int .i64 most] w fun e w' => e = .returned (.tuple #[.string (strOfNums (readText (l.drop a) most).1), .int .i64 (readText (l.drop a) most).2.2]) ∧ Cur w' g p A n c l (a + (readText (l.drop a) most).2.1) ∧ w.grownBy w' (some p) := by
  have hlen := Kd.C_len h.row
  have hle := h.le
  unfold readText
  by_cases hE : (readNum (l.drop a)).2.2 = 0
  · have hk := readNum_ok _ (hb.dp a) hE
    have hr : readNum (l.drop a) = ((readNum (l.drop a)).1, ((readNum (l.drop a)).2.1.toNat : Int), 0) := by rw [← hE, Int.toNat_of_nonneg (by omega)]
    rw [if_neg (by simp [hE])]
    by_cases h1 : max most 0 < (readNum (l.drop a)).1
    · rw [if_pos h1]
      exact (CText_long most w h hb _ _ hr h1).mono fun e w' ⟨h1, h2⟩ => ⟨h1, h.below h2.below, Lib.grownBy_below (World.grownBy.refl w (some p)) h2.below⟩
    rw [if_neg h1]
    have hdl : (l.drop a).length = n - a := by rw [List.length_drop, hlen]
    by_cases h2 : ((l.drop a).length : Int) - (readNum (l.drop a)).2.1 < (readNum (l.drop a)).1
    · rw [if_pos h2]
      exact (CText_short most w h hb _ _ hr h1 (by omega)).mono fun e w' ⟨h1, h2⟩ => ⟨h1, h.below h2.below, Lib.grownBy_below (World.grownBy.refl w (some p)) h2.below⟩
    rw [if_neg h2]
    refine (CText_ok most w h hb _ _ hr (readNum (l.drop a)).1.toNat (by omega) h1 (by omega)).mono fun e w' ⟨h1, h2, h3⟩ => ⟨?_, h2, h3⟩
    rw [h1, List.take_drop, List.drop_drop, ← Nat.add_assoc]
  · have hk := readNum_bad _ hE
    rw [if_pos hE]
    exact (CText_bad most w h hb (readNum (l.drop a)).2.2 hE (Prod.ext hk.1 (Prod.ext hk.2 rfl))).mono fun e w' ⟨h1, h2⟩ => ⟨h1, h.below h2.below, Lib.grownBy_below (World.grownBy.refl w (some p)) h2.below⟩
end Go.Proofs.YtcgenmogedndjaaDoor
namespace Go.Proofs.YtcgenmogedndjaaDoor
open Go.RowKit Go.Proofs.YtcgenmogedndjaaDoorW.PrintWords
theorem valOf_foldl (l : List Int) : ∀ x : Int, l.foldl (fun x d => 256 * x + d) x = x * 256 ^ l.length + valOf l := by
  induction l with
  | nil => intro x; simp [valOf]
  | cons d t ih =>
    intro x
    have e : valOf (d :: t) = d * 256 ^ t.length + valOf t := by
      show t.foldl _ (256 * 0 + d) = _
      rw [ih]
      simp
    rw [List.foldl_cons, ih, e, List.length_cons, Int.pow_succ, Int.add_mul, Int.mul_assoc, Int.mul_comm 256 (x * _), Int.mul_assoc]
    omega
theorem valOf_cons (d : Int) (t : List Int) : valOf (d :: t) = d * 256 ^ t.length + valOf t := by
  show t.foldl _ (256 * 0 + d) = _
  rw [valOf_foldl]
  simp
/-- What is asked of the second byte is what is asked of the whole number. -/
theorem top_byte (d : Int) (t : List Int) (hb : Bytes (d :: t)) (hl : t.length ≤ 7) :
    ((valOf (d :: t) ≤ 247 ∨ valOf (d :: t) / 256 ^ t.length = 0) ↔ (d = 0 ∨ (t.length = 0 ∧ d < 248))) ∧ (9223372036854775808 ≤ valOf (d :: t) ↔ (t.length = 7 ∧ 128 ≤ d)) := by
  have hd := hb d (by simp)
  have hr := valOf_range t (fun x hx => hb x (by simp [hx]))
  rw [valOf_cons]
  have hcase : t.length = 0 ∨ t.length = 1 ∨ t.length = 2 ∨ t.length = 3 ∨ t.length = 4 ∨ t.length = 5 ∨ t.length = 6 ∨ t.length = 7 := by omega
  rcases hcase with h | h | h | h | h | h | h | h
  all_goals
    rw [h] at hr ⊢
    simp at hr ⊢
    omega
theorem add_zero_addr (a : Addr) : a.add 0 = a := by simp [Addr.add]
theorem take_succ_valOf (l : List Int) (j : Nat) (h : j < l.length) : valOf (l.take (j + 1)) = 256 * valOf (l.take j) + rd l j := by
  rw [List.take_succ_eq_append_getElem h, valOf_snoc, rd_get l j h]
theorem rd_cons_succ (b : Int) (t : List Int) (j : Nat) : rd (b :: t) ((j + 1 : Nat) : Int) = rd t j := by simp [rd]
set_option maxRecDepth 20000 in
set_option maxHeartbeats 1600000 in
theorem Read_calls {n : Nat} (A0 : Option Addr) (c0 : Nat) (l : List Int) (w : World) (hr0 : Rd w A0 n l) (hb : Bytes l) (hs : n ≤ 140737488355328) :
    Calls Tryd.prog 59 #[.slice A0 n c0] w fun e w' => e = .returned (.tuple #[.int .i64 (readNum l).1, .int .i64 (readNum l).2.1, .int .i64 (readNum l).2.2]) ∧ Drawn0 w w' := by
  have hlen := Kd.C_len hr0
  cases l with
  | nil =>
    obtain rfl : n = 0 := hlen.symm
    clear hr0 hlen hb
    go_enter Tryd.func59, Tryd.ntmps59
    go_wp2
    go_ret3
    exact ⟨rfl, Drawn0.refl _⟩
  | cons b t =>
    have hn : n = t.length + 1 := by rw [← hlen]; rfl
    obtain ⟨b0, b1⟩ := hb b (by simp)
    obtain ⟨ad, rfl, hcell⟩ := Rd.cells hr0 (by omega)
    have hx := hcell 0 (by omega)
    rw [show rd (b :: t) ((0 : Nat) : Int) = b from rfl, add_zero_addr] at hx
    have HC := Lib.hid hcell
    have HY := Lib.hid hb
    have dn : ((n : Int) == 0) = false := beq_eq_false_iff_ne.2 (by omega)
    have i0 : (0 : Int) < n := by omega
    have hw1 : IntKind.i64.wrap b = b := wrap_id b0 (by omega)
    have hw2 : IntKind.i64.wrap (b - 247) = b - 247 := by rw [IntKind.wrap_i64]; omega
    clear hr0 hcell hb hlen
    by_cases h1 : b ≤ 247
    · have HE := Lib.hid (readNum_small b t h1)
      have d1 : decide (b - 247 ≤ 0) = true := decide_eq_true (by omega)
      clear h1 hn
      go_enter Tryd.func59, Tryd.ntmps59
      go_wp2
      go_ret3
      exact ⟨by rw [HE.out]; rfl, Drawn0.refl _⟩
    have d1 : decide (b - 247 ≤ 0) = false := decide_eq_false (by omega)
    have hw3 : IntKind.i64.wrap (b - 247 + 1) = b - 247 + 1 := by rw [IntKind.wrap_i64]; omega
    by_cases h2 : t.length < (b - 247).toNat
    · have HE := Lib.hid (readNum_short b t (by omega) h2)
      have d2 : decide ((n : Int) < b - 247 + 1) = true := decide_eq_true (by omega)
      clear hn
      go_enter Tryd.func59, Tryd.ntmps59
      go_wp2
      go_ret3
      exact ⟨by rw [HE.out]; rfl, Drawn0.refl _⟩
    have d2 : decide ((n : Int) < b - 247 + 1) = false := decide_eq_false (by omega)
    obtain ⟨m, hm⟩ : ∃ m, m = (b - 247).toNat := ⟨_, rfl⟩
    have hbm : b = 247 + (m : Int) := by omega
    have hm1 : 1 ≤ m ∧ m ≤ 8 := by omega
    rw [← hm] at h2
    cases t with
    | nil => simp at h2; omega
    | cons d r =>
      obtain ⟨e0, e1⟩ := HY.out d (by simp)
      have hx1 : w.cell? ⟨ad.block, ad.off + 1, none⟩ = some (.int .u8 d) := Rd.lit HC.out 0 (by rw [hn]; simp only [List.length_cons]; omega)
      have i1 : (1 : Int) < n := by rw [hn]; simp only [List.length_cons]; omega
      have HN := Lib.hid hn
      clear hn
      have htk : (d :: r).take m = d :: r.take (m - 1) := by obtain ⟨q, rfl⟩ : ∃ q, m = q + 1 := ⟨m - 1, by omega⟩; rfl
      have h2' : m ≤ r.length + 1 := by have := h2; rw [List.length_cons] at this; omega
      have hrl : (r.take (m - 1)).length = m - 1 := by rw [List.length_take]; omega
      have hT := top_byte d (r.take (m - 1)) (fun x hx => HY.out x (by
        rcases List.mem_cons.1 hx with rfl | hx
        · simp
        · simp [List.mem_of_mem_take hx])) (by rw [hrl]; omega)
      rw [hrl, ← htk] at hT
      obtain ⟨hT1, hT2⟩ := hT
      have hmi : (m : Int) - 1 + 1 = m := by omega
      clear hm
      subst hbm
      have em : (247 + (m : Int) - 247).toNat = m := by omega
      have g1 : 247 + (m : Int) - 247 = m := by omega
      rw [g1] at d1 d2 hw2 hw3
      have hw4 : IntKind.i64.wrap (247 + (m : Int) - 247) = m := by rw [g1, hw2]
      have dm0 : decide (m = 0) = false := decide_eq_false (by omega)
      have hnm : m < n := by rw [HN.out, List.length_cons]; omega
      have dm1 : decide (n < m + 1) = false := decide_eq_false (by omega)
      have dm2 : decide (n ≤ m) = false := decide_eq_false (by omega)
      by_cases h3 : d = 0 ∨ (m = 1 ∧ d < 248)
      · have HE := Lib.hid (readNum_form (247 + (m : Int)) (d :: r) (by omega) (by rw [em]; exact h2) (by rw [em]; exact hT1.2 (by omega)))
        by_cases h4 : d = 0
        case' pos =>
          have d3 : (d == 0) = true := beq_iff_eq.2 h4
        case' neg =>
          have d3 : (d == 0) = false := beq_eq_false_iff_ne.2 h4
          have d4 : ((m : Int) == 1) = true := beq_iff_eq.2 (by omega)
          have d5 : decide (d < 248) = true := decide_eq_true (by omega)
        all_goals
          clear h1 h2 h3 h4 hT1 hT2 hm1 hrl htk em hmi h2'
          go_enter Tryd.func59, Tryd.ntmps59
          go_wp2
          go_ret3
          exact ⟨by rw [HE.out]; rfl, Drawn0.refl _⟩
      have h3' : ¬ (valOf ((d :: r).take m) ≤ 247 ∨ valOf ((d :: r).take m) / 256 ^ (m - 1) = 0) := fun h => h3 (by have := hT1.1 h; omega)
      have d3 : (d == 0) = false := beq_eq_false_iff_ne.2 (by omega)
      have d4 : ((m : Int) == 1) = decide (m = 1) := by rw [Bool.eq_iff_iff]; simp; omega
      have d4' : ((m : Int) == 8) = decide (m = 8) := by rw [Bool.eq_iff_iff]; simp; omega
      have hd5 : m = 1 → decide (d < 248) = false := fun h => decide_eq_false (by omega)
      by_cases h5 : m = 8 ∧ 128 ≤ d
      · obtain ⟨h8, h9⟩ := h5
        have HE := Lib.hid (readNum_big (247 + (m : Int)) (d :: r) (by omega) (by rw [em]; exact h2) (by rw [em]; exact h3') (by rw [em]; exact hT2.2 (by omega)))
        have d5 : ((m : Int) == 1) = false := beq_eq_false_iff_ne.2 (by omega)
        have d6 : ((m : Int) == 8) = true := beq_iff_eq.2 (by omega)
        have d7 : decide (128 ≤ d) = true := decide_eq_true h9
        clear h1 h2 h3 h3' hT1 hT2 hm1 hrl htk em hmi h2' d4 d4' hd5 h8 h9 hnm
        go_enter Tryd.func59, Tryd.ntmps59
        go_wp2
        go_ret3
        exact ⟨by rw [HE.out]; rfl, Drawn0.refl _⟩
      have h5' : ¬ 9223372036854775808 ≤ valOf ((d :: r).take m) := fun h => h5 (by have := hT2.1 h; omega)
      have HE := Lib.hid (readNum_long (247 + (m : Int)) (d :: r) (by omega) (by rw [em]; exact h2) (by rw [em]; exact h3') (by rw [em]; exact h5'))
      rw [em] at HE
      obtain ⟨V, hV⟩ : ∃ V, V = valOf ((d :: r).take m) := ⟨_, rfl⟩
      rw [← hV] at HE h5'
      have HV := Lib.hid hV
      have HTL := Lib.hid (show m ≤ (d :: r).length by rw [List.length_cons]; exact h2')
      have hVR : ∀ j, j ≤ m → 0 ≤ valOf ((d :: r).take j) ∧ valOf ((d :: r).take j) ≤ V := by
        intro j hj
        have hbj : Bytes ((d :: r).take j) := fun x hx => HY.out x (by have := List.mem_of_mem_take hx; exact List.mem_cons_of_mem _ this)
        refine ⟨(valOf_range _ hbj).1, ?_⟩
        induction hq : m - j generalizing j with
        | zero => rw [show j = m by omega, hV]; exact Int.le_refl _
        | succ q ih =>
          have h6 := ih (j + 1) (by omega) (fun x hx => HY.out x (by have := List.mem_of_mem_take hx; exact List.mem_cons_of_mem _ this)) (by omega)
          rw [take_succ_valOf _ j (by have := HTL.out; omega)] at h6
          have h7 := bytes_rd (l := d :: r) (fun x hx => HY.out x (List.mem_cons_of_mem _ hx)) j (by have := HTL.out; omega)
          have h8 := (valOf_range _ hbj).1
          omega
      have HVR := Lib.hid hVR
      have d8 : (decide (m = 8) && decide (128 ≤ d)) = false := by rw [Bool.eq_false_iff]; simp; omega
      by_cases h8 : m = 8
      case' pos =>
        have d6 : ((m : Int) == 8) = true := beq_iff_eq.2 (by omega)
        have d7 : decide (128 ≤ d) = false := decide_eq_false (by omega)
        have d5 : ((m : Int) == 1) = false := beq_eq_false_iff_ne.2 (by omega)
      case' neg =>
        have d6 : ((m : Int) == 8) = false := beq_eq_false_iff_ne.2 (by omega)
        by_cases h9 : m = 1
        case' pos =>
          have d5 : ((m : Int) == 1) = true := beq_iff_eq.2 (by omega)
          have d7 : decide (d < 248) = false := hd5 h9
          clear h9
        case' neg =>
          have d5 : ((m : Int) == 1) = false := beq_eq_false_iff_ne.2 (by omega)
          clear h9
      all_goals
        clear h1 h2 h3 h3' hT1 hT2 hrl htk em hmi h2' d4 d4' hd5 h8 hVR d8
        go_enter Tryd.func59, Tryd.ntmps59
        go_wp2
        go_loopw [6, 7] (fun v i wr => w = wr ∧ ∃ (j : Nat) (y : Int), j ≤ m ∧ i = .int .i64 ((j : Int) + 1) ∧ v = .int .i64 y ∧ Hid (y = valOf ((d :: r).take j))) (fun _ i _ => m + 1 - (intOf i).toNat)
        case atStart => exact ⟨by first | rfl | trivial, 0, 0, by omega, rfl, rfl, Lib.hid rfl⟩
        case round =>
          obtain ⟨rfl, j, y, hj, rfl, rfl, HYV⟩ := hrel
          by_cases hjm : j < m
          · have dj : decide ((j : Int) + 1 ≤ m) = true := decide_eq_true (by omega)
            have dj2 : decide (j + 1 ≤ m) = true := decide_eq_true (by omega)
            have dj3 : decide (j < m) = true := decide_eq_true (by omega)
            obtain ⟨v, hv⟩ : ∃ v, v = rd (d :: r) j := ⟨_, rfl⟩
            have hxj := Rd.lit HC.out j (by omega)
            rw [rd_cons_succ, ← hv] at hxj
            obtain ⟨v0, v1⟩ := bytes_rd (l := d :: r) (fun x hx => HY.out x (List.mem_cons_of_mem _ hx)) j (by have := HTL.out; omega)
            rw [← hv] at v0 v1
            have hyr := HVR.out j (by omega)
            rw [← HYV.out] at hyr
            have HYV2 := Lib.hid (show 256 * y + v = valOf ((d :: r).take (j + 1)) by rw [take_succ_valOf _ j (by have := HTL.out; omega), ← HYV.out, hv])
            have hyr2 := HVR.out (j + 1) (by omega)
            rw [← HYV2.out] at hyr2
            have k1 : IntKind.i64.wrap (256 * y) = 256 * y := wrap_id (by omega) (by omega)
            have k2 : IntKind.i64.wrap (256 * y + v) = 256 * y + v := wrap_id (by omega) (by omega)
            have k3 : IntKind.i64.wrap v = v := wrap_id (by omega) (by omega)
            have k4 : IntKind.i64.wrap ((j : Int) + 1 + 1) = (j : Int) + 1 + 1 := wrap_id (by omega) (by omega)
            have k5 : (0 : Int) ≤ (j : Int) + 1 := by omega
            have k6 : (j : Int) + 1 < n := by omega
            have k7 : ((j : Int) + 1).toNat = j + 1 := by omega
            clear hv
            go_wp2
            go_roundw
            case rel => exact ⟨by first | rfl | trivial, j + 1, 256 * y + v, by omega, by go_num, by first | rfl | (rw [k2]), HYV2⟩
            case measure => simp [intOf]; omega
          · obtain rfl : j = m := by omega
            have dj : decide ((j : Int) + 1 ≤ j) = false := decide_eq_false (by omega)
            have dj2 : decide (j + 1 ≤ j) = false := decide_eq_false (by omega)
            have HYE := Lib.hid (show y = V by rw [HYV.out, HV.out])
            go_wp2
            go_ret3
            exact ⟨by rw [HE.out, ← HYE.out]; simp; omega, Drawn0.refl _⟩
end Go.Proofs.YtcgenmogedndjaaDoor
namespace Go.Proofs.YtcgenmogedndjaaDoor
open Go.RowKit Go.Proofs.YtcgenmogedndjaaDoorW.PrintWords
structure RCur (w : World) (g : Nat) (A : Option Addr) (n c : Nat) (l : List Int) (a : Nat) : Prop where
  own : w.heap[g]? = some (.cells #[.slice A n c, .int .i64 a] 73 (0, 0))
  row : Rd w A n l
  far : ∀ ad, A = some ad → 0 < n → ad.block ≠ g
  cap : n ≤ c
  le : a ≤ n
theorem Rd.grown0 {w w' : World} {row : Option Nat} {A : Option Addr} {n : Nat} {l : List Int} (h : Rd w A n l) (hg : w.grownBy w' row) (hf : ∀ ad, A = some ad → 0 < n → some ad.block ≠ row) : Rd w' A n l := by
  rcases Nat.eq_zero_or_pos n with h0 | h0
  · subst h0
    obtain rfl := List.eq_nil_of_length_eq_zero (Kd.C_len h)
    exact Rd.empty _ _
  · exact h.grown hg (fun ad he => hf ad he h0)
variable {w w' : World} {g : Nat} {A : Option Addr} {n c : Nat} {l : List Int} {a : Nat}
theorem RCur.x1 (h : RCur w g A n c l a) : w.cell? ⟨g, 0, none⟩ = some (.slice A n c) := by simp [World.cell?, h.own]
theorem RCur.x2 (h : RCur w g A n c l a) : w.cell? ⟨g, 1, none⟩ = some (.int .i64 a) := by simp [World.cell?, h.own]
theorem RCur.f2 (h : RCur w g A n c l a) : w.frozen? ⟨g, 1, none⟩ = false := by simp [World.frozen?, h.own]
theorem RCur.grown (h : RCur w g A n c l a) {row : Option Nat} (hg : w.grownBy w' row) (h1 : some g ≠ row) (h3 : ∀ ad, A = some ad → 0 < n → some ad.block ≠ row) : RCur w' g A n c l a :=
  ⟨(hg.block g (lt_of_heap h.own) h1).trans h.own, h.row.grown0 hg h3, h.far, h.cap, h.le⟩
theorem RCur.below (h : RCur w g A n c l a) (hb : Below w.heap.size w w') : RCur w' g A n c l a :=
  ⟨(hb.block g (lt_of_heap h.own)).trans h.own, Kd.C_below h.row hb, h.far, h.cap, h.le⟩
theorem RCur.set (h : RCur w g A n c l a) (b : Nat) (hb : b ≤ n) : RCur (w.setCell ⟨g, 1, none⟩ (.int .i64 b)) g A n c l b := by
  have hg := Lib.grownBy_setCell w g 1 (.int .i64 b)
  refine ⟨?_, h.row.grown0 hg (fun ad he hp e => h.far ad he hp (Option.some.inj e)), h.far, h.cap, hb⟩
  have hp := h.own
  simp [World.setCell, Array.getElem?_modify, hp]
set_option maxHeartbeats 800000 in
theorem RNumber_calls (w : World) (h : RCur w g A n c l a) (hb : Bytes l) (hs : n ≤ 140737488355328) :
    Calls Tryd.prog 40 #[.pointer (some ⟨g, 0, none⟩)] w fun e w' => e = .returned (.tuple #[.int .i64 (readNum (l.drop a)).1, .int .i64 (readNum (l.drop a)).2.2]) ∧ RCur w' g A n c l (a + (readNum (l.drop a)).2.1.toNat) ∧ w.grownBy w' (some g) := by
  have H := Lib.hid h
  have hm := Kd.C_max h.row
  have hcap := h.cap
  have hle := h.le
  have hlen := Kd.C_len h.row
  have HY := Lib.hid (hb.dp a)
  have x1 := h.x1
  have x2 := h.x2
  have hrd : Rd w (if c = a then A else Option.map (fun x => x.add a) A) (n - a) (l.drop a) := by
    have h1 := h.row
    rw [← hlen] at h1
    have := Kd.C_drop (k := Kd.int .u8) (m := a) (c := c) h1 (by omega) (by omega)
    rw [show a * (Kd.int .u8).sz = a from Nat.mul_one a, List.length_drop, hlen] at this
    exact this
  have HRD := Lib.hid hrd
  have hK : ∃ K : Nat, (readNum (l.drop a)).2.1 = K ∧ a + K ≤ n := by
    by_cases hE : (readNum (l.drop a)).2.2 = 0
    · have := readNum_ok _ (hb.dp a) hE
      rw [List.length_drop, hlen] at this
      exact ⟨(readNum (l.drop a)).2.1.toNat, by omega, by omega⟩
    · exact ⟨0, (readNum_bad _ hE).2, by omega⟩
  obtain ⟨K, hK1, hK2⟩ := hK
  have i0 : (0 : Int) ≤ a := by omega
  have i1 : (a : Int) ≤ n := by omega
  have i2 : (n : Int) ≤ c := by omega
  have i3 : (a : Int) ≤ c := by omega
  clear h hb hlen hrd
  go_enter Tryd.func40, Tryd.ntmps40
  go_wp2_with fail
  go_quiet (first | (go_at_call 59; refine (Read_calls _ _ (l.drop a) _ (Kd.C_drewN HRD.out _) HY.out (by omega)).mono ?_; rintro e w' ⟨rfl, ⟨nd, rfl⟩⟩; exact ⟨rfl, _, World.drewN_drewN _ _ _⟩))
  have HB3 := Lib.hid (pw_below_drewN (Below.refl w.heap.size w) nq)
  rw [hK1]
  generalize w.drewN nq = w3 at HB3 ⊢
  generalize (if c = a then A else Option.map (fun x => x.add a) A) = AA
  have H3 := Lib.hid (H.out.below HB3.out)
  have HG3 := Lib.hid (Lib.grownBy_below (World.grownBy.refl w (some g)) HB3.out)
  clear x1 x2
  have x1 := H3.out.x1
  have x2 := H3.out.x2
  have f2 := H3.out.f2
  have hw : IntKind.i64.wrap ((a : Int) + K) = a + K := wrap_id (by omega) (by omega)
  have H4 : RCur (w3.setCell ⟨g, 1, none⟩ (.int .i64 ((a : Int) + K))) g A n c l (a + K) := by
    have := H3.out.set (a + K) (by omega)
    rwa [show ((a + K : Nat) : Int) = (a : Int) + K by omega] at this
  have hg4 : w.grownBy (w3.setCell ⟨g, 1, none⟩ (.int .i64 ((a : Int) + K))) (some g) := Lib.grownBy_setB HG3.out 1 _
  have H4' := Lib.hid H4
  have HG4 := Lib.hid hg4
  obtain ⟨N, hN⟩ : ∃ N, N = (readNum (l.drop a)).1 := ⟨_, rfl⟩
  obtain ⟨E, hE⟩ : ∃ E, E = (readNum (l.drop a)).2.2 := ⟨_, rfl⟩
  rw [← hN, ← hE]
  have HK1 := Lib.hid hK1
  have HNN := Lib.hid hN
  have HEE := Lib.hid hE
  clear H4 hg4 hN hE hK1
  go_wp2
  go_ret2
  exact ⟨by rw [← HNN.out, ← HEE.out]; rfl, by rw [HK1.out, Int.toNat_natCast]; exact H4'.out, HG4.out⟩
set_option maxHeartbeats 800000 in
theorem RText_bad (most : Int) (w : World) (h : RCur w g A n c l a) (hb : Bytes l) (hs : n ≤ 140737488355328) (E : Int) (hE : E ≠ 0) (hr : readNum (l.drop a) = (0, 0, E)) :
    Calls Tryd.prog 41 #[.pointer (some ⟨g, 0, none⟩), .int .i64 most] w fun e w' => e = .returned (.tuple #[.string ByteArray.empty, .int .i64 E]) ∧ RCur w' g A n c l a ∧ w.grownBy w' (some g) := by
  have H := Lib.hid h
  have HY := Lib.hid hb
  have HR := Lib.hid hr
  have hm := Kd.C_max h.row
  have hcap := h.cap
  have hle := h.le
  have hlen := Kd.C_len h.row
  have x1 := h.x1
  have x2 := h.x2
  have hrd : Rd w (if c = a then A else Option.map (fun x => x.add a) A) (n - a) (l.drop a) := by
    have h1 := h.row
    rw [← hlen] at h1
    have := Kd.C_drop (k := Kd.int .u8) (m := a) (c := c) h1 (by omega) (by omega)
    rw [show a * (Kd.int .u8).sz = a from Nat.mul_one a, List.length_drop, hlen] at this
    exact this
  have HRD := Lib.hid hrd
  have HHL := Lib.hid hlen
  have i0 : (0 : Int) ≤ a := by omega
  have i1 : (a : Int) ≤ n := by omega
  have i2 : (n : Int) ≤ c := by omega
  have i3 : (a : Int) ≤ c := by omega
  have d1 : (E == 0) = false := beq_eq_false_iff_ne.2 hE
  have d2 : (E != 0) = true := by rw [bne, d1]; rfl
  clear h hb hlen hrd hr
  go_enter Tryd.func41, Tryd.ntmps41
  go_wp2_with fail
  go_quiet (first | (go_at_call 59; refine (Read_calls _ _ (l.drop a) _ (Kd.C_drewN HRD.out _) (HY.out.dp a) (by omega)).mono ?_; rintro e w' ⟨rfl, ⟨nd, rfl⟩⟩; exact ⟨rfl, _, World.drewN_drewN _ _ _⟩))
  have HB3 := Lib.hid (pw_below_drewN (Below.refl w.heap.size w) nq)
  rw [HR.out]
  generalize w.drewN nq = w3 at HB3 ⊢
  generalize (if c = a then A else Option.map (fun x => x.add a) A) = AA
  have H3 := Lib.hid (H.out.below HB3.out)
  have HG3 := Lib.hid (Lib.grownBy_below (World.grownBy.refl w (some g)) HB3.out)
  clear x1 x2
  go_wp2
  go_ret2
  exact ⟨rfl, H3.out, HG3.out⟩
set_option maxHeartbeats 800000 in
theorem RText_long (most : Int) (w : World) (h : RCur w g A n c l a) (hb : Bytes l) (hs : n ≤ 140737488355328) (N : Int) (K : Nat) (hr : readNum (l.drop a) = (N, (K : Int), 0)) (hlg : max most 0 < N) :
    Calls Tryd.prog 41 #[.pointer (some ⟨g, 0, none⟩), .int .i64 most] w fun e w' => e = .returned (.tuple #[.string ByteArray.empty, .int .i64 4]) ∧ RCur w' g A n c l a ∧ w.grownBy w' (some g) := by
  have H := Lib.hid h
  have HY := Lib.hid hb
  have HR := Lib.hid hr
  have hm := Kd.C_max h.row
  have hcap := h.cap
  have hle := h.le
  have hlen := Kd.C_len h.row
  have x1 := h.x1
  have x2 := h.x2
  have hrd : Rd w (if c = a then A else Option.map (fun x => x.add a) A) (n - a) (l.drop a) := by
    have h1 := h.row
    rw [← hlen] at h1
    have := Kd.C_drop (k := Kd.int .u8) (m := a) (c := c) h1 (by omega) (by omega)
    rw [show a * (Kd.int .u8).sz = a from Nat.mul_one a, List.length_drop, hlen] at this
    exact this
  have HRD := Lib.hid hrd
  have HHL := Lib.hid hlen
  have i0 : (0 : Int) ≤ a := by omega
  have i1 : (a : Int) ≤ n := by omega
  have i2 : (n : Int) ≤ c := by omega
  have i3 : (a : Int) ≤ c := by omega
  have d1 : decide (most < N) = true := decide_eq_true (by omega)
  have d2 : decide (0 < N) = true := decide_eq_true (by omega)
  clear h hb hlen hrd hr hlg
  go_enter Tryd.func41, Tryd.ntmps41
  go_wp2_with fail
  go_quiet (first | (go_at_call 59; refine (Read_calls _ _ (l.drop a) _ (Kd.C_drewN HRD.out _) (HY.out.dp a) (by omega)).mono ?_; rintro e w' ⟨rfl, ⟨nd, rfl⟩⟩; exact ⟨rfl, _, World.drewN_drewN _ _ _⟩))
  have HB3 := Lib.hid (pw_below_drewN (Below.refl w.heap.size w) nq)
  rw [HR.out]
  generalize w.drewN nq = w3 at HB3 ⊢
  generalize (if c = a then A else Option.map (fun x => x.add a) A) = AA
  have H3 := Lib.hid (H.out.below HB3.out)
  have HG3 := Lib.hid (Lib.grownBy_below (World.grownBy.refl w (some g)) HB3.out)
  clear x1 x2
  go_wp2
  go_ret2
  exact ⟨rfl, H3.out, HG3.out⟩
set_option maxHeartbeats 800000 in
theorem RText_short (most : Int) (w : World) (h : RCur w g A n c l a) (hb : Bytes l) (hs : n ≤ 140737488355328) (N : Int) (K : Nat) (hr : readNum (l.drop a) = (N, (K : Int), 0)) (hlg : ¬ max most 0 < N) (hsh : (n : Int) - a - K < N) :
    Calls Tryd.prog 41 #[.pointer (some ⟨g, 0, none⟩), .int .i64 most] w fun e w' => e = .returned (.tuple #[.string ByteArray.empty, .int .i64 2]) ∧ RCur w' g A n c l a ∧ w.grownBy w' (some g) := by
  have H := Lib.hid h
  have HY := Lib.hid hb
  have HR := Lib.hid hr
  have hm := Kd.C_max h.row
  have hcap := h.cap
  have hle := h.le
  have hlen := Kd.C_len h.row
  have x1 := h.x1
  have x2 := h.x2
  have hrd : Rd w (if c = a then A else Option.map (fun x => x.add a) A) (n - a) (l.drop a) := by
    have h1 := h.row
    rw [← hlen] at h1
    have := Kd.C_drop (k := Kd.int .u8) (m := a) (c := c) h1 (by omega) (by omega)
    rw [show a * (Kd.int .u8).sz = a from Nat.mul_one a, List.length_drop, hlen] at this
    exact this
  have HRD := Lib.hid hrd
  have HHL := Lib.hid hlen
  have i0 : (0 : Int) ≤ a := by omega
  have i1 : (a : Int) ≤ n := by omega
  have i2 : (n : Int) ≤ c := by omega
  have i3 : (a : Int) ≤ c := by omega
  have hk := readNum_ok _ (hb.dp a) (by rw [hr])
  rw [hr, List.length_drop, hlen] at hk
  have hk2 : (K : Int) ≤ ((n - a : Nat) : Int) := hk.2.1
  have hw1 := wrap_id (x := (n : Int) - a) (by omega) (by omega)
  have hw2 := wrap_id (x := (n : Int) - a - K) (by omega) (by omega)
  have d3 : decide ((n : Int) - a - K < N) = true := decide_eq_true hsh
  clear h hb hlen hrd hr hk hk2
  by_cases hmn : most < N
  case' pos =>
    have d1 : decide (most < N) = true := decide_eq_true hmn
    have d2 : decide (0 < N) = false := decide_eq_false (by omega)
  case' neg =>
    have d1 : decide (most < N) = false := decide_eq_false hmn
  all_goals
    clear hlg hmn hsh
    go_enter Tryd.func41, Tryd.ntmps41
    go_wp2_with fail
    go_quiet (first | (go_at_call 59; refine (Read_calls _ _ (l.drop a) _ (Kd.C_drewN HRD.out _) (HY.out.dp a) (by omega)).mono ?_; rintro e w' ⟨rfl, ⟨nd, rfl⟩⟩; exact ⟨rfl, _, World.drewN_drewN _ _ _⟩))
    have HB3 := Lib.hid (pw_below_drewN (Below.refl w.heap.size w) nq)
    rw [HR.out]
    generalize w.drewN nq = w3 at HB3 ⊢
    generalize (if c = a then A else Option.map (fun x => x.add a) A) = AA
    have H3 := Lib.hid (H.out.below HB3.out)
    have HG3 := Lib.hid (Lib.grownBy_below (World.grownBy.refl w (some g)) HB3.out)
    clear x1 x2
    have x1 := H3.out.x1
    have x2 := H3.out.x2
    go_wp2_with fail
    go_quiet (fail)
    go_wp2
    go_ret2
    exact ⟨rfl, H3.out.below (pw_below_drewN (Below.refl _ _) _), Lib.grownBy_below HG3.out (pw_below_drewN (Below.refl _ _) _)⟩
set_option maxHeartbeats 1600000 in
theorem RText_ok (most : Int) (w : World) (h : RCur w g A n c l a) (hb : Bytes l) (hs : n ≤ 140737488355328) (N : Int) (K : Nat) (hr : readNum (l.drop a) = (N, (K : Int), 0)) (M : Nat) (hM : N = M) (hlg : ¬ max most 0 < N) (hsh : a + K + M ≤ n) :
    Calls Tryd.prog 41 #[.pointer (some ⟨g, 0, none⟩), .int .i64 most] w fun e w' => e = .returned (.tuple #[.string (strOfNums ((l.take (a + (K + M))).drop (a + K))), .int .i64 0]) ∧ RCur w' g A n c l (a + (K + M)) ∧ w.grownBy w' (some g) := by
  subst hM
  have H := Lib.hid h
  have HY := Lib.hid hb
  have HR := Lib.hid hr
  have hm := Kd.C_max h.row
  have hcap := h.cap
  have hle := h.le
  have hlen := Kd.C_len h.row
  have x1 := h.x1
  have x2 := h.x2
  have hrd : Rd w (if c = a then A else Option.map (fun x => x.add a) A) (n - a) (l.drop a) := by
    have h1 := h.row
    rw [← hlen] at h1
    have := Kd.C_drop (k := Kd.int .u8) (m := a) (c := c) h1 (by omega) (by omega)
    rw [show a * (Kd.int .u8).sz = a from Nat.mul_one a, List.length_drop, hlen] at this
    exact this
  have HRD := Lib.hid hrd
  have HHL := Lib.hid hlen
  have i0 : (0 : Int) ≤ a := by omega
  have i1 : (a : Int) ≤ n := by omega
  have i2 : (n : Int) ≤ c := by omega
  have i3 : (a : Int) ≤ c := by omega
  have hk := readNum_ok _ (hb.dp a) (by rw [hr])
  rw [hr] at hk
  have hk1 : 1 ≤ (K : Int) := hk.1
  have hw1 := wrap_id (x := (n : Int) - a) (by omega) (by omega)
  have hw2 := wrap_id (x := (n : Int) - a - K) (by omega) (by omega)
  have hw3 := wrap_id (x := (a : Int) + K) (by omega) (by omega)
  have hw4 := wrap_id (x := (a : Int) + K + M) (by omega) (by omega)
  have hw5 := wrap_id (x := (K : Int) + M) (by omega) (by omega)
  have hw6 := wrap_id (x := (a : Int) + ((K : Int) + M)) (by omega) (by omega)
  have d3 : decide ((n : Int) - a - K < M) = false := decide_eq_false (by omega)
  have e1 : ((a + (K + M) : Nat) : Int) = (a : Int) + ((K : Int) + M) := by omega
  have HE1 := Lib.hid e1
  have HSH := Lib.hid hsh
  have HHK := Lib.hid hk1
  clear h hb hlen hrd hr hk e1
  by_cases hmn : most < M
  case' pos =>
    have d1 : decide (most < (M : Int)) = true := decide_eq_true hmn
    have d2 : decide (0 < M) = false := decide_eq_false (by omega)
  case' neg =>
    have d1 : decide (most < (M : Int)) = false := decide_eq_false hmn
  all_goals
    clear hlg hmn hsh hk1
    go_enter Tryd.func41, Tryd.ntmps41
    go_wp2_with fail
    go_quiet (first | (go_at_call 59; refine (Read_calls _ _ (l.drop a) _ (Kd.C_drewN HRD.out _) (HY.out.dp a) (by omega)).mono ?_; rintro e w' ⟨rfl, ⟨nd, rfl⟩⟩; exact ⟨rfl, _, World.drewN_drewN _ _ _⟩))
    have HB3 := Lib.hid (pw_below_drewN (Below.refl w.heap.size w) nq)
    rw [HR.out]
    generalize w.drewN nq = w3 at HB3 ⊢
    generalize (if c = a then A else Option.map (fun x => x.add a) A) = AA
    have H3 := Lib.hid (H.out.below HB3.out)
    have HG3 := Lib.hid (Lib.grownBy_below (World.grownBy.refl w (some g)) HB3.out)
    clear x1 x2
    clear HRD
    have hsh := HSH.out
    have hk1 := HHK.out
    obtain ⟨ad, rfl, _⟩ := Rd.cells H3.out.row (by omega)
    have x1 := H3.out.x1
    have x2 := H3.out.x2
    go_wp2_with fail
    go_quiet (fail)
    rename_i nq
    have H4 := Lib.hid (H3.out.below (pw_below_drewN (Below.refl _ _) nq))
    have HG4 := Lib.hid (Lib.grownBy_below HG3.out (pw_below_drewN (Below.refl _ _) nq))
    generalize w3.drewN nq = w4 at H4 HG4 ⊢
    clear x1 x2 d1
    have x1 := H4.out.x1
    have x2 := H4.out.x2
    have HT := Lib.hid (show ∀ W, Below w4.heap.size w4 W → Rd W (some (ad.add (a + K))) M ((l.take (a + (K + M))).drop (a + K)) from fun W hb => by
      have hq := Rd.mid (x := ad.add (a + K)) (Kd.C_below H4.out.row hb) (a + K) (a + (K + M)) (by omega) (by omega) (fun _ => rfl)
      rwa [show a + (K + M) - (a + K) = M by omega] at hq)
    have k0 := fun i => Kd.C_string (P := Tryd.prog) (src := 34) (dst := 9) (e := 5) Tryd.underlying34 Tryd.underlying5 Tryd.underlying9 (c := c - (a + K)) (HT.out (w4.drewN i) (pw_below_drewN (Below.refl _ _) _))
    have g3 : (0 : Int) ≤ (a : Int) + K := by omega
    have g4 : (0 : Int) ≤ (a : Int) + K + M := by omega
    have g5 : (a : Int) + K ≤ c := by omega
    have g6 : (a : Int) + K + M ≤ c := by omega
    have g7 : (a : Int) + K ≤ (a : Int) + K + M := by omega
    have g8 : ((a : Int) + K).toNat = a + K := by omega
    have g9 : ((a : Int) + K + M).toNat = a + K + M := by omega
    have g11 : a + K + M - (a + K) = M := by omega
    go_wp2_with fail
    by_cases hc : c = a + K
    · obtain rfl : M = 0 := by omega
      subst hc
      clear g3 g4 g5 g6 g7 g8 g9 g11 k0
      have g3 : (0 : Int) ≤ (a : Int) + K := by omega
      have g8 : ((a : Int) + K).toNat = a + K := by omega
      have k0 := fun i => Kd.C_string (P := Tryd.prog) (src := 34) (dst := 9) (e := 5) Tryd.underlying34 Tryd.underlying5 Tryd.underlying9 (c := 0) (Rd.empty (w4.drewN i) (some ad))
      have HNL := Lib.hid (show (l.take (a + (K + 0))).drop (a + K) = [] from List.drop_eq_nil_of_le (by rw [List.length_take]; omega))
      go_quiet (fail)
      have H5 := Lib.hid (H4.out.below (pw_below_drewN (Below.refl _ _) nq))
      have HG5 := Lib.hid (Lib.grownBy_below HG4.out (pw_below_drewN (Below.refl _ _) nq))
      generalize w4.drewN nq = w5 at H5 HG5 ⊢
      clear x1 x2 k0 g3 g8
      have x1 := H5.out.x1
      have x2 := H5.out.x2
      have f2 := H5.out.f2
      have H6 : RCur (w5.setCell ⟨g, 1, none⟩ (.int .i64 ((a : Int) + K))) g (some ad) n (a + K) l (a + (K + 0)) := by
        have := H5.out.set (a + (K + 0)) (by omega)
        rwa [show ((a + (K + 0) : Nat) : Int) = (a : Int) + K by omega] at this
      have hg6 : w.grownBy (w5.setCell ⟨g, 1, none⟩ (.int .i64 ((a : Int) + K))) (some g) := Lib.grownBy_setB HG5.out 1 _
      have H6' := Lib.hid H6
      have HG6 := Lib.hid hg6
      clear H6 hg6
      go_wp2
      go_ret2
      exact ⟨by rw [HNL.out]; rfl, H6'.out, HG6.out⟩
    · go_quiet (fail)
      have H5 := Lib.hid (H4.out.below (pw_below_drewN (Below.refl _ _) nq))
      have HG5 := Lib.hid (Lib.grownBy_below HG4.out (pw_below_drewN (Below.refl _ _) nq))
      generalize w4.drewN nq = w5 at H5 HG5 ⊢
      clear x1 x2 k0 g3 g4 g5 g6 g7 g8 g9 g11
      have x1 := H5.out.x1
      have x2 := H5.out.x2
      have f2 := H5.out.f2
      have H6 : RCur (w5.setCell ⟨g, 1, none⟩ (.int .i64 ((a : Int) + ((K : Int) + M)))) g (some ad) n c l (a + (K + M)) := by
        have := H5.out.set (a + (K + M)) (by omega)
        rwa [HE1.out] at this
      have hg6 : w.grownBy (w5.setCell ⟨g, 1, none⟩ (.int .i64 ((a : Int) + ((K : Int) + M)))) (some g) := Lib.grownBy_setB HG5.out 1 _
      have H6' := Lib.hid H6
      have HG6 := Lib.hid hg6
      clear H6 hg6
      go_wp2
      go_ret2
      exact ⟨rfl, H6'.out, HG6.out⟩
theorem RText_calls (most : Int) (w : World) (h : RCur w g A n c l a) (hb : Bytes l) (hs : n ≤ 140737488355328) :
    Calls Tryd.prog 41 #[.pointer (some ⟨g, 0, none⟩), .int .i64 most] w fun e w' => e = .returned (.tuple #[.string (strOfNums (readText (l.drop a) most).1), .int .i64 (readText (l.drop a) most).2.2]) ∧ RCur w' g A n c l (a + (readText (l.drop a) most).2.1) ∧ w.grownBy w' (some g) := by
  have hlen := Kd.C_len h.row
  have hle := h.le
  unfold readText
  by_cases hE : (readNum (l.drop a)).2.2 = 0
  · have hk := readNum_ok _ (hb.dp a) hE
    have hr : readNum (l.drop a) = ((readNum (l.drop a)).1, ((readNum (l.drop a)).2.1.toNat : Int), 0) := by rw [← hE, Int.toNat_of_nonneg (by omega)]
    rw [if_neg (by simp [hE])]
    by_cases h1 : max most 0 < (readNum (l.drop a)).1
    · rw [if_pos h1]
      exact RText_long most w h hb hs _ _ hr h1
    rw [if_neg h1]
    have hdl : (l.drop a).length = n - a := by rw [List.length_drop, hlen]
    by_cases h2 : ((l.drop a).length : Int) - (readNum (l.drop a)).2.1 < (readNum (l.drop a)).1
    · rw [if_pos h2]
      exact RText_short most w h hb hs _ _ hr h1 (by omega)
    rw [if_neg h2]
    refine (RText_ok most w h hb hs _ _ hr (readNum (l.drop a)).1.toNat (by omega) h1 (by omega)).mono fun e w' ⟨h1, h2, h3⟩ => ⟨?_, h2, h3⟩
    rw [h1, List.take_drop, List.drop_drop, ← Nat.add_assoc]
  · have hk := readNum_bad _ hE
    rw [if_pos hE]
    exact RText_bad most w h hb hs (readNum (l.drop a)).2.2 hE (Prod.ext hk.1 (Prod.ext hk.2 rfl))
end Go.Proofs.YtcgenmogedndjaaDoor
