/- blotterref01.Read: the number with which bytes begin. -/
import Derived.Test.YthbdgakeglppbaaReadForm
namespace Go.Proofs.Ythbdgakeglppbaa
open Go.RowKit Go.Proofs.YthbdgakeglppbaaW.PrintWords
theorem valOf_foldl (l : List Int) : ∀ x : Int, l.foldl (fun x d => 256 * x + d) x = x * 256 ^ l.length + valOf l := by
  induction l with
  | nil => intro x; simp [valOf]
  | cons d t ih =>
    intro x
    have e : valOf (d :: t) = d * 256 ^ t.length + valOf t := by
      show t.foldl _ (256 * 0 + d) = _
      rw [ih]
      simp
    rw [List.foldl_cons, ih, e, List.length_cons, Int.pow_succ, Int.add_mul, Int.mul_assoc, Int.mul_comm 256 (x * _), Int.mul_assoc]
    omega
theorem valOf_cons (d : Int) (t : List Int) : valOf (d :: t) = d * 256 ^ t.length + valOf t := by
  show t.foldl _ (256 * 0 + d) = _
  rw [valOf_foldl]
  simp
/-- What is asked of the second byte is what is asked of the whole number. -/
theorem top_byte (d : Int) (t : List Int) (hb : Bytes (d :: t)) (hl : t.length ≤ 7) :
    ((valOf (d :: t) ≤ 247 ∨ valOf (d :: t) / 256 ^ t.length = 0) ↔ (d = 0 ∨ (t.length = 0 ∧ d < 248))) ∧ (9223372036854775808 ≤ valOf (d :: t) ↔ (t.length = 7 ∧ 128 ≤ d)) := by
  have hd := hb d (by simp)
  have hr := valOf_range t (fun x hx => hb x (by simp [hx]))
  rw [valOf_cons]
  have hcase : t.length = 0 ∨ t.length = 1 ∨ t.length = 2 ∨ t.length = 3 ∨ t.length = 4 ∨ t.length = 5 ∨ t.length = 6 ∨ t.length = 7 := by omega
  rcases hcase with h | h | h | h | h | h | h | h
  all_goals
    rw [h] at hr ⊢
    simp at hr ⊢
    omega
theorem add_zero_addr (a : Addr) : a.add 0 = a := by simp [Addr.add]
theorem take_succ_valOf (l : List Int) (j : Nat) (h : j < l.length) : valOf (l.take (j + 1)) = 256 * valOf (l.take j) + rd l j := by
  rw [List.take_succ_eq_append_getElem h, valOf_snoc, rd_get l j h]
theorem rd_cons_succ (b : Int) (t : List Int) (j : Nat) : rd (b :: t) ((j + 1 : Nat) : Int) = rd t j := by simp [rd]
set_option maxRecDepth 20000 in
set_option maxHeartbeats 1600000 in
theorem Read_calls {n : Nat} (A0 : Option Addr) (c0 : Nat) (l : List Int) (w : World) (hr0 : Rd w A0 n l) (hb : Bytes l) (hs : n ≤ 140737488355328) :
    Calls Try.prog 65 #[.slice A0 n c0] w fun e w' => e = .returned (.tuple #[.int .i64 (readNum l).1, .int .i64 (readNum l).2.1, .int .i64 (readNum l).2.2]) ∧ Drawn0 w w' := by
  have hlen := Kd.C_len hr0
  cases l with
  | nil =>
    obtain rfl : n = 0 := hlen.symm
    clear hr0 hlen hb
    go_enter Try.func65, Try.ntmps65
    go_wp2
    go_ret3
    exact ⟨rfl, Drawn0.refl _⟩
  | cons b t =>
    have hn : n = t.length + 1 := by rw [← hlen]; rfl
    obtain ⟨b0, b1⟩ := hb b (by simp)
    obtain ⟨ad, rfl, hcell⟩ := Rd.cells hr0 (by omega)
    have hx := hcell 0 (by omega)
    rw [show rd (b :: t) ((0 : Nat) : Int) = b from rfl, add_zero_addr] at hx
    have HC := Lib.hid hcell
    have HY := Lib.hid hb
    have dn : ((n : Int) == 0) = false := beq_eq_false_iff_ne.2 (by omega)
    have i0 : (0 : Int) < n := by omega
    have hw1 : IntKind.i64.wrap b = b := wrap_id b0 (by omega)
    have hw2 : IntKind.i64.wrap (b - 247) = b - 247 := by rw [IntKind.wrap_i64]; omega
    clear hr0 hcell hb hlen
    by_cases h1 : b ≤ 247
    · have HE := Lib.hid (readNum_small b t h1)
      have d1 : decide (b - 247 ≤ 0) = true := decide_eq_true (by omega)
      clear h1 hn
      go_enter Try.func65, Try.ntmps65
      go_wp2
      go_ret3
      exact ⟨by rw [HE.out]; rfl, Drawn0.refl _⟩
    have d1 : decide (b - 247 ≤ 0) = false := decide_eq_false (by omega)
    have hw3 : IntKind.i64.wrap (b - 247 + 1) = b - 247 + 1 := by rw [IntKind.wrap_i64]; omega
    by_cases h2 : t.length < (b - 247).toNat
    · have HE := Lib.hid (readNum_short b t (by omega) h2)
      have d2 : decide ((n : Int) < b - 247 + 1) = true := decide_eq_true (by omega)
      clear hn
      go_enter Try.func65, Try.ntmps65
      go_wp2
      go_ret3
      exact ⟨by rw [HE.out]; rfl, Drawn0.refl _⟩
    have d2 : decide ((n : Int) < b - 247 + 1) = false := decide_eq_false (by omega)
    obtain ⟨m, hm⟩ : ∃ m, m = (b - 247).toNat := ⟨_, rfl⟩
    have hbm : b = 247 + (m : Int) := by omega
    have hm1 : 1 ≤ m ∧ m ≤ 8 := by omega
    rw [← hm] at h2
    cases t with
    | nil => simp at h2; omega
    | cons d r =>
      obtain ⟨e0, e1⟩ := HY.out d (by simp)
      have hx1 : w.cell? ⟨ad.block, ad.off + 1, none⟩ = some (.int .u8 d) := Rd.lit HC.out 0 (by rw [hn]; simp only [List.length_cons]; omega)
      have i1 : (1 : Int) < n := by rw [hn]; simp only [List.length_cons]; omega
      have HN := Lib.hid hn
      clear hn
      have htk : (d :: r).take m = d :: r.take (m - 1) := by obtain ⟨q, rfl⟩ : ∃ q, m = q + 1 := ⟨m - 1, by omega⟩; rfl
      have h2' : m ≤ r.length + 1 := by have := h2; rw [List.length_cons] at this; omega
      have hrl : (r.take (m - 1)).length = m - 1 := by rw [List.length_take]; omega
      have hT := top_byte d (r.take (m - 1)) (fun x hx => HY.out x (by
        rcases List.mem_cons.1 hx with rfl | hx
        · simp
        · simp [List.mem_of_mem_take hx])) (by rw [hrl]; omega)
      rw [hrl, ← htk] at hT
      obtain ⟨hT1, hT2⟩ := hT
      have hmi : (m : Int) - 1 + 1 = m := by omega
      clear hm
      subst hbm
      have em : (247 + (m : Int) - 247).toNat = m := by omega
      have g1 : 247 + (m : Int) - 247 = m := by omega
      rw [g1] at d1 d2 hw2 hw3
      have hw4 : IntKind.i64.wrap (247 + (m : Int) - 247) = m := by rw [g1, hw2]
      have dm0 : decide (m = 0) = false := decide_eq_false (by omega)
      have hnm : m < n := by rw [HN.out, List.length_cons]; omega
      have dm1 : decide (n < m + 1) = false := decide_eq_false (by omega)
      have dm2 : decide (n ≤ m) = false := decide_eq_false (by omega)
      by_cases h3 : d = 0 ∨ (m = 1 ∧ d < 248)
      · have HE := Lib.hid (readNum_form (247 + (m : Int)) (d :: r) (by omega) (by rw [em]; exact h2) (by rw [em]; exact hT1.2 (by omega)))
        by_cases h4 : d = 0
        case' pos =>
          have d3 : (d == 0) = true := beq_iff_eq.2 h4
        case' neg =>
          have d3 : (d == 0) = false := beq_eq_false_iff_ne.2 h4
          have d4 : ((m : Int) == 1) = true := beq_iff_eq.2 (by omega)
          have d5 : decide (d < 248) = true := decide_eq_true (by omega)
        all_goals
          clear h1 h2 h3 h4 hT1 hT2 hm1 hrl htk em hmi h2'
          go_enter Try.func65, Try.ntmps65
          go_wp2
          go_ret3
          exact ⟨by rw [HE.out]; rfl, Drawn0.refl _⟩
      have h3' : ¬ (valOf ((d :: r).take m) ≤ 247 ∨ valOf ((d :: r).take m) / 256 ^ (m - 1) = 0) := fun h => h3 (by have := hT1.1 h; omega)
      have d3 : (d == 0) = false := beq_eq_false_iff_ne.2 (by omega)
      have d4 : ((m : Int) == 1) = decide (m = 1) := by rw [Bool.eq_iff_iff]; simp; omega
      have d4' : ((m : Int) == 8) = decide (m = 8) := by rw [Bool.eq_iff_iff]; simp; omega
      have hd5 : m = 1 → decide (d < 248) = false := fun h => decide_eq_false (by omega)
      by_cases h5 : m = 8 ∧ 128 ≤ d
      · obtain ⟨h8, h9⟩ := h5
        have HE := Lib.hid (readNum_big (247 + (m : Int)) (d :: r) (by omega) (by rw [em]; exact h2) (by rw [em]; exact h3') (by rw [em]; exact hT2.2 (by omega)))
        have d5 : ((m : Int) == 1) = false := beq_eq_false_iff_ne.2 (by omega)
        have d6 : ((m : Int) == 8) = true := beq_iff_eq.2 (by omega)
        have d7 : decide (128 ≤ d) = true := decide_eq_true h9
        clear h1 h2 h3 h3' hT1 hT2 hm1 hrl htk em hmi h2' d4 d4' hd5 h8 h9 hnm
        go_enter Try.func65, Try.ntmps65
        go_wp2
        go_ret3
        exact ⟨by rw [HE.out]; rfl, Drawn0.refl _⟩
      have h5' : ¬ 9223372036854775808 ≤ valOf ((d :: r).take m) := fun h => h5 (by have := hT2.1 h; omega)
      have HE := Lib.hid (readNum_long (247 + (m : Int)) (d :: r) (by omega) (by rw [em]; exact h2) (by rw [em]; exact h3') (by rw [em]; exact h5'))
      rw [em] at HE
      obtain ⟨V, hV⟩ : ∃ V, V = valOf ((d :: r).take m) := ⟨_, rfl⟩
      rw [← hV] at HE h5'
      have HV := Lib.hid hV
      have HTL := Lib.hid (show m ≤ (d :: r).length by rw [List.length_cons]; exact h2')
      have hVR : ∀ j, j ≤ m → 0 ≤ valOf ((d :: r).take j) ∧ valOf ((d :: r).take j) ≤ V := by
        intro j hj
        have hbj : Bytes ((d :: r).take j) := fun x hx => HY.out x (by have := List.mem_of_mem_take hx; exact List.mem_cons_of_mem _ this)
        refine ⟨(valOf_range _ hbj).1, ?_⟩
        induction hq : m - j generalizing j with
        | zero => rw [show j = m by omega, hV]; exact Int.le_refl _
        | succ q ih =>
          have h6 := ih (j + 1) (by omega) (fun x hx => HY.out x (by have := List.mem_of_mem_take hx; exact List.mem_cons_of_mem _ this)) (by omega)
          rw [take_succ_valOf _ j (by have := HTL.out; omega)] at h6
          have h7 := bytes_rd (l := d :: r) (fun x hx => HY.out x (List.mem_cons_of_mem _ hx)) j (by have := HTL.out; omega)
          have h8 := (valOf_range _ hbj).1
          omega
      have HVR := Lib.hid hVR
      have d8 : (decide (m = 8) && decide (128 ≤ d)) = false := by rw [Bool.eq_false_iff]; simp; omega
      by_cases h8 : m = 8
      case' pos =>
        have d6 : ((m : Int) == 8) = true := beq_iff_eq.2 (by omega)
        have d7 : decide (128 ≤ d) = false := decide_eq_false (by omega)
        have d5 : ((m : Int) == 1) = false := beq_eq_false_iff_ne.2 (by omega)
      case' neg =>
        have d6 : ((m : Int) == 8) = false := beq_eq_false_iff_ne.2 (by omega)
        by_cases h9 : m = 1
        case' pos =>
          have d5 : ((m : Int) == 1) = true := beq_iff_eq.2 (by omega)
          have d7 : decide (d < 248) = false := hd5 h9
          clear h9
        case' neg =>
          have d5 : ((m : Int) == 1) = false := beq_eq_false_iff_ne.2 (by omega)
          clear h9
      all_goals
        clear h1 h2 h3 h3' hT1 hT2 hrl htk em hmi h2' d4 d4' hd5 h8 hVR d8
        go_enter Try.func65, Try.ntmps65
        go_wp2
        go_loopw [6, 7] (fun v i wr => w = wr ∧ ∃ (j : Nat) (y : Int), j ≤ m ∧ i = .int .i64 ((j : Int) + 1) ∧ v = .int .i64 y ∧ Hid (y = valOf ((d :: r).take j))) (fun _ i _ => m + 1 - (intOf i).toNat)
        case atStart => exact ⟨by first | rfl | trivial, 0, 0, by omega, rfl, rfl, Lib.hid rfl⟩
        case round =>
          obtain ⟨rfl, j, y, hj, rfl, rfl, HYV⟩ := hrel
          by_cases hjm : j < m
          · have dj : decide ((j : Int) + 1 ≤ m) = true := decide_eq_true (by omega)
            have dj2 : decide (j + 1 ≤ m) = true := decide_eq_true (by omega)
            have dj3 : decide (j < m) = true := decide_eq_true (by omega)
            obtain ⟨v, hv⟩ : ∃ v, v = rd (d :: r) j := ⟨_, rfl⟩
            have hxj := Rd.lit HC.out j (by omega)
            rw [rd_cons_succ, ← hv] at hxj
            obtain ⟨v0, v1⟩ := bytes_rd (l := d :: r) (fun x hx => HY.out x (List.mem_cons_of_mem _ hx)) j (by have := HTL.out; omega)
            rw [← hv] at v0 v1
            have hyr := HVR.out j (by omega)
            rw [← HYV.out] at hyr
            have HYV2 := Lib.hid (show 256 * y + v = valOf ((d :: r).take (j + 1)) by rw [take_succ_valOf _ j (by have := HTL.out; omega), ← HYV.out, hv])
            have hyr2 := HVR.out (j + 1) (by omega)
            rw [← HYV2.out] at hyr2
            have k1 : IntKind.i64.wrap (256 * y) = 256 * y := wrap_id (by omega) (by omega)
            have k2 : IntKind.i64.wrap (256 * y + v) = 256 * y + v := wrap_id (by omega) (by omega)
            have k3 : IntKind.i64.wrap v = v := wrap_id (by omega) (by omega)
            have k4 : IntKind.i64.wrap ((j : Int) + 1 + 1) = (j : Int) + 1 + 1 := wrap_id (by omega) (by omega)
            have k5 : (0 : Int) ≤ (j : Int) + 1 := by omega
            have k6 : (j : Int) + 1 < n := by omega
            have k7 : ((j : Int) + 1).toNat = j + 1 := by omega
            clear hv
            go_wp2
            go_roundw
            case rel => exact ⟨by first | rfl | trivial, j + 1, 256 * y + v, by omega, by go_num, by first | rfl | (rw [k2]), HYV2⟩
            case measure => simp [intOf]; omega
          · obtain rfl : j = m := by omega
            have dj : decide ((j : Int) + 1 ≤ j) = false := decide_eq_false (by omega)
            have dj2 : decide (j + 1 ≤ j) = false := decide_eq_false (by omega)
            have HYE := Lib.hid (show y = V by rw [HYV.out, HV.out])
            go_wp2
            go_ret3
            exact ⟨by rw [HE.out, ← HYE.out]; simp; omega, Drawn0.refl _⟩
end Go.Proofs.Ythbdgakeglppbaa
