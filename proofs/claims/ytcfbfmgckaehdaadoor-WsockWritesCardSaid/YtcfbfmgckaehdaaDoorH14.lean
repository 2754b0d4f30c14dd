/- The texts CharRef, First, CharLaw, CharsRef in one. -/
import Derived.Test.YtcfbfmgckaehdaaDoorH10
namespace Go.Proofs.YtcfbfmgckaehdaaDoor
open Go.RowKit Go.Proofs.YtcfbfmgckaehdaaDoorW.PrintWords
def charForm (n : Int) : List Int :=
  if n < 128 then [n] else if n < 2048 then [192 + n / 64, 128 + n % 64] else if n < 65536 then [224 + n / 4096, 128 + n / 64 % 64, 128 + n % 64]
  else [240 + n / 262144, 128 + n / 4096 % 64, 128 + n / 64 % 64, 128 + n % 64]
theorem char_calls (n : Int) (w : World) (h0 : 0 ≤ n) (h1 : n ≤ 1114111) :
    Calls Tryd.prog 69 #[.int .i64 n] w fun e w' => ∃ v0_ : Value, e = .returned (v0_) ∧ Own w w' v0_ (charForm n) ∧ Below w.heap.size w w' := by
  by_cases c1 : n < 128
  · have d1 : decide (n < 128) = true := decide_eq_true c1
    have HF := Lib.hid (show [n] = charForm n from (if_pos c1).symm)
    go_enter Tryd.func69, Tryd.ntmps69
    go_wp2
    go_ret
    exact ⟨_, rfl, (lit_one (Below.refl _ _) n).cast HF.out, below_alloc (Below.refl _ _) _⟩
  have d1 : decide (n < 128) = false := decide_eq_false c1
  by_cases c2 : n < 2048
  · have d2 : decide (n < 2048) = true := decide_eq_true c2
    have HF := Lib.hid (show [192 + n / 64, 128 + n % 64] = charForm n from ((if_neg c1).trans (if_pos c2)).symm)
    go_enter Tryd.func69, Tryd.ntmps69
    go_wp2
    go_ret
    exact ⟨_, rfl, (lit_two (Below.refl _ _) _ _).cast HF.out, below_alloc (Below.refl _ _) _⟩
  have d2 : decide (n < 2048) = false := decide_eq_false c2
  by_cases c3 : n < 65536
  · have d3 : decide (n < 65536) = true := decide_eq_true c3
    have HF := Lib.hid (show [224 + n / 4096, 128 + n / 64 % 64, 128 + n % 64] = charForm n from ((if_neg c1).trans ((if_neg c2).trans (if_pos c3))).symm)
    go_enter Tryd.func69, Tryd.ntmps69
    go_wp2
    go_ret
    exact ⟨_, rfl, (lit_three (Below.refl _ _) _ _ _).cast HF.out, below_alloc (Below.refl _ _) _⟩
  have d3 : decide (n < 65536) = false := decide_eq_false c3
  have HF := Lib.hid (show [240 + n / 262144, 128 + n / 4096 % 64, 128 + n / 64 % 64, 128 + n % 64] = charForm n from ((if_neg c1).trans ((if_neg c2).trans (if_neg c3))).symm)
  go_enter Tryd.func69, Tryd.ntmps69
  go_wp2
  go_ret
  exact ⟨_, rfl, (lit_four (Below.refl _ _) _ _ _ _).cast HF.out, below_alloc (Below.refl _ _) _⟩
end Go.Proofs.YtcfbfmgckaehdaaDoor
namespace Go.Proofs.YtcfbfmgckaehdaaDoor
open Go.RowKit Go.Proofs.YtcfbfmgckaehdaaDoorW.PrintWords
def startOf (k : Nat) (x : Int) : Int := if k = 1 then x else if k = 2 then x % 32 else if k = 3 then x % 16 else x % 8
def numAt (l : List Int) (s : Int) (i : Nat) : Int := ((l.take i).drop 1).foldl (fun n x => 64 * n + x % 64) s
def numOf (l : List Int) (k : Nat) : Int := numAt l (startOf k (rd l 0)) k
def badNum (n : Int) : Bool := decide (1114111 < n) || (decide (55296 ≤ n) && decide (n < 57344))
def firstOk (l : List Int) (k : Nat) : Bool := !badNum (numOf l k) && decide (charForm (numOf l k) = l.take k)
/-- The first of some numbers of bytes with which a character begins. -/
def firstFrom (l : List Int) : Nat → Nat → Int
  | 0, _ => 0
  | r + 1, k => if k ≤ l.length then (if firstOk l k then k else firstFrom l r (k + 1)) else 0
theorem numAt_one (l : List Int) (s : Int) : numAt l s 1 = s := by
  unfold numAt
  rw [List.drop_eq_nil_of_le (by simp only [List.length_take]; omega)]
  rfl
theorem numAt_succ (l : List Int) (s : Int) (i : Nat) (h1 : 1 ≤ i) (h : i < l.length) : numAt l s (i + 1) = 64 * numAt l s i + rd l i % 64 := by
  unfold numAt
  rw [List.take_add_one, List.drop_append_of_le_length (by simp only [List.length_take]; omega), List.getElem?_eq_getElem h, rd_get l i h, List.foldl_append]
  rfl
theorem charForm_Bytes (n : Int) (h0 : 0 ≤ n) (h1 : n ≤ 1114111) : Bytes (charForm n) := by
  unfold charForm
  repeat' split
  · exact Bytes.con (by omega) (by omega) Bytes.nil
  · exact Bytes.con (by omega) (by omega) (Bytes.con (by omega) (by omega) Bytes.nil)
  · exact Bytes.con (by omega) (by omega) (Bytes.con (by omega) (by omega) (Bytes.con (by omega) (by omega) Bytes.nil))
  · exact Bytes.con (by omega) (by omega) (Bytes.con (by omega) (by omega) (Bytes.con (by omega) (by omega) (Bytes.con (by omega) (by omega) Bytes.nil)))
set_option maxHeartbeats 1600000 in
theorem first_calls {n : Nat} (A0 : Option Addr) (c0 : Nat) (l0 : List Int) (w : World) (hr0 : Rd w A0 n l0) (hc0 : n ≤ c0) (hb0 : Bytes l0) (h0 : 0 < n) :
    Calls Tryd.prog 58 #[.slice A0 n c0] w fun e w' => e = .returned (.int .i64 (firstFrom l0 4 1)) ∧ Below w.heap.size w w' := by
  have hlen := Kd.C_len hr0
  have HR := Lib.hid hr0
  have HBY := Lib.hid hb0
  have HLEN := Lib.hid hlen
  clear hr0 hb0 hlen
  go_enter Tryd.func58, Tryd.ntmps58
  go_wp2
  go_loopw [3] (fun i wr => ∃ k : Nat, 1 ≤ k ∧ k ≤ 5 ∧ i = .int .i64 k ∧ Hid (firstFrom l0 (5 - k) k = firstFrom l0 4 1) ∧ Hid (Below w.heap.size w wr)) (fun i _ => (5 - intOf i).toNat)
  case atStart => exact ⟨1, by omega, by omega, rfl, Lib.hid rfl, Lib.hid (Below.refl _ _)⟩
  case round =>
    obtain ⟨k, hk1, hk5, rfl, HF, HB⟩ := hrel
    by_cases hk4 : k = 5
    · subst hk4
      have HE := Lib.hid (show firstFrom l0 4 1 = 0 from HF.out.symm)
      go_wp2
      go_ret
      exact ⟨ret_int HE.out.symm, HB.out⟩
    have dk4 : decide ((k : Int) ≤ 4) = true := decide_eq_true (by omega)
    by_cases hkn : k ≤ n
    · have dkn : decide (k ≤ n) = true := decide_eq_true hkn
      have HS := Lib.hid (show firstFrom l0 4 1 = if firstOk l0 k then (k : Int) else firstFrom l0 (5 - (k + 1)) (k + 1) by
        rw [← HF.out, show 5 - k = (5 - (k + 1)) + 1 by omega, firstFrom, if_pos (by rw [HLEN.out]; exact hkn)])
      have HRW := Lib.hid (Kd.C_below HR.out HB.out)
      obtain ⟨ad, rfl, hcell⟩ := Rd.cells HRW.out h0
      have hx0 := hcell 0 (by omega)
      rw [Addr.add_zero'] at hx0
      obtain ⟨x0, x1⟩ := bytes_rd HBY.out 0 (by rw [HLEN.out]; exact h0)
      obtain ⟨x, hx⟩ : ∃ x, x = rd l0 ((0 : Nat) : Int) := ⟨_, rfl⟩
      rw [← hx] at hx0 x0 x1
      have HX := Lib.hid hx
      have hw0 := wrap_id x0 (by omega)
      have HC := Lib.hid hcell
      clear hx hcell
      go_upto_if 21 with (fail)
      go_cut [4] (fun v wc => wc = wr ∧ ∃ s : Int, v = .int .i64 s ∧ 0 ≤ s ∧ s < 256 ∧ Hid (s = startOf k (rd l0 0)))
      case first =>
        have hk4' : k = 1 ∨ k = 2 ∨ k = 3 ∨ k = 4 := by omega
        rcases hk4' with rfl | rfl | rfl | rfl
        all_goals
          go_wp2
          go_meet
          case rel =>
            refine ⟨rfl, _, rfl, ?_, ?_, Lib.hid ?_⟩
            · first | exact x0 | exact Int.emod_nonneg _ (by decide)
            · first | exact x1 | (have := HX; simp; omega)
            · rw [show rd l0 0 = x from HX.out.symm]; rfl
      case rest =>
        obtain ⟨rfl, s, rfl, s0, s1, HST⟩ := hcut
        go_wp2_with fail
        go_loopw [4, 5] (fun a i wr' => wr' = wc ∧ ∃ (j : Nat) (m : Int), 1 ≤ j ∧ j ≤ k ∧ a = .int .i64 m ∧ i = .int .i64 j ∧ 0 ≤ m ∧ (j = 1 → m < 256) ∧ (j = 2 → m < 16384) ∧ (j = 3 → m < 1048576) ∧ (j = 4 → m < 67108864) ∧ Hid (m = numAt l0 s j)) (fun _ i _ => k - (intOf i).toNat)
        case atStart => exact ⟨rfl, 1, s, by omega, by omega, rfl, rfl, s0, fun _ => s1, fun h => by omega, fun h => by omega, fun h => by omega, Lib.hid (numAt_one _ _).symm⟩
        case round =>
          obtain ⟨rfl, j, m, hj1, hjk, rfl, rfl, m0, m1, m2, m3, m4, HM⟩ := hrel
          by_cases hj : j < k
          · have hx := HC.out j (by omega)
            obtain ⟨y0, y1⟩ := bytes_rd HBY.out j (by rw [HLEN.out]; omega)
            obtain ⟨y, hy⟩ : ∃ y, y = rd l0 (j : Int) := ⟨_, rfl⟩
            rw [← hy] at hx y0 y1
            have HMS := Lib.hid (show numAt l0 s (j + 1) = 64 * m + y % 64 by rw [numAt_succ l0 s j hj1 (by rw [HLEN.out]; omega), HM.out, hy])
            have hmb : m < 67108864 := by omega
            have hw1 := wrap_id (x := 64 * m) (by omega) (by omega)
            have hw2 := wrap_id y0 (by omega)
            have hw3 : y.tmod 64 = y % 64 := by rw [Int.tmod_eq_emod_of_nonneg y0]
            have hw4 := wrap_id (x := 64 * m + y % 64) (by omega) (by omega)
            clear hy
            go_wp2
            go_roundw
            case rel =>
              refine ⟨by first | rfl | trivial, j + 1, 64 * m + y % 64, by omega, by omega, ?_, by go_num, by omega, fun h => by omega, fun h => ?_, fun h => ?_, fun h => ?_, Lib.hid HMS.out.symm⟩
              · first | rfl | (rw [hw4]; done)
              · have := m1 (by omega); omega
              · have := m2 (by omega); omega
              · have := m3 (by omega); omega
            case measure => simp [intOf]; omega
          · obtain rfl : j = k := by omega
            have HNUM := Lib.hid (show m = numOf l0 j by rw [HM.out, HST.out]; rfl)
            have hk4' : j = 1 ∨ j = 2 ∨ j = 3 ∨ j = 4 := by omega
            have hmb : m < 67108864 := by omega
            by_cases hbad : badNum m = true
            · have HN := Lib.hid (show firstFrom l0 (5 - (j + 1)) (j + 1) = firstFrom l0 4 1 by
                rw [HS.out, if_neg]
                unfold firstOk
                rw [← HNUM.out, hbad]
                simp)
              by_cases c1 : 1114111 < m
              · have d1 : decide (1114111 < m) = true := decide_eq_true c1
                go_wp2
                go_roundw
                case rel => exact ⟨j + 1, by omega, by omega, by go_num, HN, HB⟩
                case measure => simp [intOf]; omega
              · have d1 : decide (1114111 < m) = false := decide_eq_false c1
                obtain ⟨c2, c3⟩ : 55296 ≤ m ∧ m < 57344 := by simpa [badNum, c1] using hbad
                have d2 : decide (55296 ≤ m) = true := decide_eq_true c2
                have d3 : decide (m < 57344) = true := decide_eq_true c3
                clear hbad
                go_wp2
                go_roundw
                case rel => exact ⟨j + 1, by omega, by omega, by go_num, HN, HB⟩
                case measure => simp [intOf]; omega
            · have hbad' : ¬ 1114111 < m ∧ (55296 ≤ m → ¬ m < 57344) := by simpa [badNum] using hbad
              have c1 := hbad'.1
              have HOK := Lib.hid (show firstOk l0 j = decide (charForm m = l0.take j) by
                unfold firstOk
                rw [← HNUM.out, Bool.eq_false_iff.2 hbad]
                rfl)
              have d1 : decide (1114111 < m) = false := decide_eq_false c1
              have HCF := Lib.hid (charForm_Bytes m m0 (by omega))
              have HK := Lib.hid (fun (W : World) (h : Below w.heap.size w W) => (show Hid (Below w.heap.size w W) ∧ (Go.convert 22 9 (.slice (some ad) j c0)).run Tryd.prog W = .ok (.string (strOfNums (l0.take j))) W from ⟨Lib.hid h, Kd.C_string Tryd.underlying22 Tryd.underlying5 Tryd.underlying9 (Rd.take (Kd.C_below HR.out h) j hkn)⟩))
              have f6 : (j : Int) ≤ c0 := by omega
              have HEQ := Lib.hid (strOf_eql HCF.out (HBY.out.tk j))
              go_upto_region 12 with (fail)
              all_goals
                go_cut [58] (fun v wc => ∃ b : Bool, v = .bool b ∧ Hid (b = decide (charForm m = l0.take j)) ∧ Hid (Below w.heap.size w wc))
                case first =>
                  have kC := (HK.out _ (below_drew HB.out)).2
                  go_region_with (go_at_call 69; refine (char_calls m _ m0 (by omega)).mono ?_; rintro e w1 ⟨v1, rfl, ho1, hb1⟩; obtain ⟨A1, c1, rfl, hc1, hrd1⟩ := ho1.reads; have k0 := fun a => Kd.C_string (P := Tryd.prog) (src := 22) (dst := 9) (e := 5) Tryd.underlying22 Tryd.underlying5 Tryd.underlying9 (c := c1) (Kd.C_drewN hrd1 a); have k1 := Kd.C_string (P := Tryd.prog) (src := 22) (dst := 9) (e := 5) Tryd.underlying22 Tryd.underlying5 Tryd.underlying9 (c := c1) hrd1; have HB1 := Lib.hid (below_step (below_drew HB.out) hb1); have k2 := (HK.out _ HB1.out).2; have k3 := fun a => (HK.out _ (pw_below_drewN HB1.out a)).2; clear ho1 hb1 hrd1)
                  all_goals
                    go_wp2
                    go_meet
                    case rel => exact ⟨_, rfl, HEQ, HB1⟩
                case rest =>
                  obtain ⟨b, rfl, HBQ, HB2⟩ := hcut
                  cases b with
                  | true =>
                    have HE := Lib.hid (show firstFrom l0 4 1 = j by rw [HS.out, HOK.out, ← HBQ.out, if_pos rfl])
                    go_wp2
                    go_ret
                    exact ⟨ret_int HE.out.symm, HB2.out⟩
                  | false =>
                    have HN := Lib.hid (show firstFrom l0 (5 - (j + 1)) (j + 1) = firstFrom l0 4 1 by rw [HS.out, HOK.out, ← HBQ.out, if_neg (by simp)])
                    go_wp2
                    go_roundw
                    case rel => exact ⟨j + 1, by omega, by omega, by go_num, HN, HB2⟩
                    case measure => simp [intOf]; omega
    · have dkn : decide (k ≤ n) = false := decide_eq_false hkn
      have HE := Lib.hid (show firstFrom l0 4 1 = 0 by
        rw [← HF.out, show 5 - k = (5 - (k + 1)) + 1 by omega, firstFrom, if_neg (by rw [HLEN.out]; exact hkn)])
      go_wp2
      go_ret
      exact ⟨ret_int HE.out.symm, HB.out⟩
end Go.Proofs.YtcfbfmgckaehdaaDoor
namespace Go.Proofs.YtcfbfmgckaehdaaDoor
open Go.RowKit Go.Proofs.YtcfbfmgckaehdaaDoorW.PrintWords
theorem numOf_one (a : Int) (t : List Int) : numOf (a :: t) 1 = a := rfl
theorem numOf_two (a b : Int) (t : List Int) : numOf (a :: b :: t) 2 = 64 * (a % 32) + b % 64 := rfl
theorem numOf_three (a b c : Int) (t : List Int) : numOf (a :: b :: c :: t) 3 = 64 * (64 * (a % 16) + b % 64) + c % 64 := rfl
theorem numOf_four (a b c d : Int) (t : List Int) : numOf (a :: b :: c :: d :: t) 4 = 64 * (64 * (64 * (a % 8) + b % 64) + c % 64) + d % 64 := rfl
theorem badNum_iff (n : Int) : badNum n = true ↔ (1114111 < n ∨ (55296 ≤ n ∧ n < 57344)) := by simp [badNum]
theorem ok_iff (l : List Int) (k : Nat) : firstOk l k = true ↔ (¬ (1114111 < numOf l k ∨ (55296 ≤ numOf l k ∧ numOf l k < 57344)) ∧ charForm (numOf l k) = l.take k) := by
  unfold firstOk
  rw [Bool.and_eq_true, decide_eq_true_eq, Bool.not_eq_true', ← Bool.not_eq_true, badNum_iff]
theorem form_one (n a : Int) : charForm n = [a] ↔ (n < 128 ∧ n = a) := by
  unfold charForm
  repeat' split
  all_goals simp
  all_goals omega
theorem form_two (n a b : Int) : charForm n = [a, b] ↔ (128 ≤ n ∧ n < 2048 ∧ 192 + n / 64 = a ∧ 128 + n % 64 = b) := by
  unfold charForm
  repeat' split
  all_goals simp
  all_goals omega
theorem form_three (n a b c : Int) : charForm n = [a, b, c] ↔ (2048 ≤ n ∧ n < 65536 ∧ 224 + n / 4096 = a ∧ 128 + n / 64 % 64 = b ∧ 128 + n % 64 = c) := by
  unfold charForm
  repeat' split
  all_goals simp
  all_goals omega
theorem form_four (n a b c d : Int) : charForm n = [a, b, c, d] ↔ (65536 ≤ n ∧ 240 + n / 262144 = a ∧ 128 + n / 4096 % 64 = b ∧ 128 + n / 64 % 64 = c ∧ 128 + n % 64 = d) := by
  unfold charForm
  repeat' split
  all_goals simp
  all_goals omega
theorem ok_one (a : Int) (t : List Int) : firstOk (a :: t) 1 = true ↔ a < 128 := by
  rw [ok_iff, numOf_one, show (a :: t).take 1 = [a] from rfl, form_one]
  omega
theorem ok_two (a b : Int) (t : List Int) (a0 : 0 ≤ a) (a1 : a < 256) (b0 : 0 ≤ b) (b1 : b < 256) : firstOk (a :: b :: t) 2 = true ↔ (194 ≤ a ∧ a ≤ 223 ∧ 128 ≤ b ∧ b ≤ 191) := by
  rw [ok_iff, numOf_two, show (a :: b :: t).take 2 = [a, b] from rfl, form_two]
  obtain ⟨n, hn⟩ : ∃ n, n = 64 * (a % 32) + b % 64 := ⟨_, rfl⟩
  rw [← hn]
  constructor
  · intro h; omega
  · intro h; omega
theorem ok_three (a b c : Int) (t : List Int) (a0 : 0 ≤ a) (a1 : a < 256) (b0 : 0 ≤ b) (b1 : b < 256) (c0 : 0 ≤ c) (c1 : c < 256) : firstOk (a :: b :: c :: t) 3 = true ↔ (224 ≤ a ∧ a ≤ 239 ∧ 128 ≤ b ∧ b ≤ 191 ∧ 128 ≤ c ∧ c ≤ 191 ∧ (a = 224 → 160 ≤ b) ∧ (a = 237 → b ≤ 159)) := by
  rw [ok_iff, numOf_three, show (a :: b :: c :: t).take 3 = [a, b, c] from rfl, form_three]
  obtain ⟨n, hn⟩ : ∃ n, n = 64 * (64 * (a % 16) + b % 64) + c % 64 := ⟨_, rfl⟩
  rw [← hn]
  constructor
  · intro h; omega
  · intro h; omega
theorem ok_four (a b c d : Int) (t : List Int) (a0 : 0 ≤ a) (a1 : a < 256) (b0 : 0 ≤ b) (b1 : b < 256) (c0 : 0 ≤ c) (c1 : c < 256) (d0 : 0 ≤ d) (d1 : d < 256) : firstOk (a :: b :: c :: d :: t) 4 = true ↔ (240 ≤ a ∧ a ≤ 244 ∧ 128 ≤ b ∧ b ≤ 191 ∧ 128 ≤ c ∧ c ≤ 191 ∧ 128 ≤ d ∧ d ≤ 191 ∧ (a = 240 → 144 ≤ b) ∧ (a = 244 → b ≤ 143)) := by
  rw [ok_iff, numOf_four, show (a :: b :: c :: d :: t).take 4 = [a, b, c, d] from rfl, form_four]
  obtain ⟨n, hn⟩ : ∃ n, n = 64 * (64 * (64 * (a % 8) + b % 64) + c % 64) + d % 64 := ⟨_, rfl⟩
  rw [← hn]
  constructor
  · intro h; omega
  · intro h; omega
theorem charLen_of (a : Int) (t : List Int) (n : Nat) (lo hi : Int) (h : longOf a = ((n : Int), lo, hi)) : charLen (a :: t) = if n = 0 then 0 else if conts (n - 1) lo hi t then n else 0 := by
  simp only [charLen, h]
  simp
theorem charLen_cons (a : Int) (t : List Int) : charLen (a :: t) = if a < 128 then 1 else if a < 194 then 0 else if a < 224 then (if conts 1 128 191 t then 2 else 0) else if a = 224 then (if conts 2 160 191 t then 3 else 0) else if a = 237 then (if conts 2 128 159 t then 3 else 0) else if a < 240 then (if conts 2 128 191 t then 3 else 0) else if a = 240 then (if conts 3 144 191 t then 4 else 0) else if a < 244 then (if conts 3 128 191 t then 4 else 0) else if a = 244 then (if conts 3 128 143 t then 4 else 0) else 0 := by
  by_cases c0 : a < 128
  · rw [charLen_of a t 1 128 191 (by unfold longOf; repeat' split; all_goals first | rfl | omega)]
    rw [if_pos c0]
    first | rfl | (simp [conts]; done)
  by_cases c1 : a < 194
  · rw [charLen_of a t 0 0 0 (by unfold longOf; repeat' split; all_goals first | rfl | omega)]
    rw [if_neg c0, if_pos c1]
    first | rfl | (simp [conts]; done)
  by_cases c2 : a < 224
  · rw [charLen_of a t 2 128 191 (by unfold longOf; repeat' split; all_goals first | rfl | omega)]
    rw [if_neg c0, if_neg c1, if_pos c2]
    first | rfl | (simp [conts]; done)
  by_cases c3 : a = 224
  · rw [charLen_of a t 3 160 191 (by unfold longOf; repeat' split; all_goals first | rfl | omega)]
    rw [if_neg c0, if_neg c1, if_neg c2, if_pos c3]
    first | rfl | (simp [conts]; done)
  by_cases c4 : a = 237
  · rw [charLen_of a t 3 128 159 (by unfold longOf; repeat' split; all_goals first | rfl | omega)]
    rw [if_neg c0, if_neg c1, if_neg c2, if_neg c3, if_pos c4]
    first | rfl | (simp [conts]; done)
  by_cases c5 : a < 240
  · rw [charLen_of a t 3 128 191 (by unfold longOf; repeat' split; all_goals first | rfl | omega)]
    rw [if_neg c0, if_neg c1, if_neg c2, if_neg c3, if_neg c4, if_pos c5]
    first | rfl | (simp [conts]; done)
  by_cases c6 : a = 240
  · rw [charLen_of a t 4 144 191 (by unfold longOf; repeat' split; all_goals first | rfl | omega)]
    rw [if_neg c0, if_neg c1, if_neg c2, if_neg c3, if_neg c4, if_neg c5, if_pos c6]
    first | rfl | (simp [conts]; done)
  by_cases c7 : a < 244
  · rw [charLen_of a t 4 128 191 (by unfold longOf; repeat' split; all_goals first | rfl | omega)]
    rw [if_neg c0, if_neg c1, if_neg c2, if_neg c3, if_neg c4, if_neg c5, if_neg c6, if_pos c7]
    first | rfl | (simp [conts]; done)
  by_cases c8 : a = 244
  · rw [charLen_of a t 4 128 143 (by unfold longOf; repeat' split; all_goals first | rfl | omega)]
    rw [if_neg c0, if_neg c1, if_neg c2, if_neg c3, if_neg c4, if_neg c5, if_neg c6, if_neg c7, if_pos c8]
    first | rfl | (simp [conts]; done)
  rw [charLen_of a t 0 0 0 (by unfold longOf; repeat' split; all_goals first | rfl | omega)]
  rw [if_neg c0, if_neg c1, if_neg c2, if_neg c3, if_neg c4, if_neg c5, if_neg c6, if_neg c7, if_neg c8]
  rfl
set_option maxHeartbeats 4000000 in
theorem first_charLen (l : List Int) (h : Bytes l) (h0 : 0 < l.length) : firstFrom l 4 1 = charLen l := by
  match l, h, h0 with
  | [a], h, _ =>
    obtain ⟨a0, a1⟩ := h a (by simp)
    have e1 := ok_one a []
    rw [charLen_cons]
    simp only [firstFrom, List.length_cons, List.length_nil, conts]
    cases q1 : firstOk [a] 1 <;> rw [q1] at e1
    all_goals
      simp only [true_iff, Bool.false_eq_true, false_iff] at e1
      try (exfalso; omega)
    all_goals
      simp
      repeat' split
      all_goals first | rfl | omega
  | [a, b], h, _ =>
    obtain ⟨a0, a1⟩ := h a (by simp)
    obtain ⟨b0, b1⟩ := h b (by simp)
    have e1 := ok_one a [b]
    have e2 := ok_two a b [] a0 a1 b0 b1
    rw [charLen_cons]
    simp only [firstFrom, List.length_cons, List.length_nil, conts]
    cases q1 : firstOk [a, b] 1 <;> cases q2 : firstOk [a, b] 2 <;> rw [q1] at e1 <;> rw [q2] at e2
    all_goals
      simp only [true_iff, Bool.false_eq_true, false_iff] at e1 e2
      try (exfalso; omega)
    all_goals
      simp
      repeat' split
      all_goals first | rfl | omega
  | [a, b, c], h, _ =>
    obtain ⟨a0, a1⟩ := h a (by simp)
    obtain ⟨b0, b1⟩ := h b (by simp)
    obtain ⟨c0, c1⟩ := h c (by simp)
    have e1 := ok_one a [b, c]
    have e2 := ok_two a b [c] a0 a1 b0 b1
    have e3 := ok_three a b c [] a0 a1 b0 b1 c0 c1
    rw [charLen_cons]
    simp only [firstFrom, List.length_cons, List.length_nil, conts]
    cases q1 : firstOk [a, b, c] 1 <;> cases q2 : firstOk [a, b, c] 2 <;> cases q3 : firstOk [a, b, c] 3 <;> rw [q1] at e1 <;> rw [q2] at e2 <;> rw [q3] at e3
    all_goals
      simp only [true_iff, Bool.false_eq_true, false_iff] at e1 e2 e3
      try (exfalso; omega)
    all_goals
      simp
      repeat' split
      all_goals first | rfl | omega
  | a :: b :: c :: d :: t, h, _ =>
    obtain ⟨a0, a1⟩ := h a (by simp)
    obtain ⟨b0, b1⟩ := h b (by simp)
    obtain ⟨c0, c1⟩ := h c (by simp)
    obtain ⟨d0, d1⟩ := h d (by simp)
    have e1 := ok_one a (b :: c :: d :: t)
    have e2 := ok_two a b (c :: d :: t) a0 a1 b0 b1
    have e3 := ok_three a b c (d :: t) a0 a1 b0 b1 c0 c1
    have e4 := ok_four a b c d t a0 a1 b0 b1 c0 c1 d0 d1
    rw [charLen_cons]
    simp only [firstFrom, List.length_cons, conts]
    cases q1 : firstOk (a :: b :: c :: d :: t) 1 <;> cases q2 : firstOk (a :: b :: c :: d :: t) 2 <;> cases q3 : firstOk (a :: b :: c :: d :: t) 3 <;> cases q4 : firstOk (a :: b :: c :: d :: t) 4 <;> rw [q1] at e1 <;> rw [q2] at e2 <;> rw [q3] at e3 <;> rw [q4] at e4
    all_goals
      simp only [true_iff, Bool.false_eq_true, false_iff] at e1 e2 e3 e4
      try (exfalso; omega)
    all_goals
      simp
      repeat' split
      all_goals first | rfl | omega
end Go.Proofs.YtcfbfmgckaehdaaDoor
namespace Go.Proofs.YtcfbfmgckaehdaaDoor
open Go.RowKit Go.Proofs.YtcfbfmgckaehdaaDoorW.PrintWords
set_option maxHeartbeats 800000 in
theorem CharsRef_calls {n : Nat} (A0 : Option Addr) (c0 : Nat) (l0 : List Int) (w : World) (hr0 : Rd w A0 n l0) (hc0 : n ≤ c0) (hb0 : Bytes l0) :
    Calls Tryd.prog 48 #[.slice A0 n c0] w fun e w' => e = .returned (.int .i64 (charsOf l0)) ∧ Below w.heap.size w w' := by
  have hlen := Kd.C_len hr0
  have hmx := Kd.C_max hr0
  have HR := Lib.hid hr0
  have HBY := Lib.hid hb0
  have HLEN := Lib.hid hlen
  clear hr0 hb0 hlen
  go_enter Tryd.func48, Tryd.ntmps48
  go_wp2
  go_loopw [3] (fun i wr => ∃ k : Nat, k ≤ n ∧ i = .int .i64 k ∧ Hid (charsFrom l0 k = charsOf l0) ∧ Hid (Below w.heap.size w wr)) (fun i _ => n - (intOf i).toNat)
  case atStart => exact ⟨0, Nat.zero_le _, rfl, Lib.hid rfl, Lib.hid (Below.refl _ _)⟩
  case round =>
    obtain ⟨k, hk, rfl, HCF, HB⟩ := hrel
    by_cases hlt : k < n
    · have HRW := Lib.hid (Kd.C_below HR.out HB.out)
      have hd : decide ((k : Int) < n) = true := decide_eq_true (by omega)
      have HST := Lib.hid (show charsOf l0 = if charLen (l0.drop k) = 0 then (k : Int) else charsFrom l0 (k + charLen (l0.drop k)) by rw [← HCF.out, charsFrom, dif_pos (by rw [HLEN.out]; exact hlt)])
      have hle : charLen (l0.drop k) ≤ n - k := by have := charLen_le (l0.drop k); rw [List.length_drop, HLEN.out] at this; exact this
      have HFC := Lib.hid (first_charLen (l0.drop k) (HBY.out.dp k) (by rw [List.length_drop, HLEN.out]; omega))
      obtain ⟨L, hL⟩ : ∃ L, L = charLen (l0.drop k) := ⟨_, rfl⟩
      rw [← hL] at hle HFC HST
      clear hL
      obtain ⟨ad, rfl, _⟩ := Rd.cells HR.out (by omega)
      have HD := Lib.hid (show ∀ x : Addr, x = ad.add k → Rd wr (some x) (n - k) (l0.drop k) from fun x hx => by
        have := Rd.mid HRW.out k n hk (Nat.le_refl _) (fun _ => hx)
        rwa [List.take_of_length_le (by rw [HLEN.out]; exact Nat.le_refl _)] at this)
      go_wp2_with fail
      refine (first_calls _ _ (l0.drop k) _ (HD.out _ rfl) (by omega) (HBY.out.dp k) (by omega)).mono ?_
      rintro e w1 ⟨rfl, hb1⟩
      rw [HFC.out]
      have HB1 := Lib.hid (below_step HB.out hb1)
      clear hb1
      by_cases hL0 : L = 0
      · subst hL0
        have HE := Lib.hid (show charsOf l0 = k by rw [HST.out, if_pos rfl])
        go_wp2
        go_ret
        exact ⟨ret_int HE.out.symm, HB1.out⟩
      have hz : ((L : Int) == 0) = false := beq_eq_false_iff_ne.2 (by omega)
      have HN := Lib.hid (show charsFrom l0 (k + L) = charsOf l0 by rw [HST.out, if_neg hL0])
      go_wp2
      go_roundw
      case rel => exact ⟨k + L, by omega, by go_num, HN, HB1⟩
      case measure => simp [intOf]; omega
    · obtain rfl : k = n := by omega
      have HE := Lib.hid (show charsOf l0 = -1 by rw [← HCF.out, charsFrom, dif_neg (by rw [HLEN.out]; omega)])
      go_wp2
      go_ret
      exact ⟨ret_int HE.out.symm, HB.out⟩
end Go.Proofs.YtcfbfmgckaehdaaDoor
