/- The texts CharRef, First in one. -/
import Derived.Test.YtcfbfmgckaehdaaDoorG11
import Derived.Test.YtcfbfmgckaehdaaDoorG12
namespace Go.Proofs.YtcfbfmgckaehdaaDoor
open Go.RowKit Go.Proofs.YtcfbfmgckaehdaaDoorW.PrintWords
def charForm (n : Int) : List Int :=
  if n < 128 then [n] else if n < 2048 then [192 + n / 64, 128 + n % 64] else if n < 65536 then [224 + n / 4096, 128 + n / 64 % 64, 128 + n % 64]
  else [240 + n / 262144, 128 + n / 4096 % 64, 128 + n / 64 % 64, 128 + n % 64]
theorem char_calls (n : Int) (w : World) (h0 : 0 ≤ n) (h1 : n ≤ 1114111) :
    Calls Tryd.prog 69 #[.int .i64 n] w fun e w' => ∃ v0_ : Value, e = .returned (v0_) ∧ Own w w' v0_ (charForm n) ∧ Below w.heap.size w w' := by
  by_cases c1 : n < 128
  · have d1 : decide (n < 128) = true := decide_eq_true c1
    have HF := Lib.hid (show [n] = charForm n from (if_pos c1).symm)
    go_enter Tryd.func69, Tryd.ntmps69
    go_wp2
    go_ret
    exact ⟨_, rfl, (lit_one (Below.refl _ _) n).cast HF.out, below_alloc (Below.refl _ _) _⟩
  have d1 : decide (n < 128) = false := decide_eq_false c1
  by_cases c2 : n < 2048
  · have d2 : decide (n < 2048) = true := decide_eq_true c2
    have HF := Lib.hid (show [192 + n / 64, 128 + n % 64] = charForm n from ((if_neg c1).trans (if_pos c2)).symm)
    go_enter Tryd.func69, Tryd.ntmps69
    go_wp2
    go_ret
    exact ⟨_, rfl, (lit_two (Below.refl _ _) _ _).cast HF.out, below_alloc (Below.refl _ _) _⟩
  have d2 : decide (n < 2048) = false := decide_eq_false c2
  by_cases c3 : n < 65536
  · have d3 : decide (n < 65536) = true := decide_eq_true c3
    have HF := Lib.hid (show [224 + n / 4096, 128 + n / 64 % 64, 128 + n % 64] = charForm n from ((if_neg c1).trans ((if_neg c2).trans (if_pos c3))).symm)
    go_enter Tryd.func69, Tryd.ntmps69
    go_wp2
    go_ret
    exact ⟨_, rfl, (lit_three (Below.refl _ _) _ _ _).cast HF.out, below_alloc (Below.refl _ _) _⟩
  have d3 : decide (n < 65536) = false := decide_eq_false c3
  have HF := Lib.hid (show [240 + n / 262144, 128 + n / 4096 % 64, 128 + n / 64 % 64, 128 + n % 64] = charForm n from ((if_neg c1).trans ((if_neg c2).trans (if_neg c3))).symm)
  go_enter Tryd.func69, Tryd.ntmps69
  go_wp2
  go_ret
  exact ⟨_, rfl, (lit_four (Below.refl _ _) _ _ _ _).cast HF.out, below_alloc (Below.refl _ _) _⟩
end Go.Proofs.YtcfbfmgckaehdaaDoor
namespace Go.Proofs.YtcfbfmgckaehdaaDoor
open Go.RowKit Go.Proofs.YtcfbfmgckaehdaaDoorW.PrintWords
def startOf (k : Nat) (x : Int) : Int := if k = 1 then x else if k = 2 then x % 32 else if k = 3 then x % 16 else x % 8
def numAt (l : List Int) (s : Int) (i : Nat) : Int := ((l.take i).drop 1).foldl (fun n x => 64 * n + x % 64) s
def numOf (l : List Int) (k : Nat) : Int := numAt l (startOf k (rd l 0)) k
def badNum (n : Int) : Bool := decide (1114111 < n) || (decide (55296 ≤ n) && decide (n < 57344))
def firstOk (l : List Int) (k : Nat) : Bool := !badNum (numOf l k) && decide (charForm (numOf l k) = l.take k)
/-- The first of some numbers of bytes with which a character begins. -/
def firstFrom (l : List Int) : Nat → Nat → Int
  | 0, _ => 0
  | r + 1, k => if k ≤ l.length then (if firstOk l k then k else firstFrom l r (k + 1)) else 0
theorem numAt_one (l : List Int) (s : Int) : numAt l s 1 = s := by
  unfold numAt
  rw [List.drop_eq_nil_of_le (by simp only [List.length_take]; omega)]
  rfl
theorem numAt_succ (l : List Int) (s : Int) (i : Nat) (h1 : 1 ≤ i) (h : i < l.length) : numAt l s (i + 1) = 64 * numAt l s i + rd l i % 64 := by
  unfold numAt
  rw [List.take_add_one, List.drop_append_of_le_length (by simp only [List.length_take]; omega), List.getElem?_eq_getElem h, rd_get l i h, List.foldl_append]
  rfl
theorem charForm_Bytes (n : Int) (h0 : 0 ≤ n) (h1 : n ≤ 1114111) : Bytes (charForm n) := by
  unfold charForm
  repeat' split
  · exact Bytes.con (by omega) (by omega) Bytes.nil
  · exact Bytes.con (by omega) (by omega) (Bytes.con (by omega) (by omega) Bytes.nil)
  · exact Bytes.con (by omega) (by omega) (Bytes.con (by omega) (by omega) (Bytes.con (by omega) (by omega) Bytes.nil))
  · exact Bytes.con (by omega) (by omega) (Bytes.con (by omega) (by omega) (Bytes.con (by omega) (by omega) (Bytes.con (by omega) (by omega) Bytes.nil)))
set_option maxHeartbeats 1600000 in
theorem first_calls {n : Nat} (A0 : Option Addr) (c0 : Nat) (l0 : List Int) (w : World) (hr0 : Rd w A0 n l0) (hc0 : n ≤ c0) (hb0 : Bytes l0) (h0 : 0 < n) :
    Calls Tryd.prog 58 #[.slice A0 n c0] w fun e w' => e = .returned (.int .i64 (firstFrom l0 4 1)) ∧ Below w.heap.size w w' := by
  have hlen := Kd.C_len hr0
  have HR := Lib.hid hr0
  have HBY := Lib.hid hb0
  have HLEN := Lib.hid hlen
  clear hr0 hb0 hlen
  go_enter Tryd.func58, Tryd.ntmps58
  go_wp2
  go_loopw [3] (fun i wr => ∃ k : Nat, 1 ≤ k ∧ k ≤ 5 ∧ i = .int .i64 k ∧ Hid (firstFrom l0 (5 - k) k = firstFrom l0 4 1) ∧ Hid (Below w.heap.size w wr)) (fun i _ => (5 - intOf i).toNat)
  case atStart => exact ⟨1, by omega, by omega, rfl, Lib.hid rfl, Lib.hid (Below.refl _ _)⟩
  case round =>
    obtain ⟨k, hk1, hk5, rfl, HF, HB⟩ := hrel
    by_cases hk4 : k = 5
    · subst hk4
      have HE := Lib.hid (show firstFrom l0 4 1 = 0 from HF.out.symm)
      go_wp2
      go_ret
      exact ⟨ret_int HE.out.symm, HB.out⟩
    have dk4 : decide ((k : Int) ≤ 4) = true := decide_eq_true (by omega)
    by_cases hkn : k ≤ n
    · have dkn : decide (k ≤ n) = true := decide_eq_true hkn
      have HS := Lib.hid (show firstFrom l0 4 1 = if firstOk l0 k then (k : Int) else firstFrom l0 (5 - (k + 1)) (k + 1) by
        rw [← HF.out, show 5 - k = (5 - (k + 1)) + 1 by omega, firstFrom, if_pos (by rw [HLEN.out]; exact hkn)])
      have HRW := Lib.hid (Kd.C_below HR.out HB.out)
      obtain ⟨ad, rfl, hcell⟩ := Rd.cells HRW.out h0
      have hx0 := hcell 0 (by omega)
      rw [Addr.add_zero'] at hx0
      obtain ⟨x0, x1⟩ := bytes_rd HBY.out 0 (by rw [HLEN.out]; exact h0)
      obtain ⟨x, hx⟩ : ∃ x, x = rd l0 ((0 : Nat) : Int) := ⟨_, rfl⟩
      rw [← hx] at hx0 x0 x1
      have HX := Lib.hid hx
      have hw0 := wrap_id x0 (by omega)
      have HC := Lib.hid hcell
      clear hx hcell
      go_upto_if 21 with (fail)
      go_cut [4] (fun v wc => wc = wr ∧ ∃ s : Int, v = .int .i64 s ∧ 0 ≤ s ∧ s < 256 ∧ Hid (s = startOf k (rd l0 0)))
      case first =>
        have hk4' : k = 1 ∨ k = 2 ∨ k = 3 ∨ k = 4 := by omega
        rcases hk4' with rfl | rfl | rfl | rfl
        all_goals
          go_wp2
          go_meet
          case rel =>
            refine ⟨rfl, _, rfl, ?_, ?_, Lib.hid ?_⟩
            · first | exact x0 | exact Int.emod_nonneg _ (by decide)
            · first | exact x1 | (have := HX; simp; omega)
            · rw [show rd l0 0 = x from HX.out.symm]; rfl
      case rest =>
        obtain ⟨rfl, s, rfl, s0, s1, HST⟩ := hcut
        go_wp2_with fail
        go_loopw [4, 5] (fun a i wr' => wr' = wc ∧ ∃ (j : Nat) (m : Int), 1 ≤ j ∧ j ≤ k ∧ a = .int .i64 m ∧ i = .int .i64 j ∧ 0 ≤ m ∧ (j = 1 → m < 256) ∧ (j = 2 → m < 16384) ∧ (j = 3 → m < 1048576) ∧ (j = 4 → m < 67108864) ∧ Hid (m = numAt l0 s j)) (fun _ i _ => k - (intOf i).toNat)
        case atStart => exact ⟨rfl, 1, s, by omega, by omega, rfl, rfl, s0, fun _ => s1, fun h => by omega, fun h => by omega, fun h => by omega, Lib.hid (numAt_one _ _).symm⟩
        case round =>
          obtain ⟨rfl, j, m, hj1, hjk, rfl, rfl, m0, m1, m2, m3, m4, HM⟩ := hrel
          by_cases hj : j < k
          · have hx := HC.out j (by omega)
            obtain ⟨y0, y1⟩ := bytes_rd HBY.out j (by rw [HLEN.out]; omega)
            obtain ⟨y, hy⟩ : ∃ y, y = rd l0 (j : Int) := ⟨_, rfl⟩
            rw [← hy] at hx y0 y1
            have HMS := Lib.hid (show numAt l0 s (j + 1) = 64 * m + y % 64 by rw [numAt_succ l0 s j hj1 (by rw [HLEN.out]; omega), HM.out, hy])
            have hmb : m < 67108864 := by omega
            have hw1 := wrap_id (x := 64 * m) (by omega) (by omega)
            have hw2 := wrap_id y0 (by omega)
            have hw3 : y.tmod 64 = y % 64 := by rw [Int.tmod_eq_emod_of_nonneg y0]
            have hw4 := wrap_id (x := 64 * m + y % 64) (by omega) (by omega)
            clear hy
            go_wp2
            go_roundw
            case rel =>
              refine ⟨by first | rfl | trivial, j + 1, 64 * m + y % 64, by omega, by omega, ?_, by go_num, by omega, fun h => by omega, fun h => ?_, fun h => ?_, fun h => ?_, Lib.hid HMS.out.symm⟩
              · first | rfl | (rw [hw4]; done)
              · have := m1 (by omega); omega
              · have := m2 (by omega); omega
              · have := m3 (by omega); omega
            case measure => simp [intOf]; omega
          · obtain rfl : j = k := by omega
            have HNUM := Lib.hid (show m = numOf l0 j by rw [HM.out, HST.out]; rfl)
            have hk4' : j = 1 ∨ j = 2 ∨ j = 3 ∨ j = 4 := by omega
            have hmb : m < 67108864 := by omega
            by_cases hbad : badNum m = true
            · have HN := Lib.hid (show firstFrom l0 (5 - (j + 1)) (j + 1) = firstFrom l0 4 1 by
                rw [HS.out, if_neg]
                unfold firstOk
                rw [← HNUM.out, hbad]
                simp)
              by_cases c1 : 1114111 < m
              · have d1 : decide (1114111 < m) = true := decide_eq_true c1
                go_wp2
                go_roundw
                case rel => exact ⟨j + 1, by omega, by omega, by go_num, HN, HB⟩
                case measure => simp [intOf]; omega
              · have d1 : decide (1114111 < m) = false := decide_eq_false c1
                obtain ⟨c2, c3⟩ : 55296 ≤ m ∧ m < 57344 := by simpa [badNum, c1] using hbad
                have d2 : decide (55296 ≤ m) = true := decide_eq_true c2
                have d3 : decide (m < 57344) = true := decide_eq_true c3
                clear hbad
                go_wp2
                go_roundw
                case rel => exact ⟨j + 1, by omega, by omega, by go_num, HN, HB⟩
                case measure => simp [intOf]; omega
            · have hbad' : ¬ 1114111 < m ∧ (55296 ≤ m → ¬ m < 57344) := by simpa [badNum] using hbad
              have c1 := hbad'.1
              have HOK := Lib.hid (show firstOk l0 j = decide (charForm m = l0.take j) by
                unfold firstOk
                rw [← HNUM.out, Bool.eq_false_iff.2 hbad]
                rfl)
              have d1 : decide (1114111 < m) = false := decide_eq_false c1
              have HCF := Lib.hid (charForm_Bytes m m0 (by omega))
              have HK := Lib.hid (fun (W : World) (h : Below w.heap.size w W) => (show Hid (Below w.heap.size w W) ∧ (Go.convert 22 9 (.slice (some ad) j c0)).run Tryd.prog W = .ok (.string (strOfNums (l0.take j))) W from ⟨Lib.hid h, Kd.C_string Tryd.underlying22 Tryd.underlying5 Tryd.underlying9 (Rd.take (Kd.C_below HR.out h) j hkn)⟩))
              have f6 : (j : Int) ≤ c0 := by omega
              have HEQ := Lib.hid (strOf_eql HCF.out (HBY.out.tk j))
              go_upto_region 12 with (fail)
              all_goals
                go_cut [58] (fun v wc => ∃ b : Bool, v = .bool b ∧ Hid (b = decide (charForm m = l0.take j)) ∧ Hid (Below w.heap.size w wc))
                case first =>
                  have kC := (HK.out _ (below_drew HB.out)).2
                  go_region_with (go_at_call 69; refine (char_calls m _ m0 (by omega)).mono ?_; rintro e w1 ⟨v1, rfl, ho1, hb1⟩; obtain ⟨A1, c1, rfl, hc1, hrd1⟩ := ho1.reads; have k0 := fun a => Kd.C_string (P := Tryd.prog) (src := 22) (dst := 9) (e := 5) Tryd.underlying22 Tryd.underlying5 Tryd.underlying9 (c := c1) (Kd.C_drewN hrd1 a); have k1 := Kd.C_string (P := Tryd.prog) (src := 22) (dst := 9) (e := 5) Tryd.underlying22 Tryd.underlying5 Tryd.underlying9 (c := c1) hrd1; have HB1 := Lib.hid (below_step (below_drew HB.out) hb1); have k2 := (HK.out _ HB1.out).2; have k3 := fun a => (HK.out _ (pw_below_drewN HB1.out a)).2; clear ho1 hb1 hrd1)
                  all_goals
                    go_wp2
                    go_meet
                    case rel => exact ⟨_, rfl, HEQ, HB1⟩
                case rest =>
                  obtain ⟨b, rfl, HBQ, HB2⟩ := hcut
                  cases b with
                  | true =>
                    have HE := Lib.hid (show firstFrom l0 4 1 = j by rw [HS.out, HOK.out, ← HBQ.out, if_pos rfl])
                    go_wp2
                    go_ret
                    exact ⟨ret_int HE.out.symm, HB2.out⟩
                  | false =>
                    have HN := Lib.hid (show firstFrom l0 (5 - (j + 1)) (j + 1) = firstFrom l0 4 1 by rw [HS.out, HOK.out, ← HBQ.out, if_neg (by simp)])
                    go_wp2
                    go_roundw
                    case rel => exact ⟨j + 1, by omega, by omega, by go_num, HN, HB2⟩
                    case measure => simp [intOf]; omega
    · have dkn : decide (k ≤ n) = false := decide_eq_false hkn
      have HE := Lib.hid (show firstFrom l0 4 1 = 0 by
        rw [← HF.out, show 5 - k = (5 - (k + 1)) + 1 by omega, firstFrom, if_neg (by rw [HLEN.out]; exact hkn)])
      go_wp2
      go_ret
      exact ⟨ret_int HE.out.symm, HB.out⟩
end Go.Proofs.YtcfbfmgckaehdaaDoor
