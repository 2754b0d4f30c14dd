/- DigestSpelt: the walk of the law. -/
import Derived.Test.YtfhnchabifklnaaDoorSpeltLaw
import Derived.Test.YtfhnchabifklnaaDoorAwake
namespace Go.Proofs.YtfhnchabifklnaaDoor
open Go.RowKit Go.Proofs.YtfhnchabifklnaaDoorW.PrintWords
theorem strOf_size (l : List Int) : (strOfNums l).size = l.length := by simp [strOfNums, ByteArray.size]
set_option maxRecDepth 20000 in
set_option maxHeartbeats 4000000 in
theorem DigestSpelt_walk (A0 : Option Addr) (c0 : Nat) (l0 : List Int) (w : World) (hG : Laid w) (hr0 : Kd.C (Kd.int .u8) w A0 l0.length l0) (hc0 : l0.length ≤ c0) (_hs0 : l0.length ≤ 140737488351232) (hb0 : Bytes l0) :
    Calls Tryd.prog 6 #[.slice A0 l0.length c0] w fun e w' => e = .returned (.bool true) ∧ Below w.heap.size w w' := by
  obtain ⟨n0, hn0⟩ : ∃ n, n = l0.length := ⟨_, rfl⟩
  rw [← hn0] at hr0 hc0 ⊢
  have HI := Lib.hid (show Rd w A0 n0 l0 ∧ Bytes l0 ∧ Laid w ∧ n0 = l0.length from ⟨hr0, hb0, hG, hn0⟩)
  clear hr0 hb0 hG hn0
  go_enter Tryd.func6, Tryd.ntmps6
  by_cases hbig : 20000 < n0
  · have d1 : decide (20000 < (n0 : Int)) = true := decide_eq_true (by omega)
    have d1' : decide (20000 < n0) = true := decide_eq_true hbig
    go_wp2_with (go_at_call 11; with_reducible refine (awake_calls _ HI.out.2.2.1).mono ?_; rintro e w6 ⟨rfl, hb6⟩; have HB6 := Lib.hid hb6; clear hb6)
    go_ret
    exact ⟨rfl, HB6.out⟩
  · have d1 : decide (20000 < (n0 : Int)) = false := decide_eq_false (by omega)
    have d1' : decide (20000 < n0) = false := decide_eq_false hbig
    go_wp2_with fail
    refine (Base64_calls A0 c0 l0 _ HI.out.1 HI.out.2.1 hc0 (by omega)).mono ?_
    rintro e w1 ⟨rfl, hb1⟩
    have HB1 := Lib.hid hb1
    clear hb1
    obtain ⟨bs, hbs⟩ : ∃ bs, bs = strOfNums (b64 l0) := ⟨_, rfl⟩
    rw [← hbs]
    have HBS := Lib.hid hbs
    clear hbs
    go_wp2_with fail
    refine (Spell_calls A0 c0 l0 _ (Kd.C_below HI.out.1 HB1.out) HI.out.2.1 (by omega)).mono ?_
    rintro e w2 ⟨rfl, hb2⟩
    have HB2 := Lib.hid (below_step HB1.out hb2)
    clear hb2
    obtain ⟨ts, hts⟩ : ∃ ts, ts = strOfNums (sp3 l0) := ⟨_, rfl⟩
    rw [← hts]
    have hbs := HBS.out
    have hlen := b64_length l0 HI.out.2.1
    obtain ⟨sl, hsl⟩ : ∃ sl, sl = (b64 l0).length := ⟨_, rfl⟩
    obtain ⟨tl, htl⟩ : ∃ tl, tl = (sp3 l0).length := ⟨_, rfl⟩
    rw [← hsl, ← htl] at hlen
    have z1 : bs.size = sl := by rw [hbs, strOf_size, hsl]
    have z2 : ts.size = tl := by rw [hts, strOf_size, htl]
    have hslb : sl ≤ 30000 := by
      have := sp3_length l0
      have := HI.out.2.2.2
      omega
    have n4 : ((sl : Int) % 4 == 0) = true := beq_iff_eq.2 (by omega)
    have n4' : ((sl : Int) % 4 != 0) = false := by rw [bne, n4]; rfl
    have n5 : decide ((sl : Int) < tl) = false := decide_eq_false (by omega)
    have n5' : decide (sl < tl) = false := decide_eq_false (by omega)
    have n6 : decide ((tl : Int) + 2 < sl) = false := decide_eq_false (by omega)
    have n6' : decide (tl + 2 < sl) = false := decide_eq_false (by omega)
    have nw : IntKind.i64.wrap ((tl : Int) + 2) = tl + 2 := by rw [IntKind.wrap_i64]; omega
    have HS := Lib.hid (show ∀ i, i < sl → ∀ h : i < bs.size, ((bs[i]'h).toNat : Int) = if i < tl then tr (rd (sp3 l0) (i : Int)) else 61 from fun i hi h => by
      subst hbs
      rw [str_at (b64 l0) (b64_Bytes l0 HI.out.2.1) i (by omega) h, b64_at l0 HI.out.2.1 i (by omega), htl])
    have HT := Lib.hid (show ∀ i, i < tl → ∀ h : i < ts.size, ((ts[i]'h).toNat : Int) = rd (sp3 l0) (i : Int) from fun i hi h => by
      subst hts
      exact str_at (sp3 l0) (sp3_Bytes l0 HI.out.2.1) i (by omega) h)
    clear hbs hts hsl htl hlen
    go_wp2
    go_loopw [35] (fun v wi => ∃ i : Nat, v = .int .i64 i ∧ i ≤ sl ∧ Hid (Below w.heap.size w wi)) (fun v _ => sl - (intOf v).toNat)
    case atStart => exact ⟨0, rfl, by omega, HB2⟩
    case round =>
      obtain ⟨i, rfl, hi, HB⟩ := hrel
      by_cases his : i < sl
      · have e1 : decide ((i : Int) < sl) = true := decide_eq_true (by omega)
        have e1' : decide (i < sl) = true := decide_eq_true his
        have hcv := HS.out i his
        by_cases hit : i < tl
        · have e2 : decide ((tl : Int) ≤ i) = false := decide_eq_false (by omega)
          have e2' : decide (tl ≤ i) = false := decide_eq_false (by omega)
          simp only [if_pos hit] at hcv
          have htv := HT.out i hit
          obtain ⟨x, hx⟩ : ∃ x, rd (sp3 l0) (i : Int) = x := ⟨_, rfl⟩
          simp only [hx] at hcv htv
          by_cases h45 : x = 45
          · subst h45
            simp only [show tr 45 = 43 from rfl] at hcv
            clear hx
            go_wp2
            go_roundw
            case rel => exact ⟨i + 1, by go_num, by omega, HB⟩
            case measure => simp [intOf]; omega
          · by_cases h95 : x = 95
            · subst h95
              simp only [show tr 95 = 47 from rfl] at hcv
              clear hx
              go_wp2
              go_roundw
              case rel => exact ⟨i + 1, by go_num, by omega, HB⟩
              case measure => simp [intOf]; omega
            · simp only [show tr x = x by unfold tr; rw [if_neg h45, if_neg h95]] at hcv
              have f45 : (x == 45) = false := beq_eq_false_iff_ne.2 h45
              have f95 : (x == 95) = false := beq_eq_false_iff_ne.2 h95
              clear hx h45 h95
              go_wp2_with fail
              go_quiet (fail)
              have HBq := Lib.hid (below_drewN HB.out nq)
              go_wp2
              go_roundw
              case rel => exact ⟨i + 1, by go_num, by omega, HBq⟩
              case measure => simp [intOf]; omega
        · have e2 : decide ((tl : Int) ≤ i) = true := decide_eq_true (by omega)
          have e2' : decide (tl ≤ i) = true := decide_eq_true (by omega)
          simp only [if_neg hit] at hcv
          go_wp2
          go_roundw
          case rel => exact ⟨i + 1, by go_num, by omega, HB⟩
          case measure => simp [intOf]; omega
      · obtain rfl : i = sl := by omega
        go_wp2_with (go_at_call 11; with_reducible refine (awake_calls _ (HI.out.2.2.1.below HB.out HI.out.2.2.1.lt)).mono ?_; rintro e w6 ⟨rfl, hb6⟩; have HB6 := Lib.hid (below_step HB.out hb6); clear hb6)
        go_ret
        exact ⟨rfl, HB6.out⟩
end Go.Proofs.YtfhnchabifklnaaDoor
