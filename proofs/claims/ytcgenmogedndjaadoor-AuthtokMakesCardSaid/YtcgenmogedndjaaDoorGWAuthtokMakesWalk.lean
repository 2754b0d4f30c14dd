/- The walk of a law: AuthtokMakesWalk. -/
import Derived.Test.YtcgenmogedndjaaDoorG13
import Derived.Test.YtcgenmogedndjaaDoorG19
import Derived.Test.YtcgenmogedndjaaDoorG26
import Derived.Test.YtcgenmogedndjaaDoorG27
namespace Go.Proofs.YtcgenmogedndjaaDoor
open Go.RowKit Go.Proofs.YtcgenmogedndjaaDoorW.PrintWords
set_option maxRecDepth 20000 in
set_option maxHeartbeats 6400000 in
theorem AuthtokMakes_walk (A : Option Addr) (n c : Nat) (L : List Sec) (ca cb : ByteArray) (cu : Int) (s : ByteArray) (w : World) (hG : Laid w) (hr0 : RdS w A n L) (_hc0 : n ≤ c) (hok : SecOk L) (_hca : ca.size ≤ 9223372036854775807) (_hcb : cb.size ≤ 9223372036854775807) (hcu : -9223372036854775808 ≤ cu ∧ cu ≤ 9223372036854775807) (_hs : s.size ≤ 140737488351232) :
    Calls Tryd.prog 7 #[.slice A n c, .agg #[.string ca, .string cb, .int .i64 cu], .string s] w fun e w' => e = .returned (.bool true) ∧ Below w.heap.size w w' := by
  obtain ⟨g, hg⟩ : ∃ g, g = w.heap.size := ⟨_, rfl⟩
  obtain ⟨W0, hW0⟩ : ∃ W0, W0 = w.alloc (.cells #[.string ca, .string cb, .int .i64 cu] 24) := ⟨_, rfl⟩
  have hbw : Below w.heap.size w W0 := by rw [hW0]; exact below_alloc (Below.refl _ _) _
  have hwh : Whole W0 g 24 #[.string ca, .string cb, .int .i64 cu] := by rw [hW0, hg]; exact Whole.new w _ _
  have HS := Lib.hid (show g = w.heap.size ∧ W0 = w.alloc _ from ⟨hg, hW0⟩)
  have HI := Lib.hid (show RdS W0 A n L ∧ SecOk L ∧ Laid W0 ∧ Below w.heap.size w W0 ∧ L.length = n ∧ Whole W0 g 24 #[.string ca, .string cb, .int .i64 cu] from ⟨Kd.C_below hr0 hbw, hok, hG.below hbw hG.lt, hbw, Kd.C_len hr0, hwh⟩)
  clear hg hW0 hbw hwh hr0 hok hG
  have HCU := Lib.hid hcu
  clear _hs _hca _hcb hcu
  go_enter Tryd.func7, Tryd.ntmps7
  go_upto_region 1 with (fail)
  rw [← HS.out.1, ← HS.out.2]
  go_wp2_with fail
  refine (secrets_calls A c L W0 HI.out.1 HI.out.2.1).mono ?_
  rintro e w1 ⟨v1, b1, rfl, hb1, ho1⟩
  have H1 := Lib.hid (show Below w.heap.size w w1 ∧ Laid w1 ∧ RdS w1 A n L ∧ SecOk L ∧ L.length = n ∧ Whole w1 g 24 #[.string ca, .string cb, .int .i64 cu] from ⟨below_step HI.out.2.2.2.1 hb1, HI.out.2.2.1.below hb1 HI.out.2.2.1.lt, Kd.C_below HI.out.1 hb1, HI.out.2.1, HI.out.2.2.2.2.1, HI.out.2.2.2.2.2.below hb1 HI.out.2.2.2.2.2.lt⟩)
  have HO := Lib.hid ho1
  clear ho1 hb1
  cases b1 with
  | false =>
    clear HO
    go_wp2_with (go_at_call 11; (with_reducible refine (aw_calls _ H1.out.2.1).mono ?_); rintro e w99 ⟨rfl, hb99⟩; have HB99 := Lib.hid (below_step H1.out.1 hb99); clear hb99)
    go_ret
    exact ⟨rfl, HB99.out⟩
  | true =>
    have x0 := H1.out.2.2.2.2.2.cell 0 _ rfl
    have x1 := H1.out.2.2.2.2.2.cell 1 _ rfl
    have x2 := H1.out.2.2.2.2.2.cell 2 _ rfl
    by_cases hz0 : 65536 < s.size
    case' pos =>
      have dz0 : decide (65536 < (s.size : Int)) = true := decide_eq_true (by omega)
      have dz0' : decide (65536 < s.size) = true := decide_eq_true hz0
      clear hz0
      have HO2 := HO
      clear HO
      go_wp2_with (go_at_call 11; (with_reducible refine (aw_calls _ H1.out.2.1).mono ?_); rintro e w99 ⟨rfl, hb99⟩; have HB99 := Lib.hid (below_step H1.out.1 hb99); clear hb99)
      go_ret
      exact ⟨rfl, HB99.out⟩
    have dz0 : decide (65536 < (s.size : Int)) = false := decide_eq_false (by omega)
    have dz0' : decide (65536 < s.size) = false := decide_eq_false hz0
    have HZ0 := Lib.hid (show s.size ≤ 65536 by omega)
    clear hz0
    by_cases hz1 : 65536 < ca.size
    case' pos =>
      have dz1 : decide (65536 < (ca.size : Int)) = true := decide_eq_true (by omega)
      have dz1' : decide (65536 < ca.size) = true := decide_eq_true hz1
      clear hz1
      have HO2 := HO
      clear HO
      go_wp2_with (go_at_call 11; (with_reducible refine (aw_calls _ H1.out.2.1).mono ?_); rintro e w99 ⟨rfl, hb99⟩; have HB99 := Lib.hid (below_step H1.out.1 hb99); clear hb99)
      go_ret
      exact ⟨rfl, HB99.out⟩
    have dz1 : decide (65536 < (ca.size : Int)) = false := decide_eq_false (by omega)
    have dz1' : decide (65536 < ca.size) = false := decide_eq_false hz1
    have HZ1 := Lib.hid (show ca.size ≤ 65536 by omega)
    clear hz1
    by_cases hz2 : 65536 < cb.size
    case' pos =>
      have dz2 : decide (65536 < (cb.size : Int)) = true := decide_eq_true (by omega)
      have dz2' : decide (65536 < cb.size) = true := decide_eq_true hz2
      clear hz2
      have HO2 := HO
      clear HO
      go_wp2_with (go_at_call 11; (with_reducible refine (aw_calls _ H1.out.2.1).mono ?_); rintro e w99 ⟨rfl, hb99⟩; have HB99 := Lib.hid (below_step H1.out.1 hb99); clear hb99)
      go_ret
      exact ⟨rfl, HB99.out⟩
    have dz2 : decide (65536 < (cb.size : Int)) = false := decide_eq_false (by omega)
    have dz2' : decide (65536 < cb.size) = false := decide_eq_false hz2
    have HZ2 := Lib.hid (show cb.size ≤ 65536 by omega)
    clear hz2
    obtain ⟨A1, c1, rfl, hc1, hr1⟩ := (HO.out rfl).1.reads
    have hn1 := H1.out.2.2.2.2.1
    rw [hn1] at hr1 hc1 ⊢
    have HR1 := Lib.hid (show RdS w1 A1 n L ∧ n ≤ c1 ∧ n ≤ 21 from ⟨hr1, hc1, hn1 ▸ (HO.out rfl).2⟩)
    clear hr1 hc1 hn1
    obtain ⟨R, hR⟩ : ∃ R, R = makeR L ⟨ca, cb, cu⟩ := ⟨_, rfl⟩
    have HR := Lib.hid hR
    clear hR
    obtain ⟨rs, re⟩ := R
    go_wp2_with fail
    refine (Make_calls A1 c1 L ca cb cu _ HR1.out.1 H1.out.2.2.2.1 HZ1.out HZ2.out HCU.out H1.out.2.1).mono ?_
    rintro e w2 ⟨rfl, hb2⟩
    rw [← HR.out]
    have hq2 := H1.out.2.2.2.2.2.below hb2 H1.out.2.2.2.2.2.lt
    have y0 := hq2.cell 0 _ rfl
    have y1 := hq2.cell 1 _ rfl
    have y2 := hq2.cell 2 _ rfl
    have HB2 := Lib.hid hb2
    clear hb2 hq2 x0 x1 x2
    go_wp2_with fail
    refine (MakeRef_calls A c L ca cb cu _ (Kd.C_below H1.out.2.2.1 HB2.out) H1.out.2.2.2.1 HZ1.out HZ2.out HCU.out).mono ?_
    rintro e w3 ⟨rfl, hb3⟩
    rw [← HR.out]
    have HB3 := Lib.hid (below_step HB2.out hb3)
    clear hb3 y0 y1 y2
    have deq : (rs.toList == rs.toList) = true := beq_self_eq_true _
    obtain ⟨CE, hCE⟩ : ∃ CE, CE = checkE L := ⟨_, rfl⟩
    have HCE := Lib.hid hCE
    clear hCE
    obtain ⟨NB, hNB⟩ : ∃ NB, NB = nameB s := ⟨_, rfl⟩
    have HNB := Lib.hid hNB
    clear hNB
    go_wp2_with fail
    refine (Check_calls A1 c1 L _ (Kd.C_below HR1.out.1 HB3.out)).mono ?_
    rintro e w4 ⟨rfl, hb4⟩
    rw [← HCE.out]
    have HB4 := Lib.hid (below_step HB3.out hb4)
    clear hb4
    go_wp2_with fail
    refine (CheckRef_calls A c L _ (Kd.C_below H1.out.2.2.1 HB4.out)).mono ?_
    rintro e w5 ⟨rfl, hb5⟩
    rw [← HCE.out]
    have HB5 := Lib.hid (below_step HB4.out hb5)
    clear hb5
    go_wp2_with fail
    refine (Name_calls s _ (by have := HZ0.out; omega)).mono ?_
    rintro e w6 ⟨rfl, hb6⟩
    rw [← HNB.out]
    have HB6 := Lib.hid (below_step HB5.out hb6)
    clear hb6
    go_wp2_with fail
    refine (NameRef_calls s _ (by have := HZ0.out; omega)).mono ?_
    rintro e w7 ⟨rfl, rfl⟩
    rw [← HNB.out]
    go_wp2_with fail
    refine (same_calls A1 c1 A c L _ (Kd.C_below HR1.out.1 HB6.out) (Kd.C_below H1.out.2.2.1 HB6.out) H1.out.2.2.2.1).mono ?_
    rintro e w8 ⟨rfl, hb8⟩
    have HB8 := Lib.hid (below_step HB6.out hb8)
    clear hb8
    go_wp2_with (go_at_call 11; (with_reducible refine (aw_calls _ (H1.out.2.1.below HB8.out H1.out.2.1.lt)).mono ?_); rintro e w99 ⟨rfl, hb99⟩; have HB99 := Lib.hid (below_step (below_step H1.out.1 HB8.out) hb99); clear hb99)
    go_ret
    exact ⟨rfl, HB99.out⟩
end Go.Proofs.YtcgenmogedndjaaDoor
