/- wire.Frames, blotterref01.Frames: the payloads of all frames with which bytes begin; slices.EqualFunc over rows of bytes. -/
import Derived.Test.YthbdgakeglppbaaFramesLaw
import Derived.Test.YthbdgakeglppbaaRows2
import Derived.Test.YthbdgakeglppbaaUnframeRef
import Derived.Test.YthbdgakeglppbaaEqual
namespace Go.Proofs.Ythbdgakeglppbaa
open Go.RowKit Go.Proofs.YthbdgakeglppbaaW.PrintWords
set_option maxHeartbeats 1600000 in
theorem Frames_calls {n : Nat} (A0 : Option Addr) (c0 : Nat) (l : List Int) (w : World) (hr0 : Rd w A0 n l) (hc0 : n ≤ c0) (hb : Bytes l) (hs0 : n ≤ 1099511627776) :
    Calls Try.prog 36 #[.slice A0 n c0] w fun e w' => ∃ v0_ : Value, e = .returned (.tuple #[v0_, .int .i64 ((frames l).2 : Int)]) ∧ OwnL w w' v0_ (frames l).1 ∧ Below w.heap.size w w' := by
  have hlen := Kd.C_len hr0
  have hdrop : ∀ a : Nat, a ≤ n → Rd w (if c0 = a then A0 else Option.map (fun x => x.add a) A0) (n - a) (l.drop a) := by
    intro a ha
    have h1 := hr0
    rw [← hlen] at h1
    have := Kd.C_drop (k := Kd.int .u8) (m := a) (c := c0) h1 (by omega) (by omega)
    rw [show a * (Kd.int .u8).sz = a from Nat.mul_one a, List.length_drop, hlen] at this
    exact this
  have HDR := Lib.hid hdrop
  have HY := Lib.hid hb
  have HL := Lib.hid hlen
  obtain ⟨R, hR⟩ : ∃ R, R = frames l := ⟨_, rfl⟩
  rw [← hR]
  have HRR := Lib.hid hR
  clear hr0 hdrop hb hlen hR
  go_enter Try.func36, Try.ntmps36
  go_wp2
  go_loopw [4, 5] (fun v at_ wr => ∃ (a : Nat) (acc : List (List Int)), a ≤ n ∧ at_ = .int .i64 a ∧ Hid (OwnL w wr v acc) ∧ Hid (Below w.heap.size w wr) ∧ Hid (acc ++ (frames (l.drop a)).1 = R.1) ∧ Hid (a + (frames (l.drop a)).2 = R.2) ∧ acc.length ≤ a) (fun _ at_ _ => n - (intOf at_).toNat)
  case atStart => exact ⟨0, [], by omega, rfl, Lib.hid (OwnL.nil w w), Lib.hid (Below.refl _ _), Lib.hid (by rw [List.drop_zero, List.nil_append, HRR.out]), Lib.hid (by rw [List.drop_zero, Nat.zero_add, HRR.out]), by simp⟩
  case round =>
    obtain ⟨a, acc, ha, rfl, HO, HB, HS1, HS2, hacc⟩ := hrel
    by_cases hca : c0 = a
    · subst hca
      have i0 : (0 : Int) ≤ c0 := by omega
      have i1 : (c0 : Int) ≤ n := by omega
      have i2 : (n : Int) ≤ c0 := by omega
      have hgood := fun h => unframe_len (l.drop c0) (HY.out.dp c0) h
      have hfr := fun h => frames_ok (l.drop c0) (HY.out.dp c0) h
      have hfb := fun h => frames_bad (l.drop c0) h
      rw [List.length_drop, HL.out] at hgood
      rw [List.drop_drop] at hfr
      have hrda : Rd wr A0 (n - c0) (l.drop c0) := by
        have := Kd.C_below (HDR.out c0 ha) HB.out
        rwa [if_pos rfl] at this
      rw [show n - c0 = 0 by omega] at hrda
      have hb1' : 0 ≤ 0 := by omega
      have hb2' : 0 ≤ 140737488351232 := by omega
      go_wp2_with fail
      refine (Unframe_calls _ _ (l.drop c0) wr hrda hb1' (HY.out.dp c0) hb2').mono ?_
      rintro e w1 ⟨v1, rfl, ho1, hb1⟩
      clear hrda hb1' hb2'
      obtain ⟨P, hP⟩ : ∃ P, P = (unframe (l.drop c0)).1 := ⟨_, rfl⟩
      obtain ⟨M, hM⟩ : ∃ M, M = (unframe (l.drop c0)).2.1 := ⟨_, rfl⟩
      obtain ⟨E, hE⟩ : ∃ E, E = (unframe (l.drop c0)).2.2 := ⟨_, rfl⟩
      rw [← hP] at ho1 hgood hfr
      rw [← hE, ← hM] at hgood hfr ⊢
      rw [← hE] at hfb
      clear hP hM hE
      have HB1 := Lib.hid (below_step HB.out hb1)
      have HQ1 := Lib.hid hb1
      by_cases h0 : E = 0
      · obtain ⟨g1, g2, g3, g4⟩ := hgood h0
        omega
      · have hf := hfb h0
        have HE1 := Lib.hid (show acc = R.1 by rw [← HS1.out, hf, List.append_nil])
        have HE2 := Lib.hid (show c0 = R.2 by rw [← HS2.out, hf, Nat.add_zero])
        have d1 : (E == 0) = false := beq_eq_false_iff_ne.2 h0
        have d2 : (E != 0) = true := by rw [bne, d1]; rfl
        have HO2 := Lib.hid (HO.out.below hb1)
        clear hgood hfr hfb hf ho1 hb1 h0
        go_wp2
        go_ret2
        exact ⟨_, by rw [← HE2.out]; rfl, HO2.out.cast HE1.out, HB1.out⟩
    · have i0 : (0 : Int) ≤ a := by omega
      have i1 : (a : Int) ≤ n := by omega
      have i2 : (n : Int) ≤ c0 := by omega
      have hgood := fun h => unframe_len (l.drop a) (HY.out.dp a) h
      have hfr := fun h => frames_ok (l.drop a) (HY.out.dp a) h
      have hfb := fun h => frames_bad (l.drop a) h
      rw [List.length_drop, HL.out] at hgood
      rw [List.drop_drop] at hfr
      have hrda : Rd wr (Option.map (fun x => x.add a) A0) (n - a) (l.drop a) := by
        have := Kd.C_below (HDR.out a ha) HB.out
        rwa [if_neg hca] at this
      have hb1' : n - a ≤ c0 - a := by omega
      have hb2' : n - a ≤ 140737488351232 := by omega
      go_wp2_with fail
      refine (Unframe_calls _ _ (l.drop a) wr hrda hb1' (HY.out.dp a) hb2').mono ?_
      rintro e w1 ⟨v1, rfl, ho1, hb1⟩
      clear hrda hb1' hb2'
      obtain ⟨P, hP⟩ : ∃ P, P = (unframe (l.drop a)).1 := ⟨_, rfl⟩
      obtain ⟨M, hM⟩ : ∃ M, M = (unframe (l.drop a)).2.1 := ⟨_, rfl⟩
      obtain ⟨E, hE⟩ : ∃ E, E = (unframe (l.drop a)).2.2 := ⟨_, rfl⟩
      rw [← hP] at ho1 hgood hfr
      rw [← hE, ← hM] at hgood hfr ⊢
      rw [← hE] at hfb
      clear hP hM hE
      have HB1 := Lib.hid (below_step HB.out hb1)
      have HQ1 := Lib.hid hb1
      by_cases h0 : E = 0
      · obtain ⟨k, hk⟩ : ∃ k, k = M.toNat := ⟨_, rfl⟩
        obtain ⟨g1, g2, g3, g4⟩ := hgood h0
        have hf := hfr h0
        rw [← hk] at g1 g2 g3 hf
        subst g3
        have HS3 := Lib.hid (show acc ++ [P] ++ (frames (l.drop (a + k))).1 = R.1 by rw [← HS1.out, hf, List.append_assoc]; rfl)
        have HS4 := Lib.hid (show a + k + (frames (l.drop (a + k))).2 = R.2 by rw [← HS2.out, hf, Nat.add_assoc])
        obtain ⟨A1, c1, rfl, hc1, _⟩ := ho1.reads
        have HO1 := Lib.hid ho1
        have hla : acc.length + 1 ≤ 5864062014805 := by omega
        have hwk : IntKind.i64.wrap ((a : Int) + k) = a + k := wrap_id (by omega) (by omega)
        subst h0
        have g5 : a + k ≤ n := by omega
        clear hgood hfr hfb hf hk ho1 hb1 g2 g4
        go_wp2_with (at_builtin; refine appl_one HB.out.size HO.out HQ1.out HO1.out HB1.out hla rfl rfl rfl rfl ?_)
        intro v2 w2 ho2 hb2
        have HO2 := Lib.hid ho2
        have HB2 := Lib.hid hb2
        clear ho2 hb2
        go_wp2
        go_roundw
        case rel => exact ⟨a + k, acc ++ [P], by omega, by go_num, HO2, HB2, HS3, HS4, by simp; omega⟩
        case measure => simp [intOf]; omega
      · have hf := hfb h0
        have HE1 := Lib.hid (show acc = R.1 by rw [← HS1.out, hf, List.append_nil])
        have HE2 := Lib.hid (show a = R.2 by rw [← HS2.out, hf, Nat.add_zero])
        have d1 : (E == 0) = false := beq_eq_false_iff_ne.2 h0
        have d2 : (E != 0) = true := by rw [bne, d1]; rfl
        have HO2 := Lib.hid (HO.out.below hb1)
        clear hgood hfr hfb hf ho1 hb1 h0
        go_wp2
        go_ret2
        exact ⟨_, by rw [← HE2.out]; rfl, HO2.out.cast HE1.out, HB1.out⟩
set_option maxHeartbeats 1600000 in
theorem FramesRef_calls {n : Nat} (A0 : Option Addr) (c0 : Nat) (l : List Int) (w : World) (hr0 : Rd w A0 n l) (hc0 : n ≤ c0) (hb : Bytes l) (hs0 : n ≤ 1099511627776) :
    Calls Try.prog 41 #[.slice A0 n c0] w fun e w' => ∃ v0_ : Value, e = .returned (.tuple #[v0_, .int .i64 ((frames l).2 : Int)]) ∧ OwnL w w' v0_ (frames l).1 ∧ Below w.heap.size w w' := by
  have hlen := Kd.C_len hr0
  have hdrop : ∀ a : Nat, a ≤ n → Rd w (if c0 = a then A0 else Option.map (fun x => x.add a) A0) (n - a) (l.drop a) := by
    intro a ha
    have h1 := hr0
    rw [← hlen] at h1
    have := Kd.C_drop (k := Kd.int .u8) (m := a) (c := c0) h1 (by omega) (by omega)
    rw [show a * (Kd.int .u8).sz = a from Nat.mul_one a, List.length_drop, hlen] at this
    exact this
  have HDR := Lib.hid hdrop
  have HY := Lib.hid hb
  have HL := Lib.hid hlen
  obtain ⟨R, hR⟩ : ∃ R, R = frames l := ⟨_, rfl⟩
  rw [← hR]
  have HRR := Lib.hid hR
  clear hr0 hdrop hb hlen hR
  go_enter Try.func41, Try.ntmps41
  go_wp2
  go_loopw [4, 5] (fun v at_ wr => ∃ (a : Nat) (acc : List (List Int)), a ≤ n ∧ at_ = .int .i64 a ∧ Hid (OwnL w wr v acc) ∧ Hid (Below w.heap.size w wr) ∧ Hid (acc ++ (frames (l.drop a)).1 = R.1) ∧ Hid (a + (frames (l.drop a)).2 = R.2) ∧ acc.length ≤ a) (fun _ at_ _ => n - (intOf at_).toNat)
  case atStart => exact ⟨0, [], by omega, rfl, Lib.hid (OwnL.nil w w), Lib.hid (Below.refl _ _), Lib.hid (by rw [List.drop_zero, List.nil_append, HRR.out]), Lib.hid (by rw [List.drop_zero, Nat.zero_add, HRR.out]), by simp⟩
  case round =>
    obtain ⟨a, acc, ha, rfl, HO, HB, HS1, HS2, hacc⟩ := hrel
    by_cases hca : c0 = a
    · subst hca
      have i0 : (0 : Int) ≤ c0 := by omega
      have i1 : (c0 : Int) ≤ n := by omega
      have i2 : (n : Int) ≤ c0 := by omega
      have hgood := fun h => unframe_len (l.drop c0) (HY.out.dp c0) h
      have hfr := fun h => frames_ok (l.drop c0) (HY.out.dp c0) h
      have hfb := fun h => frames_bad (l.drop c0) h
      rw [List.length_drop, HL.out] at hgood
      rw [List.drop_drop] at hfr
      have hrda : Rd wr A0 (n - c0) (l.drop c0) := by
        have := Kd.C_below (HDR.out c0 ha) HB.out
        rwa [if_pos rfl] at this
      rw [show n - c0 = 0 by omega] at hrda
      have hb1' : 0 ≤ 0 := by omega
      have hb2' : 0 ≤ 140737488351232 := by omega
      go_wp2_with fail
      refine (UnframeRef_calls _ _ (l.drop c0) wr hrda hb1' (HY.out.dp c0) hb2').mono ?_
      rintro e w1 ⟨v1, rfl, ho1, hb1⟩
      clear hrda hb1' hb2'
      obtain ⟨P, hP⟩ : ∃ P, P = (unframe (l.drop c0)).1 := ⟨_, rfl⟩
      obtain ⟨M, hM⟩ : ∃ M, M = (unframe (l.drop c0)).2.1 := ⟨_, rfl⟩
      obtain ⟨E, hE⟩ : ∃ E, E = (unframe (l.drop c0)).2.2 := ⟨_, rfl⟩
      rw [← hP] at ho1 hgood hfr
      rw [← hE, ← hM] at hgood hfr ⊢
      rw [← hE] at hfb
      clear hP hM hE
      have HB1 := Lib.hid (below_step HB.out hb1)
      have HQ1 := Lib.hid hb1
      by_cases h0 : E = 0
      · obtain ⟨g1, g2, g3, g4⟩ := hgood h0
        omega
      · have hf := hfb h0
        have HE1 := Lib.hid (show acc = R.1 by rw [← HS1.out, hf, List.append_nil])
        have HE2 := Lib.hid (show c0 = R.2 by rw [← HS2.out, hf, Nat.add_zero])
        have d1 : (E == 0) = false := beq_eq_false_iff_ne.2 h0
        have d2 : (E != 0) = true := by rw [bne, d1]; rfl
        have HO2 := Lib.hid (HO.out.below hb1)
        clear hgood hfr hfb hf ho1 hb1 h0
        go_wp2
        go_ret2
        exact ⟨_, by rw [← HE2.out]; rfl, HO2.out.cast HE1.out, HB1.out⟩
    · have i0 : (0 : Int) ≤ a := by omega
      have i1 : (a : Int) ≤ n := by omega
      have i2 : (n : Int) ≤ c0 := by omega
      have hgood := fun h => unframe_len (l.drop a) (HY.out.dp a) h
      have hfr := fun h => frames_ok (l.drop a) (HY.out.dp a) h
      have hfb := fun h => frames_bad (l.drop a) h
      rw [List.length_drop, HL.out] at hgood
      rw [List.drop_drop] at hfr
      have hrda : Rd wr (Option.map (fun x => x.add a) A0) (n - a) (l.drop a) := by
        have := Kd.C_below (HDR.out a ha) HB.out
        rwa [if_neg hca] at this
      have hb1' : n - a ≤ c0 - a := by omega
      have hb2' : n - a ≤ 140737488351232 := by omega
      go_wp2_with fail
      refine (UnframeRef_calls _ _ (l.drop a) wr hrda hb1' (HY.out.dp a) hb2').mono ?_
      rintro e w1 ⟨v1, rfl, ho1, hb1⟩
      clear hrda hb1' hb2'
      obtain ⟨P, hP⟩ : ∃ P, P = (unframe (l.drop a)).1 := ⟨_, rfl⟩
      obtain ⟨M, hM⟩ : ∃ M, M = (unframe (l.drop a)).2.1 := ⟨_, rfl⟩
      obtain ⟨E, hE⟩ : ∃ E, E = (unframe (l.drop a)).2.2 := ⟨_, rfl⟩
      rw [← hP] at ho1 hgood hfr
      rw [← hE, ← hM] at hgood hfr ⊢
      rw [← hE] at hfb
      clear hP hM hE
      have HB1 := Lib.hid (below_step HB.out hb1)
      have HQ1 := Lib.hid hb1
      by_cases h0 : E = 0
      · obtain ⟨k, hk⟩ : ∃ k, k = M.toNat := ⟨_, rfl⟩
        obtain ⟨g1, g2, g3, g4⟩ := hgood h0
        have hf := hfr h0
        rw [← hk] at g1 g2 g3 hf
        subst g3
        have HS3 := Lib.hid (show acc ++ [P] ++ (frames (l.drop (a + k))).1 = R.1 by rw [← HS1.out, hf, List.append_assoc]; rfl)
        have HS4 := Lib.hid (show a + k + (frames (l.drop (a + k))).2 = R.2 by rw [← HS2.out, hf, Nat.add_assoc])
        obtain ⟨A1, c1, rfl, hc1, _⟩ := ho1.reads
        have HO1 := Lib.hid ho1
        have hla : acc.length + 1 ≤ 5864062014805 := by omega
        have hwk : IntKind.i64.wrap ((a : Int) + k) = a + k := wrap_id (by omega) (by omega)
        subst h0
        have g5 : a + k ≤ n := by omega
        clear hgood hfr hfb hf hk ho1 hb1 g2 g4
        go_wp2_with (at_builtin; refine appl_one HB.out.size HO.out HQ1.out HO1.out HB1.out hla rfl rfl rfl rfl ?_)
        intro v2 w2 ho2 hb2
        have HO2 := Lib.hid ho2
        have HB2 := Lib.hid hb2
        clear ho2 hb2
        go_wp2
        go_roundw
        case rel => exact ⟨a + k, acc ++ [P], by omega, by go_num, HO2, HB2, HS3, HS4, by simp; omega⟩
        case measure => simp [intOf]; omega
      · have hf := hfb h0
        have HE1 := Lib.hid (show acc = R.1 by rw [← HS1.out, hf, List.append_nil])
        have HE2 := Lib.hid (show a = R.2 by rw [← HS2.out, hf, Nat.add_zero])
        have d1 : (E == 0) = false := beq_eq_false_iff_ne.2 h0
        have d2 : (E != 0) = true := by rw [bne, d1]; rfl
        have HO2 := Lib.hid (HO.out.below hb1)
        clear hgood hfr hfb hf ho1 hb1 h0
        go_wp2
        go_ret2
        exact ⟨_, by rw [← HE2.out]; rfl, HO2.out.cast HE1.out, HB1.out⟩
set_option maxHeartbeats 800000 in
theorem EqualFunc_true {n : Nat} (A0 : Option Addr) (c0 : Nat) (A1 : Option Addr) (c1 : Nat) (ls : List (List Int)) (w : World) (hr0 : RdL w A0 n ls) (hr1 : RdL w A1 n ls) (hb : ∀ p ∈ ls, Bytes p) (hn : n ≤ 9223372036854775806) :
    Calls Try.prog 37 #[.slice A0 n c0, .slice A1 n c1, .func (.func 25) #[] #[]] w fun e w' => e = .returned (.bool true) ∧ Drawn0 w w' := by
  have HR0 := Lib.hid hr0
  have HR1 := Lib.hid hr1
  have HY := Lib.hid hb
  have HL := Lib.hid (Kd.C_len hr0)
  clear hr0 hr1 hb
  go_enter Try.func37, Try.ntmps37
  go_wp2
  go_loopw [17] (fun i wr => ∃ k : Nat, k ≤ n ∧ i = .int .i64 k ∧ Hid (Drawn0 w wr)) (fun i _ => n - (intOf i).toNat)
  case atStart => exact ⟨0, by omega, rfl, Lib.hid (Drawn0.refl _)⟩
  case round =>
    obtain ⟨k, hk, rfl, HD⟩ := hrel
    by_cases hkn : k < n
    · have dkn : decide ((k : Int) < n) = true := decide_eq_true (by omega)
      obtain ⟨ad0, B0, d0, rfl, h0, hle0, hrd0⟩ := RdL.at (Kd.C_below HR0.out HD.out.below) k hkn
      obtain ⟨ad1, B1, d1, rfl, h1, hle1, hrd1⟩ := RdL.at (Kd.C_below HR1.out HD.out.below) k hkn
      obtain ⟨p, hp⟩ : ∃ p, p = ls.getD k [] := ⟨_, rfl⟩
      rw [← hp] at h0 hle0 hrd0 h1 hle1 hrd1
      have HYP := Lib.hid (show Bytes p by
        rw [hp, List.getD_eq_getElem?_getD, List.getElem?_eq_getElem (by rw [HL.out]; exact hkn)]
        exact HY.out _ (List.getElem_mem _))
      have HP0 := Lib.hid hrd0
      have HP1 := Lib.hid hrd1
      clear hp hrd0 hrd1
      go_wp2_with fail
      refine (Equal_true _ _ p _ _ p _ HP0.out HP1.out HYP.out rfl).mono ?_
      rintro e w2 ⟨rfl, hd2⟩
      have HD2 := Lib.hid (Drawn0.trans HD.out hd2)
      clear hd2
      go_wp2
      go_roundw
      case rel => exact ⟨k + 1, by omega, by go_num, HD2⟩
      case measure => simp [intOf]; omega
    · obtain rfl : k = n := by omega
      have dkn : decide ((k : Int) < k) = false := decide_eq_false (by omega)
      go_wp2
      go_ret
      exact ⟨rfl, HD.out⟩
end Go.Proofs.Ythbdgakeglppbaa
