/- WireSpelt: the walk of the law. -/
import Derived.Test.YthbdgakeglppbaaUnspell
import Derived.Test.YthbdgakeglppbaaEqual
namespace Go.Proofs.Ythbdgakeglppbaa
open Go.RowKit Go.Proofs.YthbdgakeglppbaaW.PrintWords
theorem bytesOf_append (a b : ByteArray) : bytesOf (a ++ b) = bytesOf a ++ bytesOf b := by
  unfold bytesOf
  rw [← List.map_append]
  congr 1
theorem spelt_AA : strOfNums (sp3 [0]) = ⟨#[65, 65]⟩ := by
  have : sp3 [0] = [65, 65] := by decide +kernel
  rw [this]
  rfl
set_option maxHeartbeats 800000 in
theorem WireSpelt_early (A0 : Option Addr) (n c0 : Nat) (s : ByteArray) (w : World) (hbig : 16384 < n ∨ 16384 < s.size) :
    Calls Try.prog 9 #[.slice A0 n c0, .string s] w fun e w' => e = .returned (.bool true) ∧ Below w.heap.size w w' := by
  have HAA := Lib.hid spelt_AA
  by_cases h1 : 16384 < n
  case' pos =>
    have hd : decide (16384 < n) = true := decide_eq_true h1
  case' neg =>
    have hd : decide (16384 < n) = false := decide_eq_false h1
    have hd2 : decide (16384 < s.size) = true := decide_eq_true (by omega)
  all_goals
    go_enter Try.func9, Try.ntmps9
    go_wp2_with fail
    obtain ⟨A, c, e, hc, hrd⟩ := (lit_one (Below.refl w.heap.size w) 0).reads
    cases e
    have hal : Below w.heap.size w (w.alloc (.cells #[.int .u8 0] 5)) := below_alloc (Below.refl _ _) _
    refine (Spell_calls _ _ [0] _ hrd (Bytes.con (by omega) (by omega) Bytes.nil) (by decide)).mono ?_
    rintro e w1 ⟨rfl, hb1⟩
    have HB1 := Lib.hid (below_step hal hb1)
    rw [HAA.out]
    clear hb1 hrd hal hc
    go_wp2
    go_ret
    exact ⟨rfl, HB1.out⟩
set_option maxHeartbeats 4000000 in
theorem WireSpelt_main (A0 : Option Addr) (n c0 : Nat) (l0 : List Int) (s : ByteArray) (w : World) (hr0 : Rd w A0 n l0) (hb0 : Bytes l0) (hl0 : n ≤ 16384) (hs0 : s.size ≤ 16384) :
    Calls Try.prog 9 #[.slice A0 n c0, .string s] w fun e w' => e = .returned (.bool true) ∧ Below w.heap.size w w' := by
  have hd : decide (16384 < n) = false := decide_eq_false (by omega)
  have hd2 : decide (16384 < s.size) = false := decide_eq_false (by omega)
  have HR := Lib.hid hr0
  have HY := Lib.hid hb0
  have HL := Lib.hid (Kd.C_len hr0)
  obtain ⟨t, ht⟩ : ∃ t, t = strOfNums (sp3 l0) := ⟨_, rfl⟩
  have HT := Lib.hid ht
  have HTB := Lib.hid (show bytesOf t = sp3 l0 by rw [ht, bytes_strOf (sp3_Bytes l0 hb0)])
  have hts : t.size = (4 * n + 2) / 3 := by rw [← bytesOf_length, HTB.out, sp3_length, HL.out]
  have HU := Lib.hid (show unRun (bytesOf t) 0 0 [] = some l0 by rw [HTB.out, unRun_spelt l0 hb0])
  have d1 : ((t.size : Int) == (4 * (n : Int) + 2) / 3) = true := beq_iff_eq.2 (by omega)
  have d2 : ((t.size : Int) != (4 * (n : Int) + 2) / 3) = false := by rw [bne, d1]; rfl
  have hw1 : IntKind.i64.wrap (4 * (n : Int)) = 4 * n := by rw [IntKind.wrap_i64]; omega
  have hw2 : IntKind.i64.wrap (4 * (n : Int) + 2) = 4 * n + 2 := by rw [IntKind.wrap_i64]; omega
  clear hr0 hb0 ht
  go_enter Try.func9, Try.ntmps9
  go_wp2_with fail
  refine (Spell_calls A0 c0 l0 _ HR.out HY.out (by omega)).mono ?_
  rintro e w1 ⟨rfl, hb1⟩
  rw [← HT.out]
  have HB1 := Lib.hid hb1
  clear hb1
  go_wp2_with fail
  refine (Unspell_calls t _ (by omega)).mono ?_
  rintro e w2 ⟨v2, rfl, ho2, hb2⟩
  rw [HU.out] at ho2 ⊢
  simp only [Option.isSome_some, Option.getD_some] at ho2 ⊢
  obtain ⟨A2, c2, rfl, hc2, hrd2⟩ := ho2.reads
  rw [HL.out] at hc2 hrd2 ⊢
  have HB2 := Lib.hid (below_step HB1.out hb2)
  have HR2 := Lib.hid hrd2
  clear ho2 hb2 hrd2 HB1
  go_wp2_with fail
  refine (Equal_true _ _ l0 _ _ l0 _ HR2.out (Kd.C_below HR.out HB2.out) HY.out rfl).mono ?_
  rintro e w3 ⟨rfl, hd3⟩
  have HB3 := Lib.hid (below_step HB2.out hd3.below)
  clear hd3 HB2 HR2
  go_wp2_with fail
  refine (Unspell_calls s _ (by omega)).mono ?_
  rintro e w4 ⟨v4, rfl, ho4, hb4⟩
  have HB4 := Lib.hid (below_step HB3.out hb4)
  obtain ⟨R, hR⟩ : ∃ R, R = unRun (bytesOf s) 0 0 [] := ⟨_, rfl⟩
  rw [← hR] at ho4 ⊢
  clear hb4 HB3
  have HRR := Lib.hid hR
  clear hR
  rcases R with _ | q
  · simp only [Option.isSome_none, Option.getD_none] at ho4 ⊢
    obtain ⟨A4, c4, rfl, hc4, hrd4⟩ := ho4.reads
    rw [List.length_nil] at hc4 hrd4 ⊢
    clear ho4 hrd4
    have hsz : (t ++ (⟨#[65]⟩ : ByteArray)).size = t.size + 1 := by rw [ByteArray.size_append]; rfl
    have HM := Lib.hid (show ∀ q, unRun (bytesOf (t ++ (⟨#[65]⟩ : ByteArray))) 0 0 [] = some q → n < q.length by
      intro q hq
      rw [bytesOf_append, HTB.out] at hq
      rw [← HL.out]
      exact unRun_more l0 HY.out q hq)
    go_wp2_with fail
    refine (Unspell_calls (t ++ (⟨#[65]⟩ : ByteArray)) _ (by rw [hsz]; omega)).mono ?_
    rintro e w6 ⟨v6, rfl, ho6, hb6⟩
    have HB6 := Lib.hid (below_step HB4.out hb6)
    obtain ⟨R2, hR2⟩ : ∃ R2, R2 = unRun (bytesOf (t ++ (⟨#[65]⟩ : ByteArray))) 0 0 [] := ⟨_, rfl⟩
    rw [← hR2] at HM ho6 ⊢
    clear hb6 hR2 hsz
    rcases R2 with _ | q2
    · clear HM ho6
      simp only [Option.isSome_none]
      go_wp2
      go_ret
      exact ⟨rfl, HB6.out⟩
    · have hq2 := HM.out q2 rfl
      simp only [Option.isSome_some, Option.getD_some] at ho6 ⊢
      obtain ⟨A6, c6, rfl, hc6, hrd6⟩ := ho6.reads
      clear ho6 hrd6 HM
      have d5 : decide ((n : Int) < q2.length) = true := decide_eq_true (by omega)
      have d6 : decide (n < q2.length) = true := decide_eq_true (by omega)
      go_wp2
      go_ret
      exact ⟨rfl, HB6.out⟩
  · simp only [Option.isSome_some, Option.getD_some] at ho4 ⊢
    obtain ⟨hq1, hq2⟩ := spelt_unRun (bytesOf s) q (Bytes_bytesOf s) HRR.out.symm
    have hql : q.length ≤ s.size := by have := congrArg List.length hq1; rw [sp3_length, bytesOf_length] at this; omega
    have HQ := Lib.hid (show strOfNums (sp3 q) = s by rw [hq1, strOf_bytes])
    have HYQ := Lib.hid hq2
    obtain ⟨A4, c4, rfl, hc4, hrd4⟩ := ho4.reads
    have HR4 := Lib.hid hrd4
    clear ho4 hrd4 hq1 hq2
    go_wp2_with fail
    refine (Spell_calls A4 c4 q _ HR4.out HYQ.out (by omega)).mono ?_
    rintro e w5 ⟨rfl, hb5⟩
    rw [HQ.out]
    have HB5 := Lib.hid (below_step HB4.out hb5)
    clear hb5 HB4 HR4
    have hsz : (t ++ (⟨#[65]⟩ : ByteArray)).size = t.size + 1 := by rw [ByteArray.size_append]; rfl
    have HM := Lib.hid (show ∀ q, unRun (bytesOf (t ++ (⟨#[65]⟩ : ByteArray))) 0 0 [] = some q → n < q.length by
      intro q hq
      rw [bytesOf_append, HTB.out] at hq
      rw [← HL.out]
      exact unRun_more l0 HY.out q hq)
    go_wp2_with fail
    refine (Unspell_calls (t ++ (⟨#[65]⟩ : ByteArray)) _ (by rw [hsz]; omega)).mono ?_
    rintro e w6 ⟨v6, rfl, ho6, hb6⟩
    have HB6 := Lib.hid (below_step HB5.out hb6)
    obtain ⟨R2, hR2⟩ : ∃ R2, R2 = unRun (bytesOf (t ++ (⟨#[65]⟩ : ByteArray))) 0 0 [] := ⟨_, rfl⟩
    rw [← hR2] at HM ho6 ⊢
    clear hb6 hR2 hsz
    rcases R2 with _ | q2
    · clear HM ho6
      simp only [Option.isSome_none]
      go_wp2
      go_ret
      exact ⟨rfl, HB6.out⟩
    · have hq2 := HM.out q2 rfl
      simp only [Option.isSome_some, Option.getD_some] at ho6 ⊢
      obtain ⟨A6, c6, rfl, hc6, hrd6⟩ := ho6.reads
      clear ho6 hrd6 HM
      have d5 : decide ((n : Int) < q2.length) = true := decide_eq_true (by omega)
      have d6 : decide (n < q2.length) = true := decide_eq_true (by omega)
      go_wp2
      go_ret
      exact ⟨rfl, HB6.out⟩
theorem WireSpelt_walk (A0 : Option Addr) (c0 : Nat) (l0 : List Int) (s : ByteArray) (w : World) (hr0 : Rd w A0 l0.length l0) (_hc0 : l0.length ≤ c0) (_hs0 : l0.length ≤ 140737488351232) (hb0 : Bytes l0) (_hs1 : s.size ≤ 140737488351232) :
    Calls Try.prog 9 #[.slice A0 l0.length c0, .string s] w fun e w' => e = .returned (.bool true) ∧ Below w.heap.size w w' := by
  by_cases hbig : 16384 < l0.length ∨ 16384 < s.size
  · exact WireSpelt_early A0 _ c0 s w hbig
  · exact WireSpelt_main A0 _ c0 l0 s w hr0 hb0 (by omega) (by omega)
end Go.Proofs.Ythbdgakeglppbaa
