/- WireNobody: the walk of the law. -/
import Derived.Test.YthbdgakeglppbaaCursorNil
namespace Go.Proofs.Ythbdgakeglppbaa
open Go.RowKit Go.Proofs.YthbdgakeglppbaaW.PrintWords
set_option maxHeartbeats 1600000 in
theorem WireNobody_walk (most : Int) (w : World) (_hm : (Lit.int .i64 most).wf = true) :
    Calls Try.prog 14 #[.int .i64 most] w fun e w' => e = .returned (.bool true) ∧ Below w.heap.size w w' := by
  clear _hm
  go_enter Try.func14, Try.ntmps14
  go_wp2
  have hB : Below w.heap.size w ((w.alloc (.cells #[.pointer none] 55)).alloc (.cells #[.pointer none, .pointer (some ⟨w.heap.size, 0, none⟩)] 52)) := below_alloc (below_alloc (Below.refl _ _) _) _
  have hc0 : ((w.alloc (.cells #[.pointer none] 55)).alloc (.cells #[.pointer none, .pointer (some ⟨w.heap.size, 0, none⟩)] 52)).cell? ⟨w.heap.size + 1, 0, none⟩ = some (.pointer none) := by go_simp
  have hc1 : ((w.alloc (.cells #[.pointer none] 55)).alloc (.cells #[.pointer none, .pointer (some ⟨w.heap.size, 0, none⟩)] 52)).cell? ⟨w.heap.size + 1, 1, none⟩ = some (.pointer (some ⟨w.heap.size, 0, none⟩)) := by go_simp
  have hc2 : ((w.alloc (.cells #[.pointer none] 55)).alloc (.cells #[.pointer none, .pointer (some ⟨w.heap.size, 0, none⟩)] 52)).cell? ⟨w.heap.size, 0, none⟩ = some (.pointer none) := by go_simp
  obtain ⟨g, hg⟩ : ∃ g, g = w.heap.size := ⟨_, rfl⟩
  rw [← hg] at hc0 hc1 hc2 hB ⊢
  obtain ⟨w1, hw1⟩ : ∃ w1, w1 = (w.alloc (.cells #[.pointer none] 55)).alloc (.cells #[.pointer none, .pointer (some ⟨g, 0, none⟩)] 52) := ⟨_, rfl⟩
  rw [← hw1] at hB hc0 hc1 hc2 ⊢
  have HB := Lib.hid hB
  have HC0 := Lib.hid hc0
  have HC1 := Lib.hid hc1
  have HC2 := Lib.hid hc2
  have HG := Lib.hid hg
  clear hB hc0 hc1 hc2 hw1 hg
  go_loopw [17] (fun i wr => w1 = wr ∧ (i = .int .i64 0 ∨ i = .int .i64 1 ∨ i = .int .i64 2)) (fun i _ => 2 - (intOf i).toNat)
  case atStart => exact ⟨rfl, .inl rfl⟩
  case round =>
    obtain ⟨rfl, rfl | rfl | rfl⟩ := hrel
    · have hx := HC0.out
      have NC := Lib.hid (made_nil w1)
      go_wp2_with fail
      refine (Byte_no _ _ NC.out).mono ?_
      rintro e w2 ⟨rfl, rfl⟩
      go_wp2_with fail
      refine (CNumber_no _ _ NC.out).mono ?_
      rintro e w2 ⟨rfl, rfl⟩
      go_wp2_with fail
      refine (CText_no _ _ _ NC.out).mono ?_
      rintro e w2 ⟨rfl, rfl⟩
      go_wp2_with fail
      refine (End_no _ _ NC.out).mono ?_
      rintro e w2 ⟨rfl, rfl⟩
      go_wp2_with fail
      refine (At_no _ _ NC.out).mono ?_
      rintro e w2 ⟨rfl, rfl⟩
      go_wp2_with fail
      refine (Rest_no _ _ NC.out).mono ?_
      rintro e w2 ⟨rfl, rfl⟩
      go_wp2
      go_roundw
      case rel => exact ⟨by first | rfl | trivial, .inr (.inl rfl)⟩
      case measure => simp [intOf]
    · have hx := HC1.out
      have NC := Lib.hid (made_zero w1 g HC2.out)
      go_wp2_with fail
      refine (Byte_no _ _ NC.out).mono ?_
      rintro e w2 ⟨rfl, rfl⟩
      go_wp2_with fail
      refine (CNumber_no _ _ NC.out).mono ?_
      rintro e w2 ⟨rfl, rfl⟩
      go_wp2_with fail
      refine (CText_no _ _ _ NC.out).mono ?_
      rintro e w2 ⟨rfl, rfl⟩
      go_wp2_with fail
      refine (End_no _ _ NC.out).mono ?_
      rintro e w2 ⟨rfl, rfl⟩
      go_wp2_with fail
      refine (At_no _ _ NC.out).mono ?_
      rintro e w2 ⟨rfl, rfl⟩
      go_wp2_with fail
      refine (Rest_no _ _ NC.out).mono ?_
      rintro e w2 ⟨rfl, rfl⟩
      go_wp2
      go_roundw
      case rel => exact ⟨by first | rfl | trivial, .inr (.inr rfl)⟩
      case measure => simp [intOf]
    · have HBW := Lib.hid (show Below w.heap.size w w1 from by have := HB.out; rwa [HG.out] at this)
      go_wp2_with fail
      obtain ⟨A, c, e, hc, hrd⟩ := (lit_one (Below.refl w1.heap.size w1) 7).reads
      cases e
      refine (From_calls _ _ [7] _ hrd (by decide)).mono ?_
      rintro e w2 ⟨g2, p2, A2, c2, rfl, hcur, hg2, hp2, hA2, hb2⟩
      have H2 := Lib.hid hcur
      have HB2 := Lib.hid (below_step (below_alloc HBW.out _) hb2)
      have HP2 := Lib.hid (show w.heap.size ≤ p2 from by have h1 := HBW.out.size; have h2 : w1.heap.size ≤ (w1.alloc (.cells #[.int .u8 7] 5)).heap.size := (below_alloc (Below.refl w1.heap.size w1) _).size; omega)
      clear hcur hg2 hp2 hA2 hb2 hrd hc
      go_wp2_with fail
      refine (Byte_ok _ H2.out (Bytes.con (by omega) (by omega) Bytes.nil) (by decide)).mono ?_
      rintro e w3 ⟨rfl, hcur3, hg3⟩
      have HB3 := Lib.hid (HB2.out.grown hg3 HB2.out.size (fun k hk => by cases hk; exact HP2.out))
      clear hcur3 hg3
      go_wp2
      go_ret
      exact ⟨rfl, HB3.out⟩
end Go.Proofs.Ythbdgakeglppbaa
