/- slices.Concat of two rows of bytes. -/
import Derived.Test.YtfhnchabifklnaaDoorShelfGrow
import Derived.Test.YtfhnchabifklnaaDoorPadded
import Derived.Test.YtfhnchabifklnaaDoorBase64
namespace Go.Proofs.YtfhnchabifklnaaDoor
open Go.RowKit Go.Proofs.YtfhnchabifklnaaDoorW.PrintWords
set_option maxHeartbeats 800000 in
theorem Concat_calls {n0 n1 : Nat} (A0 : Option Addr) (c0 : Nat) (l0 : List Int) (A1 : Option Addr) (c1 : Nat) (l1 : List Int) (g : Nat) (w : World) (hr0 : Rd w A0 n0 l0) (hr1 : Rd w A1 n1 l1)
    (h0 : w.cell? ⟨g, 0, none⟩ = some (.slice A0 n0 c0)) (h1 : w.cell? ⟨g, 1, none⟩ = some (.slice A1 n1 c1)) (hs : n0 + n1 ≤ 140737488355328) :
    Calls Tryd.prog 24 #[.slice (some ⟨g, 0, none⟩) 2 2] w fun e w' => ∃ v0_ : Value, e = .returned (v0_) ∧ Own w w' v0_ (l0 ++ l1) ∧ Below w.heap.size w w' := by
  have HR0 := Lib.hid hr0
  have HR1 := Lib.hid hr1
  have HC0 := Lib.hid h0
  have HC1 := Lib.hid h1
  have hl0 := Kd.C_len hr0
  have hl1 := Kd.C_len hr1
  have HL0 := Lib.hid hl0
  have HL1 := Lib.hid hl1
  clear hr0 hr1 h0 h1 hl0 hl1
  go_enter Tryd.func24, Tryd.ntmps24
  go_wp2
  go_loopw [3, 11] (fun s i wr => w = wr ∧ ((i = .int .i64 0 ∧ s = .int .i64 0) ∨ (i = .int .i64 1 ∧ s = .int .i64 n0) ∨ (i = .int .i64 2 ∧ s = .int .i64 ((n0 : Int) + n1)))) (fun _ i _ => 2 - (intOf i).toNat)
  case atStart => exact ⟨rfl, .inl ⟨rfl, rfl⟩⟩
  case round =>
    obtain ⟨rfl, ⟨rfl, rfl⟩ | ⟨rfl, rfl⟩ | ⟨rfl, rfl⟩⟩ := hrel
    · have hx := HC0.out
      go_wp2
      go_roundw
      case rel => exact ⟨by first | rfl | trivial, .inr (.inl ⟨rfl, rfl⟩)⟩
      case measure => simp [intOf]
    · have hx := HC1.out
      have hw : IntKind.i64.wrap ((n0 : Int) + n1) = n0 + n1 := wrap_idn (by omega) (by omega)
      have hd : decide ((n0 : Int) + n1 < 0) = false := decide_eq_false (by omega)
      go_wp2
      go_roundw
      case rel => exact ⟨by first | rfl | trivial, .inr (.inr ⟨rfl, by first | rfl | (rw [hw]) | go_num⟩)⟩
      case measure => simp [intOf]
    · rw [show (n0 : Int) + n1 = ((n0 + n1 : Nat) : Int) by omega]
      go_wp2_with fail
      refine (Grow_calls (n0 + n1) _ hs).mono ?_
      rintro e w1 ⟨v1, rfl, ho1, hb1⟩
      have HO1 := Lib.hid ho1
      have HB1 := Lib.hid hb1
      clear ho1 hb1
      go_wp2
      go_loopw [6, 27] (fun v i wr => ∃ l, Hid (Own w wr v l) ∧ Hid (Below w.heap.size w wr) ∧ ((i = .int .i64 0 ∧ Hid (l = [])) ∨ (i = .int .i64 1 ∧ Hid (l = l0)) ∨ (i = .int .i64 2 ∧ Hid (l = l0 ++ l1)))) (fun _ i _ => 2 - (intOf i).toNat)
      case atStart => exact ⟨[], HO1, HB1, .inl ⟨rfl, Lib.hid rfl⟩⟩
      case round =>
        obtain ⟨l, HO, HB, ⟨rfl, HL⟩ | ⟨rfl, HL⟩ | ⟨rfl, HL⟩⟩ := hrel
        · have hx := pw_cell_below HB.out HC0.out
          go_wp2_with (at_builtin; refine app_row HO.out (Kd.C_below HR0.out HB.out) HB.out (by rw [HL.out]; simp; omega) rfl rfl rfl rfl ?_)
          intro v3 w3 ho3 hb3 _ _
          have HO3 := Lib.hid ho3
          have HB3 := Lib.hid hb3
          have HL3 := Lib.hid (show l ++ l0 = l0 by rw [HL.out]; rfl)
          clear ho3 hb3 hx
          go_wp2
          go_roundw
          case rel => exact ⟨_, HO3, HB3, .inr (.inl ⟨rfl, HL3⟩)⟩
          case measure => simp [intOf]
        · have hx := pw_cell_below HB.out HC1.out
          go_wp2_with (at_builtin; refine app_row HO.out (Kd.C_below HR1.out HB.out) HB.out (by rw [HL.out, HL0.out]; omega) rfl rfl rfl rfl ?_)
          intro v3 w3 ho3 hb3 _ _
          have HO3 := Lib.hid ho3
          have HB3 := Lib.hid hb3
          have HL3 := Lib.hid (show l ++ l1 = l0 ++ l1 by rw [HL.out])
          clear ho3 hb3 hx
          go_wp2
          go_roundw
          case rel => exact ⟨_, HO3, HB3, .inr (.inr ⟨rfl, HL3⟩)⟩
          case measure => simp [intOf]
        · go_wp2
          go_ret
          exact ⟨_, rfl, HO.out.cast HL.out, HB.out⟩
end Go.Proofs.YtfhnchabifklnaaDoor
