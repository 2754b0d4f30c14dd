/- wire.Cursor: Rest. -/
import Derived.Test.YthbdgakeglppbaaCursorText
import Derived.StillTailTactics
namespace Go.Proofs.Ythbdgakeglppbaa
open Go.RowKit Go.Proofs.YthbdgakeglppbaaW.PrintWords
set_option maxHeartbeats 1600000 in
theorem Rest_calls {g p : Nat} {A : Option Addr} {n c : Nat} {l : List Int} {a : Nat} (w : World) (h : Cur w g p A n c l a) (hs : n ≤ 140737488351232) :
    Calls Try.prog 47 #[.pointer (some ⟨g, 0, none⟩)] w fun e w' => ∃ v, e = .returned v ∧ Own w w' v (l.drop a) ∧ Cur w' g p A n c l n ∧ w.grownBy w' (some p) := by
  have H := Lib.hid h
  have x0 := h.x0
  have x1 := h.x1
  have x2 := h.x2
  have hle := h.le
  have hcap := h.cap
  have i0 : (0 : Int) ≤ a := by omega
  have i1 : (a : Int) ≤ n := by omega
  have i2 : (n : Int) ≤ c := by omega
  clear h
  go_enter Try.func47, Try.ntmps47
  go_wp2_with fail
  refine (made_calls _ H.out).mono ?_
  rintro e w1 ⟨rfl, rfl⟩
  go_wp2_with fail
  go_still_tail 15, (by kernel_rfl)
  change wpList _ _ _ _ _ w1.drew
  have hrd : Rd w1.drew (if c = a then A else Option.map (fun x => x.add a) A) (n - a) (l.drop a) := by
    have hl := Kd.C_len H.out.row
    have h1 := H.out.row
    rw [← hl] at h1
    have := Kd.C_drop (k := Kd.int .u8) (m := a) (c := c) h1 (by omega) (by omega)
    rw [show a * (Kd.int .u8).sz = a from Nat.mul_one a, List.length_drop, hl] at this
    exact Kd.C_drew this
  have hbd : Below w1.heap.size w1 w1.drew := below_drew (Below.refl _ _)
  generalize w1.drew = w2 at hrd hbd ⊢
  generalize (if c = a then A else Option.map (fun x => x.add a) A) = AA at hrd ⊢
  have HBD := Lib.hid hbd
  have HRD := Lib.hid hrd
  clear hbd hrd x0 x1 x2
  go_wp2_with (at_builtin; refine app_row (Own.nil w1 w2) HRD.out HBD.out (by simp; omega) rfl rfl rfl rfl ?_)
  intro v3 w3 ho3 hb3 _ _
  have HO3 := Lib.hid ho3
  have HB3 := Lib.hid hb3
  clear ho3 hb3
  have H3 := Lib.hid (H.out.below HB3.out)
  have x0 := H3.out.x0
  have x1 := H3.out.x1
  have f2 := H3.out.f2
  go_wp2_with fail
  go_still_tail 14, (by kernel_rfl)
  change wpList _ _ _ _ _ w3.drew
  have hb4 : Below w3.heap.size w3 w3.drew := below_drew (Below.refl _ _)
  generalize w3.drew = w4 at hb4 ⊢
  clear x0 x1 f2
  have H4 := Lib.hid (H3.out.below hb4)
  have HO4 := Lib.hid (HO3.out.below hb4)
  have HG4 := Lib.hid (Lib.grownBy_below (World.grownBy.refl w1 (some p)) (below_step HB3.out hb4))
  have HP := Lib.hid (show p < w1.heap.size from lt_of_heap H.out.place)
  have x2 := H4.out.x2
  have f2 := H4.out.f2
  clear hb4
  go_wp2
  go_ret
  refine ⟨_, rfl, (HO4.out.far (p := ⟨p, 1, none⟩) (fun hk => ?_) _).cast (by simp), H4.out.set n (Nat.le_refl _), Lib.grownBy_setB HG4.out 1 _⟩
  have := HO4.out.ge p hk.symm
  have := HP.out
  omega
end Go.Proofs.Ythbdgakeglppbaa
