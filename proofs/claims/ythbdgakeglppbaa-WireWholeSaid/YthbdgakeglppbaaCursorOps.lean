/- wire.Cursor: From, At, Byte, End. -/
import Derived.Test.YthbdgakeglppbaaCursor
import Derived.Test.YthbdgakeglppbaaChars
namespace Go.Proofs.Ythbdgakeglppbaa
open Go.RowKit Go.Proofs.YthbdgakeglppbaaW.PrintWords
set_option maxHeartbeats 400000 in
theorem At_calls {g p : Nat} {A : Option Addr} {n c : Nat} {l : List Int} {a : Nat} (w : World) (h : Cur w g p A n c l a) :
    Calls Try.prog 46 #[.pointer (some ⟨g, 0, none⟩)] w fun e w' => e = .returned (.int .i64 a) ∧ Drawn0 w w' := by
  have H := Lib.hid h
  have x0 := h.x0
  have x2 := h.x2
  clear h
  go_enter Try.func46, Try.ntmps46
  go_wp2_with fail
  refine (made_calls _ H.out).mono ?_
  rintro e w1 ⟨rfl, rfl⟩
  go_wp2
  go_ret
  exact ⟨rfl, Drawn0.refl _⟩
set_option maxHeartbeats 400000 in
theorem End_more {g p : Nat} {A : Option Addr} {n c : Nat} {l : List Int} {a : Nat} (w : World) (h : Cur w g p A n c l a) (ha : a < n) :
    Calls Try.prog 45 #[.pointer (some ⟨g, 0, none⟩)] w fun e w' => e = .returned (.int .i64 3) ∧ Drawn0 w w' := by
  have H := Lib.hid h
  have x0 := h.x0
  have hd : decide ((0 : Int) < n - a) = true := decide_eq_true (by omega)
  clear h
  go_enter Try.func45, Try.ntmps45
  go_wp2_with fail
  refine (made_calls _ H.out).mono ?_
  rintro e w1 ⟨rfl, rfl⟩
  go_wp2_with fail
  refine (left_calls _ H.out).mono ?_
  rintro e w2 ⟨rfl, hd2⟩
  have HD := Lib.hid hd2
  clear hd2
  go_wp2
  go_ret
  exact ⟨rfl, HD.out⟩
set_option maxHeartbeats 400000 in
theorem End_ok {g p : Nat} {A : Option Addr} {n c : Nat} {l : List Int} {a : Nat} (w : World) (h : Cur w g p A n c l a) (ha : a = n) :
    Calls Try.prog 45 #[.pointer (some ⟨g, 0, none⟩)] w fun e w' => e = .returned (.int .i64 0) ∧ Drawn0 w w' := by
  have H := Lib.hid h
  have x0 := h.x0
  have hd : decide ((0 : Int) < n - a) = false := decide_eq_false (by omega)
  clear h
  go_enter Try.func45, Try.ntmps45
  go_wp2_with fail
  refine (made_calls _ H.out).mono ?_
  rintro e w1 ⟨rfl, rfl⟩
  go_wp2_with fail
  refine (left_calls _ H.out).mono ?_
  rintro e w2 ⟨rfl, hd2⟩
  have HD := Lib.hid hd2
  clear hd2
  go_wp2
  go_ret
  exact ⟨rfl, HD.out⟩
set_option maxHeartbeats 400000 in
theorem Byte_short {g p : Nat} {A : Option Addr} {n c : Nat} {l : List Int} {a : Nat} (w : World) (h : Cur w g p A n c l a) (ha : a = n) :
    Calls Try.prog 42 #[.pointer (some ⟨g, 0, none⟩)] w fun e w' => e = .returned (.tuple #[.int .i64 0, .int .i64 2]) ∧ Drawn0 w w' := by
  have H := Lib.hid h
  have x0 := h.x0
  have hd : ((n : Int) - a == 0) = true := by rw [ha, Int.sub_self]; rfl
  clear h ha
  go_enter Try.func42, Try.ntmps42
  go_wp2_with fail
  refine (made_calls _ H.out).mono ?_
  rintro e w1 ⟨rfl, rfl⟩
  go_wp2_with fail
  refine (left_calls _ H.out).mono ?_
  rintro e w2 ⟨rfl, hd2⟩
  have HD := Lib.hid hd2
  clear hd2
  go_wp2
  go_ret2
  exact ⟨rfl, HD.out⟩
set_option maxHeartbeats 400000 in
theorem Byte_ok {g p : Nat} {A : Option Addr} {n c : Nat} {l : List Int} {a : Nat} (w : World) (h : Cur w g p A n c l a) (hb : Bytes l) (ha : a < n) :
    Calls Try.prog 42 #[.pointer (some ⟨g, 0, none⟩)] w fun e w' => e = .returned (.tuple #[.int .i64 (rd l a), .int .i64 0]) ∧ Cur w' g p A n c l (a + 1) ∧ w.grownBy w' (some p) := by
  have H := Lib.hid h
  have x0 := h.x0
  have hd : ((n : Int) - a == 0) = false := beq_eq_false_iff_ne.2 (by omega)
  have hm := Kd.C_max h.row
  have hcap := h.cap
  have hlen := Kd.C_len h.row
  obtain ⟨b0, b1⟩ := bytes_rd hb a (by omega)
  obtain ⟨ad, rfl, hcell⟩ := Rd.cells h.row (by omega)
  have HC := Lib.hid hcell
  have hw := wrap_id (x := (a : Int) + 1) (by omega) (by omega)
  have hw2 : IntKind.i64.wrap ((a : Int) + 1 - 1) = a := by rw [wrap_id (by omega) (by omega)]; omega
  have hw3 := wrap_id b0 (by omega)
  clear h hb hlen hcell
  go_enter Try.func42, Try.ntmps42
  go_wp2_with fail
  refine (made_calls _ H.out).mono ?_
  rintro e w1 ⟨rfl, rfl⟩
  go_wp2_with fail
  refine (left_calls _ H.out).mono ?_
  rintro e w2 ⟨rfl, hd2⟩
  have H2 := Lib.hid (H.out.below hd2.below)
  have HG := Lib.hid (Lib.grownBy_below (World.grownBy.refl w1 (some p)) hd2.below)
  have x0 := H2.out.x0
  have x1 := H2.out.x1
  have x2 := H2.out.x2
  have f2 := H2.out.f2
  clear hd2
  go_wp2_with fail
  have e1 : ((a + 1 : Nat) : Int) = (a : Int) + 1 := by omega
  have H3 : Cur (w2.setCell ⟨p, 1, none⟩ (.int .i64 ((a : Int) + 1))) g p (some ad) n c l (a + 1) := by
    have := H2.out.set (a + 1) (by omega)
    rwa [e1] at this
  have hg3 : w1.grownBy (w2.setCell ⟨p, 1, none⟩ (.int .i64 ((a : Int) + 1))) (some p) := Lib.grownBy_setB HG.out 1 _
  obtain ⟨w3, hw3⟩ : ∃ w3, w3 = w2.setCell ⟨p, 1, none⟩ (.int .i64 ((a : Int) + 1)) := ⟨_, rfl⟩
  rw [← hw3] at H3 hg3 ⊢
  clear hw3 x0 x1 x2 f2
  have x0 := H3.x0
  have x1 := H3.x1
  have x2 := H3.x2
  rw [e1] at x2
  obtain ⟨ad', e, hcell⟩ := Rd.cells H3.row (by omega)
  cases e
  have hx := hcell a (by omega)
  have H4 := Lib.hid H3
  have HG3 := Lib.hid hg3
  have i0 : (a : Int) < n := by omega
  clear H3 hg3 hcell e1
  go_quiet (fail)
  go_wp2
  go_ret2
  exact ⟨rfl, H4.out.below (pw_below_drewN (Below.refl _ _) _), Lib.grownBy_below HG3.out (pw_below_drewN (Below.refl _ _) _)⟩
set_option maxHeartbeats 400000 in
theorem From_calls {n : Nat} (A0 : Option Addr) (c0 : Nat) (l : List Int) (w : World) (hr0 : Rd w A0 n l) (hs : n ≤ 140737488351232) :
    Calls Try.prog 48 #[.slice A0 n c0] w fun e w' => ∃ (g p : Nat) (A : Option Addr) (c : Nat), e = .returned (.pointer (some ⟨g, 0, none⟩)) ∧ Cur w' g p A n c l 0 ∧ w.heap.size ≤ g ∧ w.heap.size ≤ p ∧ (∀ ad, A = some ad → w.heap.size ≤ ad.block) ∧ Below w.heap.size w w' := by
  have HR := Lib.hid hr0
  have hlen := Kd.C_len hr0
  have HL := Lib.hid hlen
  clear hr0 hlen
  go_enter Try.func48, Try.ntmps48
  go_wp2_with (at_builtin; refine app_row (Own.nil w w) HR.out (Below.refl _ _) (by simp; omega) rfl rfl rfl rfl ?_)
  intro v1 w1 ho1 hb1 _ _
  have hge := ho1.ge
  have hlt := ho1.lt
  obtain ⟨A1, c1, rfl, hc1, hrd1⟩ := ho1.reads
  have HGE := Lib.hid hge
  have HLT := Lib.hid hlt
  have HB := Lib.hid hb1
  have HR1 := Lib.hid hrd1
  have HC1 := Lib.hid hc1
  clear ho1 hge hlt hb1 hrd1 hc1 HR
  go_wp2
  go_ret
  rw [HL.out]
  rw [HL.out] at HR1 HC1
  have hq : Below w1.heap.size w1 ((w1.alloc (.cells #[.slice A1 n c1, .int .i64 0] 86)).alloc (.cells #[.pointer (some ⟨w1.heap.size, 0, none⟩)] 55)) := below_alloc (below_alloc (Below.refl _ _) _) _
  refine ⟨w1.heap.size + 1, w1.heap.size, A1, c1, rfl, ⟨?_, ?_, Kd.C_below HR1.out hq, by omega, fun ad he => ?_, HC1.out, Nat.zero_le _⟩, by have := HB.out.size; omega, HB.out.size, fun ad he => HGE.out ad.block (by rw [he]; rfl), below_step HB.out hq⟩
  · have := heap_alloc_new (w1.alloc (.cells #[.slice A1 n c1, .int .i64 0] 86)) (.cells #[.pointer (some ⟨w1.heap.size, 0, none⟩)] 55)
    simpa using this
  · rw [Below.heap_alloc _ _ _ (by simp)]
    exact heap_alloc_new _ _
  · have := HLT.out ad.block (by rw [he]; rfl)
    omega
end Go.Proofs.Ythbdgakeglppbaa
