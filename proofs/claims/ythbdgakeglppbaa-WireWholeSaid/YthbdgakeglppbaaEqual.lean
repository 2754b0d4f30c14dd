/- bytes.Equal: whether two lists of bytes are the same. -/
import Derived.Test.YthbdgakeglppbaaStr
namespace Go.Proofs.Ythbdgakeglppbaa
open Go.RowKit Go.Proofs.YthbdgakeglppbaaW.PrintWords
set_option maxHeartbeats 800000 in
theorem Equal_calls {n m : Nat} (A0 : Option Addr) (c0 : Nat) (l0 : List Int) (A1 : Option Addr) (c1 : Nat) (l1 : List Int) (w : World) (hr0 : Kd.C (Kd.int .u8) w A0 n l0) (hr1 : Kd.C (Kd.int .u8) w A1 m l1) (hb0 : Bytes l0) (hb1 : Bytes l1) :
    Calls Try.prog 25 #[.slice A0 n c0, .slice A1 m c1] w fun e w' => e = .returned (.bool (decide (l0 = l1))) ∧ Drawn0 w w' := by
  have k0 := Kd.C_string (P := Try.prog) (src := 22) (dst := 9) (e := 5) Try.underlying22 Try.underlying5 Try.underlying9 (c := c0) hr0
  have k1 := Kd.C_string (P := Try.prog) (src := 22) (dst := 9) (e := 5) Try.underlying22 Try.underlying5 Try.underlying9 (c := c1) hr1
  clear hr0 hr1
  go_enter Try.func25, Try.ntmps25
  go_wp2
  go_ret
  exact ⟨ret_bool (strOf_eql hb0 hb1), Drawn0.refl _⟩
theorem Equal_true {n m : Nat} (A0 : Option Addr) (c0 : Nat) (l0 : List Int) (A1 : Option Addr) (c1 : Nat) (l1 : List Int) (w : World) (hr0 : Kd.C (Kd.int .u8) w A0 n l0) (hr1 : Kd.C (Kd.int .u8) w A1 m l1) (hb0 : Bytes l0) (he : l0 = l1) :
    Calls Try.prog 25 #[.slice A0 n c0, .slice A1 m c1] w fun e w' => e = .returned (.bool true) ∧ Drawn0 w w' := by
  subst he
  exact (Equal_calls A0 c0 l0 A1 c1 l0 w hr0 hr1 hb0 hb0).mono fun e w' ⟨h, k⟩ => ⟨by rw [h, decide_eq_true rfl], k⟩
end Go.Proofs.Ythbdgakeglppbaa
