/- wire.Text: a text's form behind bytes. -/
import Derived.Test.YthbdgakeglppbaaNumber
namespace Go.Proofs.Ythbdgakeglppbaa
open Go.RowKit Go.Proofs.YthbdgakeglppbaaW.PrintWords Go.Proofs.YthbdgakeglppbaaW.PrintMore
def textForm (s : ByteArray) : List Int := numForm s.size ++ bytesOf s
set_option maxHeartbeats 800000 in
theorem Text_calls {n : Nat} (A0 : Option Addr) (c0 : Nat) (l0 : List Int) (s : ByteArray) (w : World) (hr0 : Rd w A0 n l0) (hs0 : n + s.size ≤ 140737488351232) :
    Calls Try.prog 24 #[.slice A0 n c0, .string s] w fun e w' => ∃ v0_ : Value, e = .returned (v0_) ∧ Own w w' v0_ (l0 ++ textForm s) ∧ Below w.heap.size w w' := by
  have hlen := Kd.C_len hr0
  have hf := numForm_length s.size
  go_enter Try.func24, Try.ntmps24
  go_wp2_with fail
  refine (Number_calls A0 c0 l0 _ _ hr0 (by omega) (by omega) (by omega)).mono ?_
  rintro e w1 ⟨v1, rfl, ho1, hb1⟩
  have HO1 := Lib.hid ho1
  have HB1 := Lib.hid hb1
  clear ho1 hb1 hr0
  go_wp2_with (at_builtin; refine app_str HO1.out HB1.out (by simp only [List.length_append]; omega) rfl rfl rfl rfl ?_)
  intro v2 w2 ho2 hb2 _
  go_wp2
  go_ret
  exact ⟨_, rfl, ho2.cast (by unfold textForm; first | rfl | rw [List.append_assoc]), hb2⟩
end Go.Proofs.Ythbdgakeglppbaa
