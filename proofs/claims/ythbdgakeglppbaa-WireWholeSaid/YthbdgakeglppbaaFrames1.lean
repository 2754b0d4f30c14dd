/- Frame and Unframe, each in one contract; what their answers hold. -/
import Derived.Test.YthbdgakeglppbaaUnframeRef
namespace Go.Proofs.Ythbdgakeglppbaa
open Go.RowKit Go.Proofs.YthbdgakeglppbaaW.PrintWords
def frameRes (l : List Int) : List Int × Int := if l.length ≤ 65536 then (frameOf l, 0) else ([], 4)
theorem frameRes_Bytes (l : List Int) (h : Bytes l) : Bytes (frameRes l).1 := by
  unfold frameRes
  split
  · exact frame_Bytes l h
  · exact Bytes.nil
theorem unframe_Bytes (l : List Int) (h : Bytes l) : Bytes (unframe l).1 := by
  unfold unframe
  repeat' split
  all_goals first | exact Bytes.nil | exact (h.tk _).dp _
theorem unframe_length (l : List Int) : (unframe l).1.length ≤ l.length := by
  unfold unframe unMid
  repeat' split
  all_goals simp
  omega
theorem Frame_calls {n : Nat} (A0 : Option Addr) (c0 : Nat) (l : List Int) (w : World) (hr0 : Rd w A0 n l) (hs0 : n ≤ 140737488351232) :
    Calls Try.prog 28 #[.slice A0 n c0] w fun e w' => ∃ v0_ : Value, e = .returned (.tuple #[v0_, .int .i64 (frameRes l).2]) ∧ Own w w' v0_ (frameRes l).1 ∧ Below w.heap.size w w' := by
  have hlen := Kd.C_len hr0
  unfold frameRes
  by_cases h : l.length ≤ 65536
  · rw [if_pos h]
    exact Frame_ok A0 c0 l w hr0 (by omega)
  · rw [if_neg h]
    exact (Frame_long A0 c0 w hs0 (by omega)).mono fun e w' ⟨h, k⟩ => ⟨_, h, Own.nil _ _, k⟩
theorem FrameRef_calls {n : Nat} (A0 : Option Addr) (c0 : Nat) (l : List Int) (w : World) (hr0 : Rd w A0 n l) (hb0 : Bytes l) (hs0 : n ≤ 140737488351232) :
    Calls Try.prog 30 #[.slice A0 n c0] w fun e w' => ∃ v0_ : Value, e = .returned (.tuple #[v0_, .int .i64 (frameRes l).2]) ∧ Own w w' v0_ (frameRes l).1 ∧ Below w.heap.size w w' := by
  have hlen := Kd.C_len hr0
  unfold frameRes
  by_cases h : l.length ≤ 65536
  · rw [if_pos h]
    exact FrameRef_ok A0 c0 l w hr0 hb0 (by omega)
  · rw [if_neg h]
    exact (FrameRef_long A0 c0 w hs0 (by omega)).mono fun e w' ⟨h, k⟩ => ⟨_, h, Own.nil _ _, k⟩
theorem wireSum_nil : wireSum [] = 0 := by decide +kernel
theorem Sum_nil (w : World) : Calls Try.prog 18 #[.slice none 0 0] w fun e w' => e = .returned (.int .u32 0) ∧ Drawn0 w w' :=
  wire_Sum.calls none 0 [] 0 w (Kd.C_nil _ _) (Nat.le_refl _) (congrArg some wireSum_nil)
theorem Clone_calls {n : Nat} (A0 : Option Addr) (c0 : Nat) (l0 : List Int) (w : World) (hr0 : Rd w A0 n l0) (hc0 : n ≤ c0) (hs0 : n ≤ 140737488351232) :
    Calls Try.prog 23 #[.slice A0 n c0] w fun e w' => ∃ v0_ : Value, e = .returned (v0_) ∧ Own w w' v0_ l0 ∧ Below w.heap.size w w' := by
  have hl := Kd.C_len hr0
  subst hl
  exact bytes_Clone.calls A0 c0 l0 l0 w hr0 hc0 (if_pos (by omega))
end Go.Proofs.Ythbdgakeglppbaa
