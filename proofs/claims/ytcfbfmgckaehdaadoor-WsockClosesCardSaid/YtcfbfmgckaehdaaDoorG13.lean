/- The texts WsText in one. -/
import Derived.Test.YtcfbfmgckaehdaaDoorG08
import Derived.Test.YtcfbfmgckaehdaaDoorG11
namespace Go.Proofs.YtcfbfmgckaehdaaDoor
open Go.RowKit Go.Proofs.YtcfbfmgckaehdaaDoorW.PrintWords
def mayB (code : Int) : Bool := decide (1000 ≤ code ∧ code ≤ 1003 ∨ 1007 ≤ code ∧ code ≤ 1011 ∨ 3000 ≤ code ∧ code ≤ 4999)
/-- Why a close's load can't be. -/
def txE (code : Int) (s : ByteArray) : Int := if mayB code = false then 1 else if 0 ≤ charsOf (bytesOf s) then 90 else if 123 < s.size then 4 else 0
/-- What a call of Text answers. -/
def txL (code : Int) (s : ByteArray) : List Int := [code / 256, code % 256] ++ bytesOf s
def TxPost (code : Int) (s : ByteArray) (w : World) (e : Ending) (w' : World) : Prop := ∃ v : Value, e = .returned (.tuple #[v, .int .i64 (txE code s)]) ∧ Own w w' v (if txE code s = 0 then txL code s else []) ∧ Below w.heap.size w w'
theorem may_calls (code : Int) (w : World) : Calls Tryd.prog 46 #[.int .i64 code] w fun e w' => e = .returned (.bool (mayB code)) ∧ w' = w := by
  have hh : (code ≤ 999) ∨ (1000 ≤ code ∧ code ≤ 1003) ∨ (1004 ≤ code ∧ code ≤ 1006) ∨ (1007 ≤ code ∧ code ≤ 1011) ∨ (1012 ≤ code ∧ code ≤ 2999) ∨ (3000 ≤ code ∧ code ≤ 4999) ∨ (5000 ≤ code) := by omega
  rcases hh with h | h | h | h | h | h | h
  · have d0 : decide (1000 ≤ code) = false := decide_eq_false (by omega)
    have d1 : decide (code ≤ 1003) = true := decide_eq_true (by omega)
    have d2 : decide (1007 ≤ code) = false := decide_eq_false (by omega)
    have d3 : decide (code ≤ 1011) = true := decide_eq_true (by omega)
    have d4 : decide (3000 ≤ code) = false := decide_eq_false (by omega)
    have d5 : decide (code ≤ 4999) = true := decide_eq_true (by omega)
    rw [show mayB code = false from decide_eq_false (by omega)]
    clear h
    go_enter Tryd.func46, Tryd.ntmps46
    go_wp2
    go_ret
    exact ⟨rfl, rfl⟩
  · have d0 : decide (1000 ≤ code) = true := decide_eq_true (by omega)
    have d1 : decide (code ≤ 1003) = true := decide_eq_true (by omega)
    have d2 : decide (1007 ≤ code) = false := decide_eq_false (by omega)
    have d3 : decide (code ≤ 1011) = true := decide_eq_true (by omega)
    have d4 : decide (3000 ≤ code) = false := decide_eq_false (by omega)
    have d5 : decide (code ≤ 4999) = true := decide_eq_true (by omega)
    rw [show mayB code = true from decide_eq_true (by omega)]
    clear h
    go_enter Tryd.func46, Tryd.ntmps46
    go_wp2
    go_ret
    exact ⟨rfl, rfl⟩
  · have d0 : decide (1000 ≤ code) = true := decide_eq_true (by omega)
    have d1 : decide (code ≤ 1003) = false := decide_eq_false (by omega)
    have d2 : decide (1007 ≤ code) = false := decide_eq_false (by omega)
    have d3 : decide (code ≤ 1011) = true := decide_eq_true (by omega)
    have d4 : decide (3000 ≤ code) = false := decide_eq_false (by omega)
    have d5 : decide (code ≤ 4999) = true := decide_eq_true (by omega)
    rw [show mayB code = false from decide_eq_false (by omega)]
    clear h
    go_enter Tryd.func46, Tryd.ntmps46
    go_wp2
    go_ret
    exact ⟨rfl, rfl⟩
  · have d0 : decide (1000 ≤ code) = true := decide_eq_true (by omega)
    have d1 : decide (code ≤ 1003) = false := decide_eq_false (by omega)
    have d2 : decide (1007 ≤ code) = true := decide_eq_true (by omega)
    have d3 : decide (code ≤ 1011) = true := decide_eq_true (by omega)
    have d4 : decide (3000 ≤ code) = false := decide_eq_false (by omega)
    have d5 : decide (code ≤ 4999) = true := decide_eq_true (by omega)
    rw [show mayB code = true from decide_eq_true (by omega)]
    clear h
    go_enter Tryd.func46, Tryd.ntmps46
    go_wp2
    go_ret
    exact ⟨rfl, rfl⟩
  · have d0 : decide (1000 ≤ code) = true := decide_eq_true (by omega)
    have d1 : decide (code ≤ 1003) = false := decide_eq_false (by omega)
    have d2 : decide (1007 ≤ code) = true := decide_eq_true (by omega)
    have d3 : decide (code ≤ 1011) = false := decide_eq_false (by omega)
    have d4 : decide (3000 ≤ code) = false := decide_eq_false (by omega)
    have d5 : decide (code ≤ 4999) = true := decide_eq_true (by omega)
    rw [show mayB code = false from decide_eq_false (by omega)]
    clear h
    go_enter Tryd.func46, Tryd.ntmps46
    go_wp2
    go_ret
    exact ⟨rfl, rfl⟩
  · have d0 : decide (1000 ≤ code) = true := decide_eq_true (by omega)
    have d1 : decide (code ≤ 1003) = false := decide_eq_false (by omega)
    have d2 : decide (1007 ≤ code) = true := decide_eq_true (by omega)
    have d3 : decide (code ≤ 1011) = false := decide_eq_false (by omega)
    have d4 : decide (3000 ≤ code) = true := decide_eq_true (by omega)
    have d5 : decide (code ≤ 4999) = true := decide_eq_true (by omega)
    rw [show mayB code = true from decide_eq_true (by omega)]
    clear h
    go_enter Tryd.func46, Tryd.ntmps46
    go_wp2
    go_ret
    exact ⟨rfl, rfl⟩
  · have d0 : decide (1000 ≤ code) = true := decide_eq_true (by omega)
    have d1 : decide (code ≤ 1003) = false := decide_eq_false (by omega)
    have d2 : decide (1007 ≤ code) = true := decide_eq_true (by omega)
    have d3 : decide (code ≤ 1011) = false := decide_eq_false (by omega)
    have d4 : decide (3000 ≤ code) = true := decide_eq_true (by omega)
    have d5 : decide (code ≤ 4999) = false := decide_eq_false (by omega)
    rw [show mayB code = false from decide_eq_false (by omega)]
    clear h
    go_enter Tryd.func46, Tryd.ntmps46
    go_wp2
    go_ret
    exact ⟨rfl, rfl⟩
set_option maxHeartbeats 1600000 in
theorem WsText_calls (code : Int) (s : ByteArray) (w : World) (hs : s.size ≤ 35184372088832) :
    Calls Tryd.prog 22 #[.int .i64 code, .string s] w (TxPost code s w) := by
  have HY := Lib.hid (Bytes_bytesOf s)
  have HL := Lib.hid (bytesOf_length s)
  have HSZ := Lib.hid hs
  have kb := fun W => print_bytes (P := Tryd.prog) 9 22 5 Tryd.underlying9 Tryd.underlying22 Tryd.underlying5 s W
  cases hm : mayB code with
  | false =>
    have HM := Lib.hid hm
    have HE := Lib.hid (show txE code s = 1 by unfold txE; rw [if_pos hm])
    clear hm
    go_enter Tryd.func22, Tryd.ntmps22
    go_wp2_with fail
    refine (may_calls code _).mono ?_
    rintro e w1 ⟨rfl, hw1⟩
    have HB1 := Lib.hid (show Below w.heap.size w w1 by rw [hw1]; exact Below.refl _ _)
    clear hw1
    rw [HM.out]
    go_wp2
    go_ret2
    exact ⟨.slice none 0 0, by rw [HE.out]; rfl, by rw [HE.out]; exact Own.nil _ _, HB1.out⟩
  | true =>
    have HM := Lib.hid hm
    have hu : txE code s = if 0 ≤ charsOf (bytesOf s) then 90 else if 123 < s.size then 4 else 0 := by unfold txE; rw [hm]; rfl
    have hcode : 0 ≤ code ∧ code ≤ 4999 := by have := of_decide_eq_true (show decide (1000 ≤ code ∧ code ≤ 1003 ∨ 1007 ≤ code ∧ code ≤ 1011 ∨ 3000 ≤ code ∧ code ≤ 4999) = true from hm); omega
    have HC := Lib.hid hcode
    clear hm
    obtain ⟨ch, hch⟩ : ∃ c, c = charsOf (bytesOf s) := ⟨_, rfl⟩
    rw [← hch] at hu
    have HCH := Lib.hid hch
    clear hch
    go_enter Tryd.func22, Tryd.ntmps22
    go_wp2_with fail
    refine (may_calls code _).mono ?_
    rintro e w1 ⟨rfl, hw1⟩
    have HB1 := Lib.hid (show Below w.heap.size w w1 by rw [hw1]; exact Below.refl _ _)
    clear hw1
    rw [HM.out]
    go_wp2_with fail
    refine (Chars_calls _ _ _ _ (str_reads _ s (by have := HSZ.out; omega)) HY.out).mono ?_
    rintro e w2 ⟨rfl, hd2⟩
    have HB2 := Lib.hid (below_step (bytes_below HB1.out HB1.out.size _ _) hd2.below)
    clear hd2
    rw [← HCH.out]
    by_cases h1 : 0 ≤ ch
    · have e1 : decide (0 ≤ ch) = true := decide_eq_true h1
      have HE := Lib.hid (show txE code s = 90 by rw [hu, if_pos h1])
      clear hu h1
      go_wp2
      go_ret2
      exact ⟨.slice none 0 0, by rw [HE.out]; rfl, by rw [HE.out]; exact Own.nil _ _, HB2.out⟩
    · have e1 : decide (0 ≤ ch) = false := decide_eq_false h1
      by_cases h2 : 123 < s.size
      · have e2 : decide (123 < s.size) = true := decide_eq_true h2
        have e2' : decide (123 < (s.size : Int)) = true := decide_eq_true (by omega)
        have HE := Lib.hid (show txE code s = 4 by rw [hu, if_neg h1, if_pos h2])
        clear hu h1 h2
        go_wp2
        go_ret2
        exact ⟨.slice none 0 0, by rw [HE.out]; rfl, by rw [HE.out]; exact Own.nil _ _, HB2.out⟩
      · have e2 : decide (123 < s.size) = false := decide_eq_false h2
        have e2' : decide (123 < (s.size : Int)) = false := decide_eq_false (by omega)
        have HE := Lib.hid (show txE code s = 0 by rw [hu, if_neg h1, if_neg h2])
        have H2 := Lib.hid (show s.size ≤ 123 by omega)
        have w1 : IntKind.u8.wrap (code / 256) = code / 256 := by rw [IntKind.wrap_u8]; have := HC.out; omega
        have w2 : IntKind.u8.wrap code = code % 256 := by rw [IntKind.wrap_u8]
        clear hu h1 h2
        go_wp2_with (at_builtin; refine app_str (lit_two HB2.out _ _) (below_alloc HB2.out _) (by have := H2.out; simp only [List.length_cons, List.length_nil]; omega) rfl rfl rfl rfl ?_)
        intro v5 w5 ho5 hb5 _
        go_wp2
        go_ret2
        exact ⟨_, by rw [HE.out]; rfl, by rw [HE.out, if_pos rfl]; exact ho5, hb5⟩
end Go.Proofs.YtcfbfmgckaehdaaDoor
