/- The walk of a law: WsockPartsWalk. -/
import Derived.Test.YtcfbfmgckaehdaaDoorG20
import Derived.Test.YtcfbfmgckaehdaaDoorG21
import Derived.Test.YtcfbfmgckaehdaaDoorG22
namespace Go.Proofs.YtcfbfmgckaehdaaDoor
open Go.RowKit Go.Proofs.YtcfbfmgckaehdaaDoorW.PrintWords
set_option maxRecDepth 20000 in
set_option maxHeartbeats 12800000 in
theorem WsockParts_walk (A : Option Addr) (c : Nat) (l : List Int) (text : Bool) (C : Option Addr) (d : Nat) (cuts : List Int) (A3 : Option Addr) (c3 : Nat) (ping : List Int) (w : World) (hr : Rd w A l.length l) (hc : l.length ≤ c) (_hs : l.length ≤ 140737488351232) (hb : Bytes l) (hcu : Kd.C (Kd.int .i64) w C cuts.length cuts) (_hcc : cuts.length ≤ d) (hr3 : Rd w A3 ping.length ping) (hc3 : ping.length ≤ c3) (_hs3 : ping.length ≤ 140737488351232) (hb3 : Bytes ping) :
    Calls Tryd.prog 7 #[.slice A l.length c, .bool text, .slice C cuts.length d, .slice A3 ping.length c3] w fun e w' => e = .returned (.bool true) ∧ Below w.heap.size w w' := by
  obtain ⟨nl, hn⟩ : ∃ n, n = l.length := ⟨_, rfl⟩
  obtain ⟨m, hm⟩ : ∃ m, m = cuts.length := ⟨_, rfl⟩
  obtain ⟨np, hnp⟩ : ∃ m, m = ping.length := ⟨_, rfl⟩
  rw [← hn] at hr hc ⊢
  rw [← hm] at hcu ⊢
  rw [← hnp] at hr3 hc3 ⊢
  by_cases hl : nl ≤ 16384
  · by_cases hl2 : np ≤ 125
    · cases text with
      | false => exact WsParts_bin A c l C d cuts A3 c3 ping w hr hc hb hcu hr3 hc3 hb3 hn hnp hl hl2
      | true =>
        by_cases hneg : charsOf l < 0
        · exact WsParts_text A c l C d cuts A3 c3 ping w hr hc hb hcu hr3 hc3 hb3 hn hnp hl hl2 hneg
        · exact WsParts_bad A c l C d cuts A3 c3 ping w hr hc hb hcu hr3 hc3 hb3 hn hnp hl hl2 hneg
    · have d1 : decide (16384 < (nl : Int)) = false := decide_eq_false (by omega)
      have d1' : decide (16384 < nl) = false := decide_eq_false (by omega)
      have d2 : decide (125 < (np : Int)) = true := decide_eq_true (by omega)
      have d2' : decide (125 < np) = true := decide_eq_true (by omega)
      clear hl hl2 hr hc hb hcu hr3 hc3 hb3 hn hnp hm
      go_enter Tryd.func7, Tryd.ntmps7
      go_wp2_with fail
      refine (wsAwake_calls _).mono ?_
      rintro e w1 ⟨rfl, hb1⟩
      have HB := Lib.hid hb1
      clear hb1
      go_wp2
      go_ret
      exact ⟨rfl, HB.out⟩
  · have d1 : decide (16384 < (nl : Int)) = true := decide_eq_true (by omega)
    have d1' : decide (16384 < nl) = true := decide_eq_true (by omega)
    clear hl hr hc hb hcu hr3 hc3 hb3 hn hnp hm
    go_enter Tryd.func7, Tryd.ntmps7
    go_wp2_with fail
    refine (wsAwake_calls _).mono ?_
    rintro e w1 ⟨rfl, hb1⟩
    have HB := Lib.hid hb1
    clear hb1
    go_wp2
    go_ret
    exact ⟨rfl, HB.out⟩
end Go.Proofs.YtcfbfmgckaehdaaDoor
