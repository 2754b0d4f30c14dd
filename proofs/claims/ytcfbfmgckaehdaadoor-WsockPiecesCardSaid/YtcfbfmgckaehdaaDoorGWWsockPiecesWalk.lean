/- The walk of a law: WsockPiecesWalk. -/
import Derived.Test.YtcfbfmgckaehdaaDoorG11
import Derived.Test.YtcfbfmgckaehdaaDoorG18
namespace Go.Proofs.YtcfbfmgckaehdaaDoor
open Go.RowKit Go.Proofs.YtcfbfmgckaehdaaDoorW.PrintWords
theorem RdL.one {w : World} {g : Nat} {A : Option Addr} {n c : Nat} {b : List Int} (hk : w.cell? ⟨g, 0, none⟩ = some (.slice A n c)) (hr : Rd w A n b) (hc : n ≤ c) : RdL w (some ⟨g, 0, none⟩) 1 [b] := by
  have hl := Kd.C_len hr
  subst hl
  refine ⟨rfl, by decide, fun _ => ⟨⟨g, 0, none⟩, rfl, fun j p hj => ?_⟩⟩
  cases j with
  | succ j => simp at hj
  | zero =>
    simp at hj
    subst hj
    refine ⟨[.slice A b.length c], rfl, ⟨A, c, rfl, hc, hr⟩, fun i u hu => ?_⟩
    cases i with
    | zero =>
      simp at hu
      subst hu
      rw [show 0 * (Kd.slice 5 (Kd.int .u8)).sz + 0 = 0 from rfl]
      exact hk
    | succ i => simp at hu
theorem evsV_all {P : List (List Int)} {b : List Int} {server : Bool} (hP : P.flatten = b) (hb : ∀ x ∈ P, Bytes x) : evsV P ⟨server, false, [], 0, []⟩ = drainW (addW ⟨server, false, [], 0, []⟩ b) := by
  rw [evsV_flat P _ hb Bytes.nil rfl (nextW_more (f := zeroF) (k := 0) rfl (rdF_empty _ rfl)), hP]
set_option maxRecDepth 20000 in
set_option maxHeartbeats 3200000 in
theorem WsockPieces_walk (server : Bool) (A : Option Addr) (c : Nat) (b : List Int) (C : Option Addr) (d : Nat) (cuts : List Int) (w : World) (hr : Rd w A b.length b) (hc : b.length ≤ c) (_hs : b.length ≤ 140737488351232) (hb : Bytes b) (hcu : Kd.C (Kd.int .i64) w C cuts.length cuts) (_hcc : cuts.length ≤ d) :
    Calls Tryd.prog 11 #[.bool server, .slice A b.length c, .slice C cuts.length d] w fun e w' => e = .returned (.bool true) ∧ Below w.heap.size w w' := by
  obtain ⟨n, hn⟩ : ∃ n, n = b.length := ⟨_, rfl⟩
  obtain ⟨m, hm⟩ : ∃ m, m = cuts.length := ⟨_, rfl⟩
  rw [← hn] at hr hc ⊢
  rw [← hm] at hcu ⊢
  have HI := Lib.hid (show Rd w A n b ∧ n ≤ c ∧ Bytes b ∧ Kd.C (Kd.int .i64) w C m cuts ∧ b.length = n from ⟨hr, hc, hb, hcu, hn.symm⟩)
  clear hr hc hb hcu hn hm
  by_cases hbig : 65536 < n
  · have d1 : decide (65536 < (n : Int)) = true := decide_eq_true (by omega)
    have d1' : decide (65536 < n) = true := decide_eq_true hbig
    clear hbig
    go_enter Tryd.func11, Tryd.ntmps11
    go_wp2_with fail
    refine (wsAwake_calls _).mono ?_
    rintro e w1 ⟨rfl, hb1⟩
    have HB := Lib.hid hb1
    clear hb1
    go_wp2
    go_ret
    exact ⟨rfl, HB.out⟩
  · have d1 : decide (65536 < (n : Int)) = false := decide_eq_false (by omega)
    have d1' : decide (65536 < n) = false := decide_eq_false hbig
    have HL := Lib.hid (show n ≤ 65536 by omega)
    clear hbig
    obtain ⟨g1, hg1⟩ : ∃ g, g = w.heap.size := ⟨_, rfl⟩
    obtain ⟨W1, hW1⟩ : ∃ W, W = w.alloc (.cells #[.slice A n c] 22) := ⟨_, rfl⟩
    have hb1 : Below w.heap.size w W1 := by rw [hW1]; exact below_alloc (Below.refl _ _) _
    have hk1 : Whole W1 g1 22 #[.slice A n c] := by rw [hW1, hg1]; exact Whole.new w _ _
    have HS := Lib.hid (show g1 = w.heap.size ∧ W1 = w.alloc _ from ⟨hg1, hW1⟩)
    have H1 := Lib.hid (show Below w.heap.size w W1 ∧ RdL W1 (some ⟨g1, 0, none⟩) 1 [b] from ⟨hb1, RdL.one (hk1.cell 0 _ rfl) (Kd.C_below HI.out.1 hb1) HI.out.2.1⟩)
    clear hg1 hW1 hb1 hk1
    go_enter Tryd.func11, Tryd.ntmps11
    go_upto_region 3 with (fail)
    go_wp2_with fail
    rw [← HS.out.1, ← HS.out.2]
    refine (events_calls server _ _ [b] _ H1.out.2 (fun x hx => by rw [List.mem_singleton.1 hx]; exact HI.out.2.2.1) (by rw [List.flatten_singleton]; have := HL.out; have := HI.out; omega)).mono ?_
    rintro e w2 ⟨A2, n2, c2, rfl, hr2, _, hb2⟩
    rw [evsV_all (P := [b]) (b := b) List.flatten_singleton (fun x hx => by rw [List.mem_singleton.1 hx]; exact HI.out.2.2.1)] at hr2
    obtain ⟨E, hE⟩ : ∃ E, E = (drainW (addW ⟨server, false, [], 0, []⟩ b)).1 := ⟨_, rfl⟩
    rw [← hE] at hr2
    have H2 := Lib.hid (show RdE w2 A2 n2 E ∧ Below w.heap.size w w2 from ⟨hr2, below_step H1.out.1 hb2⟩)
    clear hr2 hb2
    go_wp2_with fail
    refine (pieces_calls A c b C d cuts _ (Kd.C_below HI.out.1 H2.out.2) HI.out.2.1 HI.out.2.2.1 HL.out (Kd.C_below HI.out.2.2.2.1 H2.out.2)).mono ?_
    rintro e w3 ⟨A3, n3, c3, P, rfl, hr3, hf3, hby3, _, _, _, hb3⟩
    have H3 := Lib.hid (show RdL w3 A3 n3 P ∧ P.flatten = b ∧ (∀ x ∈ P, Bytes x) ∧ RdE w3 A2 n2 E ∧ Below w.heap.size w w3 from ⟨hr3, hf3, hby3, Kd.C_below H2.out.1 hb3, below_step H2.out.2 hb3⟩)
    clear hr3 hf3 hby3 hb3
    go_wp2_with fail
    refine (events_calls server A3 c3 P _ H3.out.1 H3.out.2.2.1 (by rw [H3.out.2.1]; have := HL.out; have := HI.out; omega)).mono ?_
    rintro e w4 ⟨A4, n4, c4, rfl, hr4, _, hb4⟩
    rw [evsV_all (P := P) (b := b) H3.out.2.1 H3.out.2.2.1, ← hE] at hr4
    have hn4 : n4 = n2 := (Kd.C_len hr4).symm.trans (Kd.C_len H2.out.1)
    subst hn4
    have H4 := Lib.hid (show RdE w4 A2 n4 E ∧ RdE w4 A4 n4 E ∧ Below w.heap.size w w4 from ⟨Kd.C_below H3.out.2.2.2.1 hb4, hr4, below_step H3.out.2.2.2.2 hb4⟩)
    clear hr4 hb4 hE
    go_wp2_with fail
    refine (EqualFuncE_true A2 c2 A4 c4 E _ H4.out.1 H4.out.2.1).mono ?_
    rintro e w5 ⟨rfl, hb5⟩
    have HB5 := Lib.hid (below_step H4.out.2.2 hb5)
    clear hb5
    go_wp2_with fail
    refine (wsAwake_calls _).mono ?_
    rintro e w6 ⟨rfl, hb6⟩
    have HB6 := Lib.hid (below_step HB5.out hb6)
    clear hb6
    go_wp2
    go_ret
    exact ⟨rfl, HB6.out⟩
end Go.Proofs.YtcfbfmgckaehdaaDoor
