/- The walk of a law: WsockBoundedWalk. -/
import Derived.Test.YtcfbfmgckaehdaaDoorG11
import Derived.Test.YtcfbfmgckaehdaaDoorG16
import Derived.Test.YtcfbfmgckaehdaaDoorG17
namespace Go.Proofs.YtcfbfmgckaehdaaDoor
open Go.RowKit Go.Proofs.YtcfbfmgckaehdaaDoorW.PrintWords
theorem feedC_op {c : Cn} (b : List Int) (h : OpOk c) : OpOk (feedC c b) := by
  unfold feedC
  split
  · exact h
  · exact h
theorem feedE_over {c : Cn} (n : Nat) (h : c.over = true) : feedE c n = 31 := by unfold feedE; rw [if_pos h]
theorem feedE_open {c : Cn} (n : Nat) (h : c.over = false) : (feedE c n == 31) = false := by
  unfold feedE
  rw [if_neg (by rw [h]; decide)]
  split <;> rfl
set_option maxRecDepth 20000 in
set_option maxHeartbeats 12800000 in
theorem WsockBounded_walk (server : Bool) (A : Option Addr) (n c : Nat) (L : List Fd) (w : World) (hr : RdFd w A n L) (_hc : n ≤ c) (hok : FdOk L) :
    Calls Tryd.prog 10 #[.bool server, .slice A n c] w fun e w' => e = .returned (.bool true) ∧ Below w.heap.size w w' := by
  have hmx := Kd.C_max hr
  have HI := Lib.hid (show RdFd w A n L ∧ FdOk L ∧ L.length = n ∧ n ≤ 9223372036854775807 from ⟨hr, hok, Kd.C_len hr, hmx⟩)
  clear hr hok hmx
  go_enter Tryd.func10, Tryd.ntmps10
  go_wp2_with fail
  refine (short_calls A c L w HI.out.1).mono ?_
  rintro e w' ⟨b, rfl, he⟩
  replace he := he.symm
  subst he
  cases b with
  | false =>
    go_wp2_with fail
    refine (wsAwake_calls _).mono ?_
    rintro e w1 ⟨rfl, hb1⟩
    have HB := Lib.hid hb1
    clear hb1
    go_wp2
    go_ret
    exact ⟨rfl, HB.out⟩
  | true =>
    go_wp2_with fail
    refine (WsNew_calls server _).mono ?_
    rintro e w2 ⟨rfl, hc2, hb2⟩
    obtain ⟨g, hg⟩ : ∃ g, g = w.heap.size := ⟨_, rfl⟩
    rw [← hg] at hc2 ⊢
    have H2 := Lib.hid (show ConnAt w w2 g ⟨server, false, [], 0, []⟩ (.slice none 0 0) (.slice none 0 0) ∧ Below w.heap.size w w2 from ⟨hc2, hb2⟩)
    clear hc2 hb2 hg
    go_wp2
    go_loopw [20] (fun i wr => ∃ (k : Nat) (cc : Cn) (vw vl : Value), i = .int .i64 k ∧ k ≤ n ∧ Hid (ConnAt w wr g cc vw vl ∧ Below w.heap.size w wr ∧ OpOk cc)) (fun i _ => n - (intOf i).toNat)
    case atStart => exact ⟨0, _, _, _, rfl, by omega, Lib.hid ⟨H2.out.1, H2.out.2, by show (0 : Int) ≤ 0; omega, by show (0 : Int) ≤ 2; omega⟩⟩
    case round =>
      obtain ⟨k, cc, vw, vl, rfl, hk, HR⟩ := hrel
      clear H2
      by_cases hkn : k < n
      · have dkn : decide ((k : Int) < n) = true := decide_eq_true (by omega)
        have dkn' : decide (k < n) = true := decide_eq_true hkn
        have wk : IntKind.i64.wrap ((k : Int) + 1) = k + 1 := wrap_id (by omega) (by have := HI.out; omega)
        have ikn : (k : Int) < n := by omega
        have i0 : (0 : Int) ≤ k := by omega
        have HK := Lib.hid hkn
        obtain ⟨ad, Ai, ci, rfl, x0, x1, hci, hrd⟩ := RdFd.at (Kd.C_below HI.out.1 HR.out.2.1) k hkn
        have hby := HI.out.2.1.at k (by have := HI.out; omega)
        obtain ⟨fd, hfd⟩ : ∃ fd, fd = L.getD k Fd.none := ⟨_, rfl⟩
        rw [← hfd] at x0 x1 hci hrd hby
        obtain ⟨ask, bs⟩ := fd
        simp only at x0 x1 hci hrd hby
        obtain ⟨m, hm⟩ : ∃ m, m = bs.length := ⟨_, rfl⟩
        rw [← hm] at x1 hci hrd
        obtain ⟨g7, hg7⟩ : ∃ x, x = wr.heap.size := ⟨_, rfl⟩
        obtain ⟨W7, hW7⟩ : ∃ W, W = wr.alloc (.cells #[.bool ask, .slice Ai m ci] 70) := ⟨_, rfl⟩
        have hb7 : Below wr.heap.size wr W7 := by rw [hW7]; exact below_alloc (Below.refl _ _) _
        have hk7 : Whole W7 g7 70 #[.bool ask, .slice Ai m ci] := by rw [hW7, hg7]; exact Whole.new wr _ _
        have HS7 := Lib.hid (show g7 = wr.heap.size ∧ W7 = wr.alloc _ from ⟨hg7, hW7⟩)
        have H7 := Lib.hid (show ConnAt w W7 g cc vw vl ∧ Below w.heap.size w W7 ∧ OpOk cc ∧ Whole W7 g7 70 #[.bool ask, .slice Ai m ci] ∧ Rd W7 Ai m bs ∧ Bytes bs ∧ bs.length = m from ⟨HR.out.1.below hb7, below_step HR.out.2.1 hb7, HR.out.2.2, hk7, Kd.C_below hrd hb7, hby, hm.symm⟩)
        clear hkn hk hci hrd hby hfd hm hg7 hW7 hb7 hk7 HR
        go_upto_region 7 with (fail)
        rw [← HS7.out.1, ← HS7.out.2]
        clear x0 x1
        have z1 := H7.out.2.2.2.1.cell 1 _ rfl
        go_wp2_with fail
        refine (WsOver_calls w _ g cc vw vl H7.out.1).mono ?_
        rintro e w' ⟨rfl, he⟩
        replace he := he.symm
        subst he
        go_wp2_with fail
        refine (WsFeed_calls w _ g cc vw vl Ai ci bs H7.out.1 H7.out.2.2.2.2.1 H7.out.2.2.2.2.2.1 H7.out.2.1).mono ?_
        rintro e w8 ⟨vw8, rfl, hc8, _, hb8⟩
        have H8 := Lib.hid (show ConnAt w w8 g (feedC cc bs) vw8 vl ∧ Below w.heap.size w w8 ∧ OpOk (feedC cc bs) from ⟨hc8, hb8, feedC_op bs H7.out.2.2.1⟩)
        clear hc8 hb8 z1
        cases hov : cc.over with
        | true =>
          rw [feedE_over _ hov]
          have hfc : feedC cc bs = cc := by unfold feedC; rw [if_neg (by rw [feedE_over _ hov]; decide)]
          have HOV := Lib.hid (show cc.over = true ∧ nextW (feedC cc bs) = (cc, none) from ⟨hov, by rw [hfc]; exact nextW_over hov⟩)
          clear hov hfc
          go_wp2_with fail
          refine (WsNext_calls w _ g _ _ _ H8.out.1 H8.out.2.1).mono ?_
          rintro e w9 ⟨vw9, vl9, v9, x9, ok, rfl, hs9, ho9, hc9, _, _, hb9, _⟩
          obtain ⟨A9, k9, rfl, _, hr9⟩ := ho9.reads
          obtain ⟨xo, xc, xl, xb⟩ := x9
          obtain ⟨⟨c9, y9⟩, hn9⟩ : ∃ r, r = nextW (feedC cc bs) := ⟨_, rfl⟩
          have hok9 := nextW_ok H8.out.1.2.2.2.2.2.2.2 H8.out.2.2
          rw [← hn9] at hs9 hc9 hok9
          obtain ⟨L9, hL9⟩ : ∃ n, n = xl.length := ⟨_, rfl⟩
          dsimp only at hs9 hc9 hr9 hok9 ⊢
          rw [← hL9] at hr9 ⊢
          have H9 := Lib.hid (show ConnAt w w9 g c9 vw9 vl9 ∧ Below w.heap.size w w9 ∧ Rd w9 A9 L9 xl ∧ (OpOk c9 ∧ ∀ x, y9 = some x → EvtOk c9 x) ∧ nextW (feedC cc bs) = (c9, y9) ∧ StepR y9 ⟨xo, xc, xl, xb⟩ ok from ⟨hc9, hb9, hr9, hok9, hn9.symm, hs9⟩)
          have HL9 := Lib.hid hL9
          clear hs9 hc9 hr9 hok9 hn9 hb9 hL9 ho9
          obtain ⟨g10, hg10⟩ : ∃ x, x = w9.heap.size := ⟨_, rfl⟩
          obtain ⟨W10, hW10⟩ : ∃ W, W = w9.alloc (.cells #[.int .i64 xo, .int .i64 xc, .slice A9 L9 k9, .bool xb] 51) := ⟨_, rfl⟩
          have hb10 : Below w9.heap.size w9 W10 := by rw [hW10]; exact below_alloc (Below.refl _ _) _
          have HS10 := Lib.hid (show g10 = w9.heap.size ∧ W10 = w9.alloc _ from ⟨hg10, hW10⟩)
          have H10 := Lib.hid (show ConnAt w W10 g c9 vw9 vl9 ∧ Below w.heap.size w W10 ∧ Rd W10 A9 L9 xl ∧ Whole W10 g10 51 #[.int .i64 xo, .int .i64 xc, .slice A9 L9 k9, .bool xb] from ⟨H9.out.1.below hb10, below_step H9.out.2.1 hb10, Kd.C_below H9.out.2.2.1 hb10, by rw [hW10, hg10]; exact Whole.new w9 _ _⟩)
          clear hg10 hW10 hb10
          go_upto_region 12 with (fail)
          rw [← HS10.out.1, ← HS10.out.2]
          have y0 := H10.out.2.2.2.cell 0 _ rfl
          have y2 := H10.out.2.2.2.cell 2 _ rfl
          have y3 := H10.out.2.2.2.cell 3 _ rfl
          obtain ⟨rfl, rfl, rfl, rfl, rfl, hcc⟩ : ok = false ∧ xo = 0 ∧ xc = 0 ∧ xl = [] ∧ xb = false ∧ c9 = cc := by
            have h1 := H9.out.2.2.2.2.1
            rw [HOV.out.2] at h1
            injection h1 with h1 h2
            subst h2
            rcases H9.out.2.2.2.2.2 with ⟨_, h3⟩ | ⟨h3, _, h4⟩
            · cases h3
            · injection h4 with h5 h6 h7 h8
              exact ⟨h3, h5, h6, h7, h8, h1.symm⟩
          have hl9 : L9 ≤ 16384 := by rw [HL9.out]; simp
          have hov2 : c9.over = true := by rw [hcc]; exact HOV.out.1
          clear hcc
          have HO2 := Lib.hid hov2
          obtain ⟨Lw, hLw⟩ : ∃ n, n = c9.wait.length := ⟨_, rfl⟩
          have hLs : Lw ≤ 65536 := by rw [hLw]; exact H9.out.1.2.2.2.2.2.2.2.1
          have m1 : decide (65536 < (Lw : Int)) = false := decide_eq_false (by omega)
          have m1' : decide (65536 < Lw) = false := decide_eq_false (by omega)
          have n1 : decide (16384 < (L9 : Int)) = false := decide_eq_false (by omega)
          have n1' : decide (16384 < L9) = false := decide_eq_false (by omega)
          have hL0 : Lw = 0 := by rw [hLw, H9.out.1.2.2.2.2.2.2.2.2.2.2.2 hov2]; rfl
          have q1 : decide (0 < (Lw : Int)) = false := decide_eq_false (by omega)
          have q1' : decide (0 < Lw) = false := decide_eq_false (by omega)
          clear hL0
          have HLW := Lib.hid hLw
          clear hLw hLs hov2 hl9
          go_wp2_with fail
          refine (WsWaiting_calls w _ g c9 vw9 vl9 H10.out.1).mono ?_
          rintro e w' ⟨rfl, he⟩
          replace he := he.symm
          subst he
          rw [← HLW.out]
          go_wp2_with fail
          refine (WsOver_calls w _ g c9 vw9 vl9 H10.out.1).mono ?_
          rintro e w' ⟨rfl, he⟩
          replace he := he.symm
          subst he
          rw [HO2.out]
          go_wp2_with fail
          refine (WsWaiting_calls w _ g c9 vw9 vl9 H10.out.1).mono ?_
          rintro e w' ⟨rfl, he⟩
          replace he := he.symm
          subst he
          rw [← HLW.out]
          go_upto_region 16 with (fail)
          have HDR := Lib.hid (show ∀ q, ConnAt w (W10.drewN q) g c9 vw9 vl9 from fun q => H10.out.1.below (pw_below_drewN (Below.refl _ _) _))
          go_quiet (first | (go_at_call 31; refine (WsOver_calls w _ g c9 vw9 vl9 (HDR.out _)).mono ?_; rintro e w' ⟨rfl, rfl⟩; rw [HO2.out]; exact ⟨rfl, _, rfl⟩))
          have HZ := Lib.hid (show ConnAt w (W10.drewN nq) g c9 vw9 vl9 ∧ Below w.heap.size w (W10.drewN nq) ∧ OpOk c9 from ⟨HDR.out _, pw_below_drewN H10.out.2.1 _, H9.out.2.2.2.1.1⟩)
          generalize W10.drewN nq = WZ at HZ ⊢
          go_wp2
          go_roundw
          case rel => exact ⟨k + 1, c9, vw9, vl9, by go_num, by have := HK.out; omega, HZ⟩
          case measure => have := HK.out; simp [intOf]; omega
        | false =>
          obtain ⟨E, hE⟩ : ∃ E, E = feedE cc bs.length := ⟨_, rfl⟩
          have e31 : (E == 31) = false := by rw [hE]; exact feedE_open _ hov
          rw [← hE]
          have HOV := Lib.hid hov
          clear hov hE
          go_wp2_with fail
          refine (WsNext_calls w _ g _ _ _ H8.out.1 H8.out.2.1).mono ?_
          rintro e w9 ⟨vw9, vl9, v9, x9, ok, rfl, hs9, ho9, hc9, _, _, hb9, _⟩
          obtain ⟨A9, k9, rfl, _, hr9⟩ := ho9.reads
          obtain ⟨xo, xc, xl, xb⟩ := x9
          obtain ⟨⟨c9, y9⟩, hn9⟩ : ∃ r, r = nextW (feedC cc bs) := ⟨_, rfl⟩
          have hok9 := nextW_ok H8.out.1.2.2.2.2.2.2.2 H8.out.2.2
          rw [← hn9] at hs9 hc9 hok9
          obtain ⟨L9, hL9⟩ : ∃ n, n = xl.length := ⟨_, rfl⟩
          dsimp only at hs9 hc9 hr9 hok9 ⊢
          rw [← hL9] at hr9 ⊢
          have H9 := Lib.hid (show ConnAt w w9 g c9 vw9 vl9 ∧ Below w.heap.size w w9 ∧ Rd w9 A9 L9 xl ∧ (OpOk c9 ∧ ∀ x, y9 = some x → EvtOk c9 x) ∧ nextW (feedC cc bs) = (c9, y9) ∧ StepR y9 ⟨xo, xc, xl, xb⟩ ok from ⟨hc9, hb9, hr9, hok9, hn9.symm, hs9⟩)
          have HL9 := Lib.hid hL9
          clear hs9 hc9 hr9 hok9 hn9 hb9 hL9 ho9
          obtain ⟨g10, hg10⟩ : ∃ x, x = w9.heap.size := ⟨_, rfl⟩
          obtain ⟨W10, hW10⟩ : ∃ W, W = w9.alloc (.cells #[.int .i64 xo, .int .i64 xc, .slice A9 L9 k9, .bool xb] 51) := ⟨_, rfl⟩
          have hb10 : Below w9.heap.size w9 W10 := by rw [hW10]; exact below_alloc (Below.refl _ _) _
          have HS10 := Lib.hid (show g10 = w9.heap.size ∧ W10 = w9.alloc _ from ⟨hg10, hW10⟩)
          have H10 := Lib.hid (show ConnAt w W10 g c9 vw9 vl9 ∧ Below w.heap.size w W10 ∧ Rd W10 A9 L9 xl ∧ Whole W10 g10 51 #[.int .i64 xo, .int .i64 xc, .slice A9 L9 k9, .bool xb] from ⟨H9.out.1.below hb10, below_step H9.out.2.1 hb10, Kd.C_below H9.out.2.2.1 hb10, by rw [hW10, hg10]; exact Whole.new w9 _ _⟩)
          clear hg10 hW10 hb10
          go_upto_region 12 with (fail)
          rw [← HS10.out.1, ← HS10.out.2]
          have y0 := H10.out.2.2.2.cell 0 _ rfl
          have y2 := H10.out.2.2.2.cell 2 _ rfl
          have y3 := H10.out.2.2.2.cell 3 _ rfl
          cases ok with
          | false =>
            obtain ⟨rfl, rfl, rfl, rfl⟩ : xo = 0 ∧ xc = 0 ∧ xl = [] ∧ xb = false := by
              rcases H9.out.2.2.2.2.2 with ⟨h3, _⟩ | ⟨_, _, h4⟩
              · cases h3
              · injection h4 with h5 h6 h7 h8
                exact ⟨h5, h6, h7, h8⟩
            have hl9 : L9 ≤ 16384 := by rw [HL9.out]; simp
            cases hov2 : c9.over with
            | true =>
              have HO2 := Lib.hid hov2
              obtain ⟨Lw, hLw⟩ : ∃ n, n = c9.wait.length := ⟨_, rfl⟩
              have hLs : Lw ≤ 65536 := by rw [hLw]; exact H9.out.1.2.2.2.2.2.2.2.1
              have m1 : decide (65536 < (Lw : Int)) = false := decide_eq_false (by omega)
              have m1' : decide (65536 < Lw) = false := decide_eq_false (by omega)
              have n1 : decide (16384 < (L9 : Int)) = false := decide_eq_false (by omega)
              have n1' : decide (16384 < L9) = false := decide_eq_false (by omega)
              have hL0 : Lw = 0 := by rw [hLw, H9.out.1.2.2.2.2.2.2.2.2.2.2.2 hov2]; rfl
              have q1 : decide (0 < (Lw : Int)) = false := decide_eq_false (by omega)
              have q1' : decide (0 < Lw) = false := decide_eq_false (by omega)
              clear hL0
              have HLW := Lib.hid hLw
              clear hLw hLs hov2 hl9
              go_wp2_with fail
              refine (WsWaiting_calls w _ g c9 vw9 vl9 H10.out.1).mono ?_
              rintro e w' ⟨rfl, he⟩
              replace he := he.symm
              subst he
              rw [← HLW.out]
              go_wp2_with fail
              refine (WsOver_calls w _ g c9 vw9 vl9 H10.out.1).mono ?_
              rintro e w' ⟨rfl, he⟩
              replace he := he.symm
              subst he
              rw [HO2.out]
              go_wp2_with fail
              refine (WsWaiting_calls w _ g c9 vw9 vl9 H10.out.1).mono ?_
              rintro e w' ⟨rfl, he⟩
              replace he := he.symm
              subst he
              rw [← HLW.out]
              go_upto_region 16 with (fail)
              have HDR := Lib.hid (show ∀ q, ConnAt w (W10.drewN q) g c9 vw9 vl9 from fun q => H10.out.1.below (pw_below_drewN (Below.refl _ _) _))
              go_quiet (first | (go_at_call 31; refine (WsOver_calls w _ g c9 vw9 vl9 (HDR.out _)).mono ?_; rintro e w' ⟨rfl, rfl⟩; rw [HO2.out]; exact ⟨rfl, _, rfl⟩))
              have HZ := Lib.hid (show ConnAt w (W10.drewN nq) g c9 vw9 vl9 ∧ Below w.heap.size w (W10.drewN nq) ∧ OpOk c9 from ⟨HDR.out _, pw_below_drewN H10.out.2.1 _, H9.out.2.2.2.1.1⟩)
              generalize W10.drewN nq = WZ at HZ ⊢
              go_wp2
              go_roundw
              case rel => exact ⟨k + 1, c9, vw9, vl9, by go_num, by have := HK.out; omega, HZ⟩
              case measure => have := HK.out; simp [intOf]; omega
            | false =>
              have HO2 := Lib.hid hov2
              obtain ⟨Lw, hLw⟩ : ∃ n, n = c9.wait.length := ⟨_, rfl⟩
              have hLs : Lw ≤ 65536 := by rw [hLw]; exact H9.out.1.2.2.2.2.2.2.2.1
              have m1 : decide (65536 < (Lw : Int)) = false := decide_eq_false (by omega)
              have m1' : decide (65536 < Lw) = false := decide_eq_false (by omega)
              have n1 : decide (16384 < (L9 : Int)) = false := decide_eq_false (by omega)
              have n1' : decide (16384 < L9) = false := decide_eq_false (by omega)
              have HLW := Lib.hid hLw
              clear hLw hLs hov2 hl9
              go_wp2_with fail
              refine (WsWaiting_calls w _ g c9 vw9 vl9 H10.out.1).mono ?_
              rintro e w' ⟨rfl, he⟩
              replace he := he.symm
              subst he
              rw [← HLW.out]
              go_wp2_with fail
              refine (WsOver_calls w _ g c9 vw9 vl9 H10.out.1).mono ?_
              rintro e w' ⟨rfl, he⟩
              replace he := he.symm
              subst he
              rw [HO2.out]
              go_upto_region 16 with (fail)
              have HDR := Lib.hid (show ∀ q, ConnAt w (W10.drewN q) g c9 vw9 vl9 from fun q => H10.out.1.below (pw_below_drewN (Below.refl _ _) _))
              go_quiet (first | (go_at_call 31; refine (WsOver_calls w _ g c9 vw9 vl9 (HDR.out _)).mono ?_; rintro e w' ⟨rfl, rfl⟩; rw [HO2.out]; exact ⟨rfl, _, rfl⟩))
              have HZ := Lib.hid (show ConnAt w (W10.drewN nq) g c9 vw9 vl9 ∧ Below w.heap.size w (W10.drewN nq) ∧ OpOk c9 from ⟨HDR.out _, pw_below_drewN H10.out.2.1 _, H9.out.2.2.2.1.1⟩)
              generalize W10.drewN nq = WZ at HZ ⊢
              go_wp2
              go_roundw
              case rel => exact ⟨k + 1, c9, vw9, vl9, by go_num, by have := HK.out; omega, HZ⟩
              case measure => have := HK.out; simp [intOf]; omega
          | true =>
            have HEV := Lib.hid (show EvtOk c9 ⟨xo, xc, xl, xb⟩ from by
              rcases H9.out.2.2.2.2.2 with ⟨_, h3⟩ | ⟨h3, _⟩
              · exact H9.out.2.2.2.1.2 _ h3
              · cases h3)
            have hl9 : L9 ≤ 16384 := by rw [HL9.out]; exact HEV.out.1.1
            cases xb with
            | true =>
              have hov2 : c9.over = true := HEV.out.2.2
              cases o1 : (xo == 1) with
              | true =>
                have HO2 := Lib.hid hov2
                obtain ⟨Lw, hLw⟩ : ∃ n, n = c9.wait.length := ⟨_, rfl⟩
                have hLs : Lw ≤ 65536 := by rw [hLw]; exact H9.out.1.2.2.2.2.2.2.2.1
                have m1 : decide (65536 < (Lw : Int)) = false := decide_eq_false (by omega)
                have m1' : decide (65536 < Lw) = false := decide_eq_false (by omega)
                have n1 : decide (16384 < (L9 : Int)) = false := decide_eq_false (by omega)
                have n1' : decide (16384 < L9) = false := decide_eq_false (by omega)
                have hL0 : Lw = 0 := by rw [hLw, H9.out.1.2.2.2.2.2.2.2.2.2.2.2 hov2]; rfl
                have q1 : decide (0 < (Lw : Int)) = false := decide_eq_false (by omega)
                have q1' : decide (0 < Lw) = false := decide_eq_false (by omega)
                clear hL0
                have HLW := Lib.hid hLw
                clear hLw hLs hov2 hl9
                go_wp2_with fail
                refine (WsWaiting_calls w _ g c9 vw9 vl9 H10.out.1).mono ?_
                rintro e w' ⟨rfl, he⟩
                replace he := he.symm
                subst he
                rw [← HLW.out]
                go_wp2_with fail
                refine (WsOver_calls w _ g c9 vw9 vl9 H10.out.1).mono ?_
                rintro e w' ⟨rfl, he⟩
                replace he := he.symm
                subst he
                rw [HO2.out]
                go_wp2_with fail
                refine (WsWaiting_calls w _ g c9 vw9 vl9 H10.out.1).mono ?_
                rintro e w' ⟨rfl, he⟩
                replace he := he.symm
                subst he
                rw [← HLW.out]
                go_upto_region 16 with (fail)
                have HDR := Lib.hid (show ∀ q, ConnAt w (W10.drewN q) g c9 vw9 vl9 from fun q => H10.out.1.below (pw_below_drewN (Below.refl _ _) _))
                go_quiet (first | (go_at_call 31; refine (WsOver_calls w _ g c9 vw9 vl9 (HDR.out _)).mono ?_; rintro e w' ⟨rfl, rfl⟩; rw [HO2.out]; exact ⟨rfl, _, rfl⟩))
                have HZ := Lib.hid (show ConnAt w (W10.drewN nq) g c9 vw9 vl9 ∧ Below w.heap.size w (W10.drewN nq) ∧ OpOk c9 from ⟨HDR.out _, pw_below_drewN H10.out.2.1 _, H9.out.2.2.2.1.1⟩)
                generalize W10.drewN nq = WZ at HZ ⊢
                go_wp2
                go_roundw
                case rel => exact ⟨k + 1, c9, vw9, vl9, by go_num, by have := HK.out; omega, HZ⟩
                case measure => have := HK.out; simp [intOf]; omega
              | false =>
                have HO2 := Lib.hid hov2
                obtain ⟨Lw, hLw⟩ : ∃ n, n = c9.wait.length := ⟨_, rfl⟩
                have hLs : Lw ≤ 65536 := by rw [hLw]; exact H9.out.1.2.2.2.2.2.2.2.1
                have m1 : decide (65536 < (Lw : Int)) = false := decide_eq_false (by omega)
                have m1' : decide (65536 < Lw) = false := decide_eq_false (by omega)
                have n1 : decide (16384 < (L9 : Int)) = false := decide_eq_false (by omega)
                have n1' : decide (16384 < L9) = false := decide_eq_false (by omega)
                have hL0 : Lw = 0 := by rw [hLw, H9.out.1.2.2.2.2.2.2.2.2.2.2.2 hov2]; rfl
                have q1 : decide (0 < (Lw : Int)) = false := decide_eq_false (by omega)
                have q1' : decide (0 < Lw) = false := decide_eq_false (by omega)
                clear hL0
                have HLW := Lib.hid hLw
                clear hLw hLs hov2 hl9
                go_wp2_with fail
                refine (WsWaiting_calls w _ g c9 vw9 vl9 H10.out.1).mono ?_
                rintro e w' ⟨rfl, he⟩
                replace he := he.symm
                subst he
                rw [← HLW.out]
                go_wp2_with fail
                refine (WsOver_calls w _ g c9 vw9 vl9 H10.out.1).mono ?_
                rintro e w' ⟨rfl, he⟩
                replace he := he.symm
                subst he
                rw [HO2.out]
                go_wp2_with fail
                refine (WsWaiting_calls w _ g c9 vw9 vl9 H10.out.1).mono ?_
                rintro e w' ⟨rfl, he⟩
                replace he := he.symm
                subst he
                rw [← HLW.out]
                go_upto_region 16 with (fail)
                have HDR := Lib.hid (show ∀ q, ConnAt w (W10.drewN q) g c9 vw9 vl9 from fun q => H10.out.1.below (pw_below_drewN (Below.refl _ _) _))
                go_quiet (first | (go_at_call 31; refine (WsOver_calls w _ g c9 vw9 vl9 (HDR.out _)).mono ?_; rintro e w' ⟨rfl, rfl⟩; rw [HO2.out]; exact ⟨rfl, _, rfl⟩))
                have HZ := Lib.hid (show ConnAt w (W10.drewN nq) g c9 vw9 vl9 ∧ Below w.heap.size w (W10.drewN nq) ∧ OpOk c9 from ⟨HDR.out _, pw_below_drewN H10.out.2.1 _, H9.out.2.2.2.1.1⟩)
                generalize W10.drewN nq = WZ at HZ ⊢
                go_wp2
                go_roundw
                case rel => exact ⟨k + 1, c9, vw9, vl9, by go_num, by have := HK.out; omega, HZ⟩
                case measure => have := HK.out; simp [intOf]; omega
            | false =>
              by_cases h8 : xo = 8
              · subst h8
                have hov2 : c9.over = true := HEV.out.2.2
                have HO2 := Lib.hid hov2
                obtain ⟨Lw, hLw⟩ : ∃ n, n = c9.wait.length := ⟨_, rfl⟩
                have hLs : Lw ≤ 65536 := by rw [hLw]; exact H9.out.1.2.2.2.2.2.2.2.1
                have m1 : decide (65536 < (Lw : Int)) = false := decide_eq_false (by omega)
                have m1' : decide (65536 < Lw) = false := decide_eq_false (by omega)
                have n1 : decide (16384 < (L9 : Int)) = false := decide_eq_false (by omega)
                have n1' : decide (16384 < L9) = false := decide_eq_false (by omega)
                have hL0 : Lw = 0 := by rw [hLw, H9.out.1.2.2.2.2.2.2.2.2.2.2.2 hov2]; rfl
                have q1 : decide (0 < (Lw : Int)) = false := decide_eq_false (by omega)
                have q1' : decide (0 < Lw) = false := decide_eq_false (by omega)
                clear hL0
                have HLW := Lib.hid hLw
                clear hLw hLs hov2 hl9
                go_wp2_with fail
                refine (WsWaiting_calls w _ g c9 vw9 vl9 H10.out.1).mono ?_
                rintro e w' ⟨rfl, he⟩
                replace he := he.symm
                subst he
                rw [← HLW.out]
                go_wp2_with fail
                refine (WsOver_calls w _ g c9 vw9 vl9 H10.out.1).mono ?_
                rintro e w' ⟨rfl, he⟩
                replace he := he.symm
                subst he
                rw [HO2.out]
                go_wp2_with fail
                refine (WsWaiting_calls w _ g c9 vw9 vl9 H10.out.1).mono ?_
                rintro e w' ⟨rfl, he⟩
                replace he := he.symm
                subst he
                rw [← HLW.out]
                go_upto_region 16 with (fail)
                have HDR := Lib.hid (show ∀ q, ConnAt w (W10.drewN q) g c9 vw9 vl9 from fun q => H10.out.1.below (pw_below_drewN (Below.refl _ _) _))
                go_quiet (first | (go_at_call 31; refine (WsOver_calls w _ g c9 vw9 vl9 (HDR.out _)).mono ?_; rintro e w' ⟨rfl, rfl⟩; rw [HO2.out]; exact ⟨rfl, _, rfl⟩))
                have HZ := Lib.hid (show ConnAt w (W10.drewN nq) g c9 vw9 vl9 ∧ Below w.heap.size w (W10.drewN nq) ∧ OpOk c9 from ⟨HDR.out _, pw_below_drewN H10.out.2.1 _, H9.out.2.2.2.1.1⟩)
                generalize W10.drewN nq = WZ at HZ ⊢
                go_wp2
                go_roundw
                case rel => exact ⟨k + 1, c9, vw9, vl9, by go_num, by have := HK.out; omega, HZ⟩
                case measure => have := HK.out; simp [intOf]; omega
              · have o8 : (xo == 8) = false := by rw [beq_eq_false_iff_ne]; exact h8
                have hov2 : c9.over = false := by rw [HEV.out.2.2]; show (false || xo == 8) = false; rw [o8]; rfl
                by_cases h1 : xo = 1
                · subst h1
                  clear o8 h8
                  have HO2 := Lib.hid hov2
                  obtain ⟨Lw, hLw⟩ : ∃ n, n = c9.wait.length := ⟨_, rfl⟩
                  have hLs : Lw ≤ 65536 := by rw [hLw]; exact H9.out.1.2.2.2.2.2.2.2.1
                  have m1 : decide (65536 < (Lw : Int)) = false := decide_eq_false (by omega)
                  have m1' : decide (65536 < Lw) = false := decide_eq_false (by omega)
                  have n1 : decide (16384 < (L9 : Int)) = false := decide_eq_false (by omega)
                  have n1' : decide (16384 < L9) = false := decide_eq_false (by omega)
                  have HLW := Lib.hid hLw
                  clear hLw hLs hov2 hl9
                  go_wp2_with fail
                  refine (WsWaiting_calls w _ g c9 vw9 vl9 H10.out.1).mono ?_
                  rintro e w' ⟨rfl, he⟩
                  replace he := he.symm
                  subst he
                  rw [← HLW.out]
                  go_wp2_with fail
                  refine (WsOver_calls w _ g c9 vw9 vl9 H10.out.1).mono ?_
                  rintro e w' ⟨rfl, he⟩
                  replace he := he.symm
                  subst he
                  rw [HO2.out]
                  go_wp2_with fail
                  refine (Chars_calls A9 k9 xl _ H10.out.2.2.1 HEV.out.1.2).mono ?_
                  rintro e w11 ⟨rfl, hd11⟩
                  obtain ⟨ch, hch⟩ : ∃ x, x = charsOf xl := ⟨_, rfl⟩
                  have hcn := HEV.out.2.1 rfl rfl
                  rw [← hch] at hcn ⊢
                  have d5 : decide (0 ≤ ch) = false := decide_eq_false hcn
                  have H11 := Lib.hid (show ConnAt w w11 g c9 vw9 vl9 ∧ Below w.heap.size w w11 ∧ Rd w11 A9 L9 xl ∧ Whole w11 g10 51 #[.int .i64 1, .int .i64 xc, .slice A9 L9 k9, .bool false] from ⟨H10.out.1.below hd11.below, below_step H10.out.2.1 hd11.below, Kd.C_below H10.out.2.2.1 hd11.below, H10.out.2.2.2.below hd11.below H10.out.2.2.2.lt⟩)
                  clear hcn hch hd11 y0 y2 y3
                  have y0 := H11.out.2.2.2.cell 0 _ rfl
                  have y3 := H11.out.2.2.2.cell 3 _ rfl
                  go_upto_region 16 with (fail)
                  have HDR := Lib.hid (show ∀ q, ConnAt w (w11.drewN q) g c9 vw9 vl9 from fun q => H11.out.1.below (pw_below_drewN (Below.refl _ _) _))
                  go_quiet (first | (go_at_call 31; refine (WsOver_calls w _ g c9 vw9 vl9 (HDR.out _)).mono ?_; rintro e w' ⟨rfl, rfl⟩; rw [HO2.out]; exact ⟨rfl, _, rfl⟩))
                  have HZ := Lib.hid (show ConnAt w (w11.drewN nq) g c9 vw9 vl9 ∧ Below w.heap.size w (w11.drewN nq) ∧ OpOk c9 from ⟨HDR.out _, pw_below_drewN H11.out.2.1 _, H9.out.2.2.2.1.1⟩)
                  generalize w11.drewN nq = WZ at HZ ⊢
                  go_wp2
                  go_roundw
                  case rel => exact ⟨k + 1, c9, vw9, vl9, by go_num, by have := HK.out; omega, HZ⟩
                  case measure => have := HK.out; simp [intOf]; omega
                · have o1 : (xo == 1) = false := by rw [beq_eq_false_iff_ne]; exact h1
                  clear h8 h1
                  have HO2 := Lib.hid hov2
                  obtain ⟨Lw, hLw⟩ : ∃ n, n = c9.wait.length := ⟨_, rfl⟩
                  have hLs : Lw ≤ 65536 := by rw [hLw]; exact H9.out.1.2.2.2.2.2.2.2.1
                  have m1 : decide (65536 < (Lw : Int)) = false := decide_eq_false (by omega)
                  have m1' : decide (65536 < Lw) = false := decide_eq_false (by omega)
                  have n1 : decide (16384 < (L9 : Int)) = false := decide_eq_false (by omega)
                  have n1' : decide (16384 < L9) = false := decide_eq_false (by omega)
                  have HLW := Lib.hid hLw
                  clear hLw hLs hov2 hl9
                  go_wp2_with fail
                  refine (WsWaiting_calls w _ g c9 vw9 vl9 H10.out.1).mono ?_
                  rintro e w' ⟨rfl, he⟩
                  replace he := he.symm
                  subst he
                  rw [← HLW.out]
                  go_wp2_with fail
                  refine (WsOver_calls w _ g c9 vw9 vl9 H10.out.1).mono ?_
                  rintro e w' ⟨rfl, he⟩
                  replace he := he.symm
                  subst he
                  rw [HO2.out]
                  go_upto_region 16 with (fail)
                  have HDR := Lib.hid (show ∀ q, ConnAt w (W10.drewN q) g c9 vw9 vl9 from fun q => H10.out.1.below (pw_below_drewN (Below.refl _ _) _))
                  go_quiet (first | (go_at_call 31; refine (WsOver_calls w _ g c9 vw9 vl9 (HDR.out _)).mono ?_; rintro e w' ⟨rfl, rfl⟩; rw [HO2.out]; exact ⟨rfl, _, rfl⟩))
                  have HZ := Lib.hid (show ConnAt w (W10.drewN nq) g c9 vw9 vl9 ∧ Below w.heap.size w (W10.drewN nq) ∧ OpOk c9 from ⟨HDR.out _, pw_below_drewN H10.out.2.1 _, H9.out.2.2.2.1.1⟩)
                  generalize W10.drewN nq = WZ at HZ ⊢
                  go_wp2
                  go_roundw
                  case rel => exact ⟨k + 1, c9, vw9, vl9, by go_num, by have := HK.out; omega, HZ⟩
                  case measure => have := HK.out; simp [intOf]; omega
      · obtain rfl : k = n := by omega
        have dkn : decide ((k : Int) < k) = false := decide_eq_false (by omega)
        have dkn' : decide (k < k) = false := decide_eq_false (by omega)
        go_wp2_with fail
        refine (wsAwake_calls _).mono ?_
        rintro e w3 ⟨rfl, hb3⟩
        have HB := Lib.hid (below_step HR.out.2.1 hb3)
        clear hb3
        go_wp2
        go_ret
        exact ⟨rfl, HB.out⟩
end Go.Proofs.YtcfbfmgckaehdaaDoor
