/- The walk of a law: WsockFeedsWalk. -/
import Derived.Test.YtcfbfmgckaehdaaDoorG13
import Derived.Test.YtcfbfmgckaehdaaDoorG27
namespace Go.Proofs.YtcfbfmgckaehdaaDoor
open Go.RowKit Go.Proofs.YtcfbfmgckaehdaaDoorW.PrintWords
theorem RelF.mono {M M2 : Nat} {c : Cn} {F : List Frm} (h : RelF M c F) (hM : M ≤ M2) : RelF M2 c F := fun ho => ⟨Nat.le_trans (h ho).1 hM, (h ho).2⟩
theorem RelF.feed {M : Nat} {c : Cn} {F : List Frm} (h : RelF M c F) (b : List Int) : RelF (M + 65536) (feedC c b) F := by
  unfold feedC
  split
  · rename_i h0
    intro ho
    have ho' : c.over = false := ho
    have h1 := h ho'
    refine ⟨?_, h1.2⟩
    show 2 * F.length + (c.wait ++ b).length ≤ M + 65536
    have h2 : c.wait.length + b.length ≤ 65536 := by
      unfold feedE at h0
      rw [if_neg (by rw [ho']; decide)] at h0
      by_cases h3 : 65536 < c.wait.length + b.length
      · rw [if_pos h3] at h0; cases h0
      · omega
    rw [List.length_append]
    have := h1.1
    omega
  · exact h.mono (Nat.le_add_right _ _)
theorem StepR.uniq {y : Option Evt} {x x2 : Evt} {ok ok2 : Bool} (h : StepR y x ok) (h2 : StepR y x2 ok2) : x2 = x ∧ ok2 = ok := by
  rcases h with ⟨h1, h3⟩ | ⟨h1, h3, h4⟩ <;> rcases h2 with ⟨h5, h6⟩ | ⟨h5, h6, h7⟩
  · rw [h3] at h6; exact ⟨(Option.some.inj h6).symm, h5.trans h1.symm⟩
  · rw [h3] at h6; cases h6
  · rw [h3] at h6; cases h6
  · exact ⟨h7.trans h4.symm, h5.trans h1.symm⟩
/-- Both ends, alike; v: a row that is turned over. -/
def FdsB (w W : World) (g gr : Nat) (cc : Cn) (vw vl : Value) (F : List Frm) (M : Nat) (v : Value) : Prop :=
  ConnAt w W g cc vw vl ∧ Below w.heap.size w W ∧ RefAt w W (fun k => k = gr ∨ Foot g vw vl k ∨ some k = v.ownBlock) gr cc F ∧ RelF M cc F ∧ ¬ Foot g vw vl gr ∧ (∀ k, Foot g vw vl k → some k ≠ v.ownBlock) ∧ some gr ≠ v.ownBlock
def FdsAt (w W : World) (g gr : Nat) (cc : Cn) (vw vl : Value) (F : List Frm) (M : Nat) : Prop := FdsB w W g gr cc vw vl F M (.slice none 0 0)
/-- The one end has been fed, the other has not yet. -/
def FdsC (w W : World) (g gr : Nat) (ca cr : Cn) (vw vl : Value) (F : List Frm) (M : Nat) (v : Value) : Prop :=
  ConnAt w W g ca vw vl ∧ Below w.heap.size w W ∧ RefAt w W (fun k => k = gr ∨ Foot g vw vl k ∨ some k = v.ownBlock) gr cr F ∧ RelF M cr F ∧ ¬ Foot g vw vl gr ∧ (∀ k, Foot g vw vl k → some k ≠ v.ownBlock) ∧ some gr ≠ v.ownBlock
theorem FdsC.put {w W : World} {g gr : Nat} {ca cr : Cn} {vw vl : Value} {F : List Frm} {M : Nat} {v : Value} (h : FdsC w W g gr ca cr vw vl F M v) {p : Addr} (hp : some p.block = v.ownBlock) (hge : w.heap.size ≤ p.block) (x : Value) : FdsC w (W.setCell p x) g gr ca cr vw vl F M v :=
  ⟨h.1.step (fun k hF _ => heap_far (fun e => h.2.2.2.2.2.1 k hF (by rw [e]; exact hp))), h.2.1.setCell hge _, h.2.2.1.move (by rw [World.size_setCell]; exact Nat.le_refl _) (fun k _ ho => heap_far (fun e => ho.elim (fun h1 => h.2.2.2.2.2.2 (by rw [← h1, e]; exact hp)) (fun h1 => h1 (.inr (.inr (by rw [e]; exact hp)))))) (fun _ _ hn => hn) (.inl rfl), h.2.2.2⟩
theorem FdsB.below {w W W1 : World} {g gr : Nat} {cc : Cn} {vw vl : Value} {F : List Frm} {M : Nat} {v : Value} (h : FdsB w W g gr cc vw vl F M v) (hb : Below W.heap.size W W1) : FdsB w W1 g gr cc vw vl F M v :=
  ⟨h.1.below hb, below_step h.2.1 hb, h.2.2.1.below hb, h.2.2.2⟩
theorem FdsB.free {w W : World} {g gr : Nat} {cc : Cn} {vw vl : Value} {F : List Frm} {M : Nat} {v : Value} (h : FdsB w W g gr cc vw vl F M v) : FdsAt w W g gr cc vw vl F M :=
  ⟨h.1, h.2.1, h.2.2.1.move (Nat.le_refl _) (fun _ _ _ => rfl) (fun k _ hn ho => hn (ho.elim .inl (fun h => h.elim (fun h => .inr (.inl h)) (fun h => by simp [Value.ownBlock] at h)))) (.inl rfl), h.2.2.2.1, h.2.2.2.2.1, fun k _ => by simp [Value.ownBlock], by simp [Value.ownBlock]⟩
/-- A new row is set apart. -/
theorem FdsB.with {w W W1 : World} {g gr : Nat} {cc : Cn} {vw vl : Value} {F : List Frm} {M : Nat} {v : Value} {l : List Int} (h : FdsAt w W g gr cc vw vl F M) (hb : Below W.heap.size W W1) (ho : Own W W1 v l) : FdsB w W1 g gr cc vw vl F M v := by
  have hgr := h.2.2.1.gr
  refine ⟨h.1.below hb, below_step h.2.1 hb, h.2.2.1.move hb.size (fun k hk _ => hb.block k hk) (fun k hk hn hor => ?_) (.inl rfl), h.2.2.2.1, h.2.2.2.2.1, fun k hF e => ?_, fun e => ?_⟩
  · rcases hor with h1 | h1 | h1
    · exact hn (.inl h1)
    · exact hn (.inr (.inl h1))
    · have := ho.ge k h1.symm; omega
  · have := ho.ge k e.symm; exact h.1.outside k this hF
  · have := ho.ge gr e.symm; omega
/-- A store into that row. -/
theorem FdsB.put {w W : World} {g gr : Nat} {cc : Cn} {vw vl : Value} {F : List Frm} {M : Nat} {v : Value} (h : FdsB w W g gr cc vw vl F M v) {p : Addr} (hp : some p.block = v.ownBlock) (hge : w.heap.size ≤ p.block) (x : Value) : FdsB w (W.setCell p x) g gr cc vw vl F M v :=
  ⟨h.1.step (fun k hF _ => heap_far (fun e => h.2.2.2.2.2.1 k hF (by rw [e]; exact hp))), h.2.1.setCell hge _, h.2.2.1.move (by rw [World.size_setCell]; exact Nat.le_refl _) (fun k _ ho => heap_far (fun e => ho.elim (fun h1 => h.2.2.2.2.2.2 (by rw [← h1, e]; exact hp)) (fun h1 => h1 (.inr (.inr (by rw [e]; exact hp)))))) (fun _ _ hn => hn) (.inl rfl), h.2.2.2⟩
set_option maxRecDepth 20000 in
set_option maxHeartbeats 12800000 in
theorem WsockFeeds_walk (server : Bool) (A : Option Addr) (n c : Nat) (L : List Fd) (w : World) (hr : RdFd w A n L) (_hc : n ≤ c) (hok : FdOk L) :
    Calls Tryd.prog 9 #[.bool server, .slice A n c] w fun e w' => e = .returned (.bool true) ∧ Below w.heap.size w w' := by
  have hmx := Kd.C_max hr
  have HI := Lib.hid (show RdFd w A n L ∧ FdOk L ∧ L.length = n ∧ n ≤ 9223372036854775807 from ⟨hr, hok, Kd.C_len hr, hmx⟩)
  clear hr hok hmx
  go_enter Tryd.func9, Tryd.ntmps9
  go_wp2_with fail
  refine (short_le A c L w HI.out.1).mono ?_
  rintro e w' ⟨b, rfl, he, hn300⟩
  replace he := he.symm
  subst he
  cases b with
  | false =>
    clear hn300
    go_wp2_with fail
    refine (wsAwake_calls _).mono ?_
    rintro e w1 ⟨rfl, hb1⟩
    have HB := Lib.hid hb1
    clear hb1
    go_wp2
    go_ret
    exact ⟨rfl, HB.out⟩
  | true =>
    have HN := Lib.hid (hn300 rfl).1
    have HSH := Lib.hid (hn300 rfl).2
    clear hn300
    go_wp2_with fail
    refine (WsNew_calls server _).mono ?_
    rintro e w2 ⟨rfl, hc2, hb2⟩
    obtain ⟨g, hg⟩ : ∃ g, g = w.heap.size := ⟨_, rfl⟩
    rw [← hg] at hc2 ⊢
    obtain ⟨gr, hgr⟩ : ∃ g, g = w2.heap.size := ⟨_, rfl⟩
    obtain ⟨W3, hW3⟩ : ∃ W, W = w2.alloc (.cells #[.bool server, .bool false, .slice none 0 0, .slice none 0 0] 68) := ⟨_, rfl⟩
    have hb3 : Below w2.heap.size w2 W3 := by rw [hW3]; exact below_alloc (Below.refl _ _) _
    have hk3 : Whole W3 gr 68 #[.bool server, .bool false, .slice none 0 0, .slice none 0 0] := by rw [hW3, hgr]; exact Whole.new w2 _ _
    have hlt := hc2.1.lt
    have hsz := hb2.size
    have hngr : ¬ Foot g (.slice none 0 0) (.slice none 0 0) gr := hc2.outside gr (by omega)
    have H3 := Lib.hid (show FdsAt w W3 g gr ⟨server, false, [], 0, []⟩ (.slice none 0 0) (.slice none 0 0) [] 0 from
      ⟨hc2.below hb3, below_step hb2 hb3, ⟨.none, 0, 0, .slice none 0 0, hk3, Rd.empty _ _, Nat.le_refl _, fun ad he _ => (nomatch he), ⟨[], Kd.R_nil _ _ _ _ _, rfl, fun p hp => (nomatch hp)⟩, .inl rfl, by omega⟩, fun _ => ⟨by simp, .inl ⟨rfl, rfl, rfl⟩⟩, hngr, fun k _ => by simp [Value.ownBlock], by simp [Value.ownBlock]⟩)
    have HS3 := Lib.hid (show gr = w2.heap.size ∧ W3 = w2.alloc _ from ⟨hgr, hW3⟩)
    clear hc2 hb2 hg hgr hW3 hb3 hk3 hlt hsz hngr
    go_upto_region 4 with (fail)
    rw [← HS3.out.1, ← HS3.out.2]
    go_wp2
    go_loopw [30] (fun i wr => ∃ (k : Nat) (cc : Cn) (vw vl : Value) (F : List Frm), i = .int .i64 k ∧ k ≤ n ∧ Hid (FdsAt w wr g gr cc vw vl F (65536 * k))) (fun i _ => n - (intOf i).toNat)
    case atStart => exact ⟨0, _, _, _, _, rfl, by omega, H3⟩
    case round =>
      obtain ⟨k, cc, vw, vl, F, rfl, hk, HR⟩ := hrel
      clear H3
      by_cases hkn : k < n
      · have dkn : decide ((k : Int) < n) = true := decide_eq_true (by omega)
        have dkn' : decide (k < n) = true := decide_eq_true hkn
        have wk : IntKind.i64.wrap ((k : Int) + 1) = k + 1 := wrap_id (by omega) (by have := HI.out; omega)
        have ikn : (k : Int) < n := by omega
        have i0 : (0 : Int) ≤ k := by omega
        have HK := Lib.hid hkn
        obtain ⟨ad, Ai, ci, rfl, x0, x1, hci, hrd⟩ := RdFd.at (Kd.C_below HI.out.1 HR.out.2.1) k hkn
        have hby := HI.out.2.1.at k (by have := HI.out; omega)
        have hshm := HSH.out k hkn
        obtain ⟨_, Ai2, ci2, ead, _, z1, hci2, hrd2⟩ := RdFd.at HI.out.1 k hkn
        obtain rfl := Option.some.inj ead
        have z1b := pw_cell_below HR.out.2.1 z1
        obtain ⟨fd, hfd⟩ : ∃ fd, fd = L.getD k Fd.none := ⟨_, rfl⟩
        rw [← hfd] at x0 x1 hci hrd hby z1b hci2 hrd2 hshm
        obtain ⟨ask, bs⟩ := fd
        simp only at x0 x1 hci hrd hby z1b hci2 hrd2 hshm
        have eAi : Ai2 = Ai := by rw [x1] at z1b; injection Option.some.inj z1b with h1 _ _; exact h1.symm
        rw [eAi] at hrd2
        obtain ⟨m, hm⟩ : ∃ m, m = bs.length := ⟨_, rfl⟩
        rw [← hm] at x1 hci hrd hrd2 hshm
        have HSM := Lib.hid hshm
        obtain ⟨g7, hg7⟩ : ∃ x, x = wr.heap.size := ⟨_, rfl⟩
        obtain ⟨W7, hW7⟩ : ∃ W, W = wr.alloc (.cells #[.bool ask, .slice Ai m ci] 70) := ⟨_, rfl⟩
        have hb7 : Below wr.heap.size wr W7 := by rw [hW7]; exact below_alloc (Below.refl _ _) _
        have hk7 : Whole W7 g7 70 #[.bool ask, .slice Ai m ci] := by rw [hW7, hg7]; exact Whole.new wr _ _
        have HS7 := Lib.hid (show g7 = wr.heap.size ∧ W7 = wr.alloc _ from ⟨hg7, hW7⟩)
        have hgrl := HR.out.2.2.1.gr
        have H7 := Lib.hid (show FdsAt w W7 g gr cc vw vl F (65536 * k) ∧ Whole W7 g7 70 #[.bool ask, .slice Ai m ci] ∧ Rd w Ai m bs ∧ Bytes bs ∧ bs.length = m ∧ m ≤ ci ∧ g7 ≠ gr ∧ ¬ Foot g vw vl g7 ∧ gr < W7.heap.size from ⟨HR.out.below hb7, hk7, hrd2, hby, hm.symm, hci, by omega, HR.out.1.outside g7 (by omega), Nat.lt_of_lt_of_le hgrl.2.1 hb7.size⟩)
        clear hshm hkn hk hci hrd hby hfd hm hg7 hW7 hb7 hk7 HR z1 z1b hci2 hrd2 eAi hgrl
        go_upto_region 9 with (fail)
        rw [← HS7.out.1, ← HS7.out.2]
        clear x0 x1
        have z0 := H7.out.2.1.cell 0 _ rfl
        have z1 := H7.out.2.1.cell 1 _ rfl
        cases ask with
        | true =>
          go_wp2_with fail
          refine (WsNext_calls w _ g _ _ _ H7.out.1.1 H7.out.1.2.1).mono ?_
          rintro e w9 ⟨vw9, vl9, v9, x9, ok, rfl, hs9, ho9, hc9, hr9, hap9, hb9, hfr9⟩
          obtain ⟨A9, k9, rfl, _, _⟩ := ho9.reads
          obtain ⟨xo, xc, xl, xb⟩ := x9
          obtain ⟨⟨c9, y9⟩, hn9⟩ : ∃ r, r = nextW cc := ⟨_, rfl⟩
          rw [← hn9] at hs9 hc9
          obtain ⟨L9, hL9⟩ : ∃ n, n = xl.length := ⟨_, rfl⟩
          dsimp only at hs9 hc9 ho9 hap9 hfr9 ⊢
          rw [← hL9] at ho9 hap9 hfr9 ⊢
          have hgr7 := H7.out.2.2.2.2.2.2.2.2
          have hnf7 := H7.out.1.2.2.2.2.1
          have hng9 : ¬ Foot g vw9 vl9 gr := fun hF => by
            rcases hr9.2.2 gr hF with h1 | h1
            · exact hnf7 h1
            · omega
          have hgo9 : some gr ≠ (Value.slice A9 L9 k9).ownBlock := fun e => by
            rcases hfr9 gr e with h1 | h1
            · exact hnf7 h1
            · omega
          have hra9 : RefAt w w9 (fun k => k = gr ∨ Foot g vw9 vl9 k ∨ some k = (Value.slice A9 L9 k9).ownBlock) gr cc F := H7.out.1.2.2.1.move hr9.1 (fun k hk ho => hr9.2.1 k hk (ho.elim (fun e => by rw [e]; exact hnf7) (fun h hF => h (.inr (.inl hF))))) (fun k hk hn ho => by
            rcases ho with h1 | h1 | h1
            · exact hn (.inl h1)
            · rcases hr9.2.2 k h1 with h2 | h2
              · exact hn (.inr (.inl h2))
              · omega
            · rcases hfr9 k h1 with h2 | h2
              · exact hn (.inr (.inl h2))
              · omega) (.inl rfl)
          have hlen9 := ho9.lt
          have H9 := Lib.hid (show ConnAt w w9 g c9 vw9 vl9 ∧ Below w.heap.size w w9 ∧ RefAt w w9 (fun k => k = gr ∨ Foot g vw9 vl9 k ∨ some k = (Value.slice A9 L9 k9).ownBlock) gr cc F ∧ Own w w9 (.slice A9 L9 k9) xl ∧ (∀ k, Foot g vw9 vl9 k → some k ≠ (Value.slice A9 L9 k9).ownBlock) ∧ ¬ Foot g vw9 vl9 gr ∧ some gr ≠ (Value.slice A9 L9 k9).ownBlock ∧ nextW cc = (c9, y9) ∧ StepR y9 ⟨xo, xc, xl, xb⟩ ok ∧ gr < w9.heap.size ∧ L9 = xl.length from ⟨hc9, hb9, hra9, ho9, hap9, hng9, hgo9, hn9.symm, hs9, Nat.lt_of_lt_of_le hgr7 hr9.1, hL9⟩)
          clear hs9 ho9 hc9 hr9 hap9 hb9 hfr9 hn9 hL9 hgr7 hnf7 hng9 hgo9 hra9 hlen9 z0 z1
          obtain ⟨gx, hgx⟩ : ∃ x, x = w9.heap.size := ⟨_, rfl⟩
          obtain ⟨W10, hW10⟩ : ∃ W, W = w9.alloc (.cells #[.int .i64 xo, .int .i64 xc, .slice A9 L9 k9, .bool xb] 51) := ⟨_, rfl⟩
          have hb10 : Below w9.heap.size w9 W10 := by rw [hW10]; exact below_alloc (Below.refl _ _) _
          have hz10 : W10.heap.size = w9.heap.size + 1 := by rw [hW10]; exact size_alloc w9 _
          have HS10 := Lib.hid (show gx = w9.heap.size ∧ W10 = w9.alloc _ from ⟨hgx, hW10⟩)
          have hlt9 := H9.out.2.2.2.1.lt
          have H10 := Lib.hid (show ConnAt w W10 g c9 vw9 vl9 ∧ Below w.heap.size w W10 ∧ RefAt w W10 (fun k => k = gr ∨ Foot g vw9 vl9 k ∨ some k = (Value.slice A9 L9 k9).ownBlock) gr cc F ∧ Own w W10 (.slice A9 L9 k9) xl ∧ Whole W10 gx 51 #[.int .i64 xo, .int .i64 xc, .slice A9 L9 k9, .bool xb] ∧ gx ≠ gr ∧ some gx ≠ (Value.slice A9 L9 k9).ownBlock ∧ (∀ k, W10.heap.size ≤ k → ¬ (k = gr ∨ Foot g vw9 vl9 k ∨ some k = (Value.slice A9 L9 k9).ownBlock)) from ⟨H9.out.1.below hb10, below_step H9.out.2.1 hb10, H9.out.2.2.1.below hb10, H9.out.2.2.2.1.below hb10, by rw [hW10, hgx]; exact Whole.new w9 _ _, by have := H9.out.2.2.2.2.2.2.2.2.2.1; omega, fun e => by have := hlt9 gx e.symm; omega, fun k hk ho => by
            have hg9 := H9.out.2.2.2.2.2.2.2.2.2.1
            rcases ho with h1 | h1 | h1
            · omega
            · exact H9.out.1.outside k (by omega) h1
            · have := hlt9 k h1.symm; omega⟩)
          clear hgx hW10 hb10 hz10 hlt9
          go_upto_region 11 with (fail)
          rw [← HS10.out.1, ← HS10.out.2]
          go_wp2_with fail
          refine (WsNextR_calls (65536 * k) (by have := HN.out; have := HK.out; omega) w _ _ gr cc F H10.out.2.2.1 H7.out.1.2.2.2.1 H7.out.1.1.2.2.2.2.2.2.2 H10.out.2.1 H10.out.2.2.2.2.2.2.2).mono ?_
          rintro e w11 ⟨A11, n11, c11, x11, ok11, F11, rfl, hs11, hr11, _, ha11, hf11, hk11, hB11⟩
          rw [H9.out.2.2.2.2.2.2.2.1] at hs11 ha11 hf11
          dsimp only at hs11 ha11 hf11
          obtain ⟨rfl, rfl⟩ := H9.out.2.2.2.2.2.2.2.2.1.uniq hs11
          dsimp only at hr11 ⊢
          have hn11 : n11 = L9 := (Kd.C_len hr11).symm.trans H9.out.2.2.2.2.2.2.2.2.2.2.symm
          subst hn11
          have H11 := Lib.hid (show FdsB w w11 g gr c9 vw9 vl9 F11 (65536 * k) (.slice A9 n11 k9) ∧ Own w w11 (.slice A9 n11 k9) xl ∧ Rd w11 A11 n11 xl ∧ Whole w11 gx 51 #[.int .i64 xo, .int .i64 xc, .slice A9 n11 k9, .bool xb] from
            ⟨⟨H10.out.1.step (fun k hF hlt => hk11.2 k hlt (fun e => H9.out.2.2.2.2.2.1 (e ▸ hF))), hB11, ha11, hf11, H9.out.2.2.2.2.2.1, H9.out.2.2.2.2.1, H9.out.2.2.2.2.2.2.1⟩, H10.out.2.2.2.1.keep (fun k hk hlt => hk11.2 k hlt (fun e => H9.out.2.2.2.2.2.2.1 (e ▸ hk))), hr11, H10.out.2.2.2.2.1.far (hk11.2 gx H10.out.2.2.2.2.1.lt H10.out.2.2.2.2.2.1)⟩)
          clear hs11 hr11 ha11 hf11 hk11 hB11
          obtain ⟨gy, hgy⟩ : ∃ x, x = w11.heap.size := ⟨_, rfl⟩
          obtain ⟨W12, hW12⟩ : ∃ W, W = w11.alloc (.cells #[.int .i64 xo, .int .i64 xc, .slice A11 n11 c11, .bool xb] 51) := ⟨_, rfl⟩
          have hb12 : Below w11.heap.size w11 W12 := by rw [hW12]; exact below_alloc (Below.refl _ _) _
          have HS12 := Lib.hid (show gy = w11.heap.size ∧ W12 = w11.alloc _ from ⟨hgy, hW12⟩)
          have H12 := Lib.hid (show FdsB w W12 g gr c9 vw9 vl9 F11 (65536 * k) (.slice A9 n11 k9) ∧ Own w W12 (.slice A9 n11 k9) xl ∧ Rd W12 A11 n11 xl ∧ Whole W12 gx 51 #[.int .i64 xo, .int .i64 xc, .slice A9 n11 k9, .bool xb] ∧ Whole W12 gy 51 #[.int .i64 xo, .int .i64 xc, .slice A11 n11 c11, .bool xb] from ⟨H11.out.1.below hb12, H11.out.2.1.below hb12, Kd.C_below H11.out.2.2.1 hb12, H11.out.2.2.2.below hb12 H11.out.2.2.2.lt, by rw [hW12, hgy]; exact Whole.new w11 _ _⟩)
          clear hgy hW12 hb12
          have eok : (ok11 != ok11) = false := by cases ok11 <;> rfl
          go_upto_region 12 with (fail)
          rw [← HS12.out.1, ← HS12.out.2]
          have y0 := H12.out.2.2.2.1.cell 0 _ rfl
          have y1 := H12.out.2.2.2.1.cell 1 _ rfl
          have y2 := H12.out.2.2.2.1.cell 2 _ rfl
          have y3 := H12.out.2.2.2.1.cell 3 _ rfl
          have u0 := H12.out.2.2.2.2.cell 0 _ rfl
          have u1 := H12.out.2.2.2.2.cell 1 _ rfl
          have u2 := H12.out.2.2.2.2.cell 2 _ rfl
          have u3 := H12.out.2.2.2.2.cell 3 _ rfl
          go_wp2_with fail
          refine (SameEvent_true xo xc A9 k9 xl A11 c11 xb _ H12.out.2.1.row H12.out.2.2.1).mono ?_
          rintro e w13 ⟨rfl, hb13⟩
          have H13 := Lib.hid (show FdsB w w13 g gr c9 vw9 vl9 F11 (65536 * k) (.slice A9 n11 k9) ∧ Own w w13 (.slice A9 n11 k9) xl ∧ Whole w13 gx 51 #[.int .i64 xo, .int .i64 xc, .slice A9 n11 k9, .bool xb] from ⟨H12.out.1.below hb13, H12.out.2.1.below hb13, H12.out.2.2.2.1.below hb13 H12.out.2.2.2.1.lt⟩)
          have HXL := Lib.hid (show xl.length = n11 ∧ n11 ≤ 9223372036854775807 from ⟨H9.out.2.2.2.2.2.2.2.2.2.2.symm, by have h := Kd.C_max H12.out.2.2.1; exact h⟩)
          clear hb13 y0 y1 y2 y3 u0 u1 u2 u3 eok
          have y2 := H13.out.2.2.cell 2 _ rfl
          go_wp2_with fail
          go_loopw [58] (fun i wr => ∃ j : Nat, i = .int .i64 j ∧ j ≤ n11 ∧ Hid (∃ row, FdsB w wr g gr c9 vw9 vl9 F11 (65536 * k) (.slice A9 n11 k9) ∧ Own w wr (.slice A9 n11 k9) row ∧ Whole wr gx 51 #[.int .i64 xo, .int .i64 xc, .slice A9 n11 k9, .bool xb] ∧ row.length = n11)) (fun i _ => n11 - (intOf i).toNat)
          case atStart => exact ⟨0, rfl, by omega, Lib.hid ⟨xl, H13.out.1, H13.out.2.1, H13.out.2.2, HXL.out.1⟩⟩
          case round =>
            obtain ⟨j, rfl, hj, HA⟩ := hrel
            obtain ⟨row, hA⟩ := HA.out
            have HA := Lib.hid hA
            clear hA y2
            by_cases hjn : j < n11
            · obtain ⟨gb, cap, e, _, hg, _⟩ := Own.form (show Own w wr (.slice A9 row.length k9) row by rw [HA.out.2.2.2]; exact HA.out.2.1) (by rw [HA.out.2.2.2]; omega)
              rw [HA.out.2.2.2] at e
              injection e with ea eb ec
              subst ea
              have HGX := Lib.hid (show gb ≠ gx ∧ w.heap.size ≤ gb from ⟨fun e => H10.out.2.2.2.2.2.2.1 (by rw [← e]; rfl), hg⟩)
              obtain ⟨hx, hf⟩ := Own.cell HA.out.2.1 j hjn
              obtain ⟨x, hxe⟩ : ∃ x, x = rd row (j : Nat) := ⟨_, rfl⟩
              rw [← hxe] at hx
              have djn : decide (j < n11) = true := decide_eq_true hjn
              have djn' : decide ((j : Int) < n11) = true := decide_eq_true (by omega)
              have ijn : (j : Int) < n11 := by omega
              have j0 : (0 : Int) ≤ j := by omega
              have wj : IntKind.i64.wrap ((j : Int) + 1) = j + 1 := wrap_id (by omega) (by have := HXL.out.2; omega)
              have y2 := HA.out.2.2.1.cell 2 _ rfl
              have HKK := Lib.hid (show ∃ r2, FdsB w (wr.setCell ⟨gb, j, none⟩ (.int .u8 (bits .xor .u8 x 255))) g gr c9 vw9 vl9 F11 (65536 * k) (.slice (some ⟨gb, 0, none⟩) n11 k9) ∧ Own w (wr.setCell ⟨gb, j, none⟩ (.int .u8 (bits .xor .u8 x 255))) (.slice (some ⟨gb, 0, none⟩) n11 k9) r2 ∧ Whole (wr.setCell ⟨gb, j, none⟩ (.int .u8 (bits .xor .u8 x 255))) gx 51 #[.int .i64 xo, .int .i64 xc, .slice (some ⟨gb, 0, none⟩) n11 k9, .bool xb] ∧ r2.length = n11 from
                ⟨row.set j (bits .xor .u8 x 255), HA.out.1.put (p := ⟨gb, j, none⟩) rfl HGX.out.2 _, HA.out.2.1.put j _, HA.out.2.2.1.other (p := ⟨gb, j, none⟩) HGX.out.1 _, by rw [List.length_set]; exact HA.out.2.2.2⟩)
              have HJN := Lib.hid hjn
              clear hg hxe eb ec hjn hj
              go_wp2
              go_roundw
              case rel => exact ⟨j + 1, by go_num, by have := HJN.out; omega, HKK⟩
              case measure => have := HJN.out; simp [intOf]; omega
            · obtain rfl : j = n11 := by omega
              have djn : decide (j < j) = false := decide_eq_false (by omega)
              have djn' : decide ((j : Int) < (j : Int)) = false := decide_eq_false (by omega)
              have HZ0 := Lib.hid (show FdsAt w wr g gr c9 vw9 vl9 F11 (65536 * k) from HA.out.1.free)
              clear hj
              obtain ⟨Ar, nr, cr, vp, hkr, hrr, _, _, _, _, _⟩ := id HZ0.out.2.2.1
              obtain ⟨Lw, hLw⟩ : ∃ n, n = c9.wait.length := ⟨_, rfl⟩
              have hnr : nr = Lw := (Kd.C_len hrr).symm.trans hLw.symm
              subst hnr
              obtain ⟨ov, hov⟩ : ∃ b, b = c9.over := ⟨_, rfl⟩
              rw [← hov] at hkr
              have x1 := hkr.cell 1 _ rfl
              have x2 := hkr.cell 2 _ rfl
              have HLW := Lib.hid (And.intro hLw hov)
              have HDR := Lib.hid (show ∀ q, ConnAt w (wr.drewN q) g c9 vw9 vl9 from fun q => HZ0.out.1.below (pw_below_drewN (Below.refl _ _) _))
              have eov : (ov != ov) = false := by cases ov <;> rfl
              have elw : ((nr : Int) != (nr : Int)) = false := by simp
              have elw' : (nr != nr) = false := by simp
              clear hkr hrr hLw hov
              go_upto_region 28 with (fail)
              go_quiet (first
                | (go_at_call 30; refine (WsWaiting_calls w _ g c9 vw9 vl9 (HDR.out _)).mono ?_; rintro e w' ⟨rfl, rfl⟩; rw [← HLW.out.1]; exact ⟨rfl, _, rfl⟩)
                | (go_at_call 31; refine (WsOver_calls w _ g c9 vw9 vl9 (HDR.out _)).mono ?_; rintro e w' ⟨rfl, rfl⟩; rw [← HLW.out.2]; exact ⟨rfl, _, rfl⟩))
              have HZ := Lib.hid (HZ0.out.below (pw_below_drewN (Below.refl _ _) nq))
              generalize wr.drewN nq = WZ at HZ ⊢
              clear x1 x2 eov elw elw'
              go_wp2
              go_roundw
              case rel => exact ⟨k + 1, c9, vw9, vl9, F11, by go_num, by have := HK.out; omega, Lib.hid ⟨HZ.out.1, HZ.out.2.1, HZ.out.2.2.1, HZ.out.2.2.2.1.mono (by omega), HZ.out.2.2.2.2⟩⟩
              case measure => have := HK.out; simp [intOf]; omega
        | false =>
          go_wp2_with fail
          have hcl := bytes_Clone.calls Ai ci bs bs W7 (by rw [H7.out.2.2.2.2.1]; exact Kd.C_below H7.out.2.2.1 H7.out.1.2.1) (by rw [H7.out.2.2.2.2.1]; exact H7.out.2.2.2.2.2.1) (if_pos (by rw [H7.out.2.2.2.2.1]; have := HSM.out; omega))
          rw [H7.out.2.2.2.2.1] at hcl
          refine hcl.mono ?_
          clear hcl
          rintro e w8 ⟨v8, rfl, ho8, hb8⟩
          obtain ⟨A8, c8, rfl, hc8, hr8⟩ := Own.reads ho8
          rw [H7.out.2.2.2.2.1] at ho8 hc8 hr8 ⊢
          replace ho8 : Own W7 w8 (.slice A8 m c8) bs := ho8
          have hge8 := Own.ge ho8
          have H8 := Lib.hid (show FdsB w w8 g gr cc vw vl F (65536 * k) (.slice A8 m c8) ∧ Own w w8 (.slice A8 m c8) bs ∧ Rd w8 A8 m bs ∧ Whole w8 g7 70 #[.bool false, .slice Ai m ci] ∧ some g7 ≠ (Value.slice A8 m c8).ownBlock from ⟨FdsB.with H7.out.1 hb8 ho8, ho8.lower H7.out.1.2.1.size, hr8, H7.out.2.1.below hb8 H7.out.2.1.lt, fun e => by have h1 := hge8 g7 e.symm; have h2 := H7.out.2.1.lt; omega⟩)
          clear ho8 hb8 hc8 hr8 hge8 z0 z1
          go_wp2_with fail
          refine (WsFeed_calls w _ g cc vw vl A8 c8 bs H8.out.1.1 H8.out.2.2.1 H7.out.2.2.2.1 H8.out.1.2.1).mono ?_
          rintro e w9 ⟨vw9, rfl, hc9, hr9, hb9⟩
          obtain ⟨E, hE⟩ : ∃ E, E = feedE cc bs.length := ⟨_, rfl⟩
          rw [← hE]
          have HE := Lib.hid hE
          obtain ⟨cf, hcf⟩ : ∃ x, x = feedC cc bs := ⟨_, rfl⟩
          rw [← hcf] at hc9
          have HCF := Lib.hid hcf
          have hlt8 := H8.out.2.1.lt
          have hgr8 := H8.out.1.2.2.1.gr
          have hap8 := H8.out.1.2.2.2.2.2.1
          have hng8 := H8.out.1.2.2.2.2.1
          have H9 := Lib.hid (show FdsC w w9 g gr cf cc vw9 vl F (65536 * k) (.slice A8 m c8) ∧ Own w w9 (.slice A8 m c8) bs ∧ Whole w9 g7 70 #[.bool false, .slice Ai m ci] from
            ⟨⟨hc9, hb9, H8.out.1.2.2.1.move hr9.1 (fun k hk ho => hr9.2.1 k hk (ho.elim (fun e => by rw [e]; exact hng8) (fun h hF => h (.inr (.inl hF))))) (fun k hk hn ho => by
              rcases ho with h1 | h1 | h1
              · exact hn (.inl h1)
              · rcases hr9.2.2 k h1 with h2 | h2
                · exact hn (.inr (.inl h2))
                · omega
              · exact hn (.inr (.inr h1))) (.inl rfl), H8.out.1.2.2.2.1, fun hF => by
                rcases hr9.2.2 gr hF with h2 | h2
                · exact hng8 h2
                · have := hgr8.2.1; omega, fun k hF e => by
                rcases hr9.2.2 k hF with h2 | h2
                · exact hap8 k h2 e
                · have := hlt8 k e.symm; omega, H8.out.1.2.2.2.2.2.2⟩, H8.out.2.1.keep (fun k hk hl => hr9.2.1 k hl (fun hF => hap8 k hF hk)), H8.out.2.2.2.1.far (hr9.2.1 g7 H8.out.2.2.2.1.lt H7.out.2.2.2.2.2.2.2.1)⟩)
          clear hc9 hr9 hb9 hE hcf hlt8 hgr8 hap8 hng8
          go_wp2
          go_loopw [77] (fun i wr => ∃ j : Nat, i = .int .i64 j ∧ j ≤ m ∧ Hid (∃ row, FdsC w wr g gr cf cc vw9 vl F (65536 * k) (.slice A8 m c8) ∧ Own w wr (.slice A8 m c8) row ∧ Whole wr g7 70 #[.bool false, .slice Ai m ci] ∧ row.length = m)) (fun i _ => m - (intOf i).toNat)
          case atStart => exact ⟨0, rfl, by omega, Lib.hid ⟨bs, H9.out.1, H9.out.2.1, H9.out.2.2, H7.out.2.2.2.2.1⟩⟩
          case round =>
            obtain ⟨j, rfl, hj, HA⟩ := hrel
            obtain ⟨row, hA⟩ := HA.out
            have HA := Lib.hid hA
            clear hA
            by_cases hjn : j < m
            · obtain ⟨gb, cap, e, _, hg, _⟩ := Own.form (show Own w wr (.slice A8 row.length c8) row by rw [HA.out.2.2.2]; exact HA.out.2.1) (by rw [HA.out.2.2.2]; omega)
              rw [HA.out.2.2.2] at e
              injection e with ea eb ec
              subst ea
              have HGX := Lib.hid (show gb ≠ g7 ∧ w.heap.size ≤ gb from ⟨fun e => H8.out.2.2.2.2 (by rw [← e]; rfl), hg⟩)
              obtain ⟨hx, hf⟩ := Own.cell HA.out.2.1 j hjn
              obtain ⟨x, hxe⟩ : ∃ x, x = rd row (j : Nat) := ⟨_, rfl⟩
              rw [← hxe] at hx
              have djn : decide (j < m) = true := decide_eq_true hjn
              have djn' : decide ((j : Int) < m) = true := decide_eq_true (by omega)
              have ijn : (j : Int) < m := by omega
              have j0 : (0 : Int) ≤ j := by omega
              have wj : IntKind.i64.wrap ((j : Int) + 1) = j + 1 := wrap_id (by omega) (by have := HSM.out; omega)
              have HKK := Lib.hid (show ∃ r2, FdsC w (wr.setCell ⟨gb, j, none⟩ (.int .u8 (bits .xor .u8 x 255))) g gr cf cc vw9 vl F (65536 * k) (.slice (some ⟨gb, 0, none⟩) m c8) ∧ Own w (wr.setCell ⟨gb, j, none⟩ (.int .u8 (bits .xor .u8 x 255))) (.slice (some ⟨gb, 0, none⟩) m c8) r2 ∧ Whole (wr.setCell ⟨gb, j, none⟩ (.int .u8 (bits .xor .u8 x 255))) g7 70 #[.bool false, .slice Ai m ci] ∧ r2.length = m from
                ⟨row.set j (bits .xor .u8 x 255), HA.out.1.put (p := ⟨gb, j, none⟩) rfl HGX.out.2 _, HA.out.2.1.put j _, HA.out.2.2.1.other (p := ⟨gb, j, none⟩) HGX.out.1 _, by rw [List.length_set]; exact HA.out.2.2.2⟩)
              have HJN := Lib.hid hjn
              clear hg hxe eb ec hjn hj
              go_wp2
              go_roundw
              case rel => exact ⟨j + 1, by go_num, by have := HJN.out; omega, HKK⟩
              case measure => have := HJN.out; simp [intOf]; omega
            · obtain rfl : j = m := by omega
              have djn : decide (j < j) = false := decide_eq_false (by omega)
              have djn' : decide ((j : Int) < (j : Int)) = false := decide_eq_false (by omega)
              clear hj
              have z1 := HA.out.2.2.1.cell 1 _ rfl
              have hltr := HA.out.2.1.lt
              have hgrr := HA.out.1.2.2.1.gr
              go_wp2_with fail
              refine (WsFeedR_calls w _ _ gr cc F Ai ci bs HA.out.1.2.2.1 HA.out.1.2.1 (Kd.C_below H7.out.2.2.1 HA.out.1.2.1) (fun k hk ho => by
                rcases ho with h1 | h1 | h1
                · have := hgrr.2.1; omega
                · exact HA.out.1.1.outside k hk h1
                · have := hltr k h1.symm; omega) H7.out.1.1.2.2.2.2.2.2.2.1 (by have := HSM.out; omega)).mono ?_
              rintro e w12 ⟨rfl, ha12, hk12, hB12⟩
              rw [← HE.out]
              rw [← HCF.out] at ha12
              have hng := HA.out.1.2.2.2.2.1
              have HZ1 := Lib.hid (show FdsB w w12 g gr cf vw9 vl F (65536 * k + 65536) (.slice A8 j c8) from ⟨HA.out.1.1.step (fun k hF hlt => hk12.2 k hlt (fun e => hng (e ▸ hF))), hB12, ha12, by rw [HCF.out]; exact HA.out.1.2.2.2.1.feed bs, hng, HA.out.1.2.2.2.2.2⟩)
              have HZ0 := Lib.hid HZ1.out.free
              clear ha12 hk12 hB12 hng hltr hgrr z1 djn djn'
              have eE : (E != E) = false := by simp
              obtain ⟨Ar, nr, cr, vp, hkr, hrr, _, _, _, _, _⟩ := id HZ0.out.2.2.1
              obtain ⟨Lw, hLw⟩ : ∃ n, n = cf.wait.length := ⟨_, rfl⟩
              have hnr : nr = Lw := (Kd.C_len hrr).symm.trans hLw.symm
              subst hnr
              obtain ⟨ov, hov⟩ : ∃ b, b = cf.over := ⟨_, rfl⟩
              rw [← hov] at hkr
              have x1 := hkr.cell 1 _ rfl
              have x2 := hkr.cell 2 _ rfl
              have HLW := Lib.hid (And.intro hLw hov)
              have HDR := Lib.hid (show ∀ q, ConnAt w (w12.drewN q) g cf vw9 vl from fun q => HZ0.out.1.below (pw_below_drewN (Below.refl _ _) _))
              have eov : (ov != ov) = false := by cases ov <;> rfl
              have elw : ((nr : Int) != (nr : Int)) = false := by simp
              have elw' : (nr != nr) = false := by simp
              clear hkr hrr hLw hov
              go_upto_region 28 with (fail)
              go_quiet (first
                | (go_at_call 30; refine (WsWaiting_calls w _ g cf vw9 vl (HDR.out _)).mono ?_; rintro e w' ⟨rfl, rfl⟩; rw [← HLW.out.1]; exact ⟨rfl, _, rfl⟩)
                | (go_at_call 31; refine (WsOver_calls w _ g cf vw9 vl (HDR.out _)).mono ?_; rintro e w' ⟨rfl, rfl⟩; rw [← HLW.out.2]; exact ⟨rfl, _, rfl⟩))
              have HZ := Lib.hid (HZ0.out.below (pw_below_drewN (Below.refl _ _) nq))
              generalize w12.drewN nq = WZ at HZ ⊢
              clear x1 x2 eov elw elw'
              go_wp2
              go_roundw
              case rel => exact ⟨k + 1, cf, vw9, vl, F, by go_num, by have := HK.out; omega, Lib.hid ⟨HZ.out.1, HZ.out.2.1, HZ.out.2.2.1, HZ.out.2.2.2.1.mono (by omega), HZ.out.2.2.2.2⟩⟩
              case measure => have := HK.out; simp [intOf]; omega
      · obtain rfl : k = n := by omega
        have dkn : decide ((k : Int) < k) = false := decide_eq_false (by omega)
        have dkn' : decide (k < k) = false := decide_eq_false (by omega)
        go_wp2_with fail
        refine (wsAwake_calls _).mono ?_
        rintro e w3 ⟨rfl, hb3⟩
        have HB := Lib.hid (below_step HR.out.2.1 hb3)
        clear hb3
        go_wp2
        go_ret
        exact ⟨rfl, HB.out⟩
end Go.Proofs.YtcfbfmgckaehdaaDoor
