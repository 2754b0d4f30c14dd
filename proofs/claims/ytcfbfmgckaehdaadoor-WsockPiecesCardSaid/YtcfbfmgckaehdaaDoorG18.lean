/- The texts WsEvents, WsPieces in one. -/
import Derived.Test.YtcfbfmgckaehdaaDoorG01
import Derived.Test.YtcfbfmgckaehdaaDoorG17
namespace Go.Proofs.YtcfbfmgckaehdaaDoor
open Go.RowKit Go.Proofs.YtcfbfmgckaehdaaDoorW.PrintWords
/-- What bounds how many events there are. -/
def Room (m : Nat) (cc : Cn) (r : List (List Int)) : Prop := 2 * m + cc.wait.length + r.flatten.length ≤ 65536 + (if cc.over = true then 2 else 0)
theorem Room.le {m : Nat} {cc : Cn} {r : List (List Int)} (h : Room m cc r) : m ≤ 32769 := by
  unfold Room at h
  split at h <;> omega
theorem Room.fits {m : Nat} {cc : Cn} {b : List Int} {r : List (List Int)} (h : Room m cc (b :: r)) (ho : cc.over = false) : feedE cc b.length = 0 ∧ feedC cc b = addW cc b ∧ Room m (addW cc b) r := by
  unfold Room at h
  rw [if_neg (by rw [ho]; decide), List.flatten_cons, List.length_append] at h
  have e : feedE cc b.length = 0 := by unfold feedE; rw [if_neg (by rw [ho]; decide), if_neg (by omega)]
  refine ⟨e, by unfold feedC; rw [if_pos e]; rfl, ?_⟩
  unfold Room
  show 2 * m + (cc.wait ++ b).length + r.flatten.length ≤ 65536 + (if cc.over = true then 2 else 0)
  rw [if_neg (by rw [ho]; decide), List.length_append]
  omega
theorem Room.next {m : Nat} {cc c' : Cn} {x : Evt} {r : List (List Int)} (h : Room m cc r) (hb : Bytes cc.wait) (hx : nextW cc = (c', some x)) : Room (m + 1) c' r := by
  have ho := nextW_open hx
  unfold Room at h ⊢
  rw [if_neg (by rw [ho]; decide)] at h
  rcases nextW_app _ cc [] (Nat.lt_succ_self _) hb Bytes.nil ho c' _ hx with ⟨_, _, e2, e3, _⟩ | ⟨_, _, e2, e3, _⟩ | ⟨e1, _⟩
  · rw [if_neg (by rw [e2]; decide)]; omega
  · rw [if_pos e2, e3]; simp only [List.length_nil]; omega
  · cases e1
theorem Room.stop {m : Nat} {cc c' : Cn} {r : List (List Int)} (h : Room m cc r) (hb : Bytes cc.wait) (hx : nextW cc = (c', none)) : Room m c' r := by
  cases ho : cc.over with
  | true =>
    rw [nextW_over ho] at hx
    injection hx with h1 _
    exact h1 ▸ h
  | false =>
    unfold Room at h ⊢
    rw [if_neg (by rw [ho]; decide)] at h
    rcases nextW_app _ cc [] (Nat.lt_succ_self _) hb Bytes.nil ho c' _ hx with ⟨_, e1, _⟩ | ⟨_, e1, _⟩ | ⟨_, e2, e3, _⟩
    · cases e1
    · cases e1
    · rw [if_neg (by rw [e2]; decide)]; omega
theorem evsV_over {P : List (List Int)} {c : Cn} (h : c.over = true) : evsV P c = ([], c) := by
  cases P with
  | nil => rfl
  | cons b bs => show (if c.over = true then _ else _) = _; rw [if_pos h]
theorem evsV_cons {b : List Int} {P : List (List Int)} {c : Cn} (h : c.over = false) : (evsV (b :: P) c).1 = (drainW (addW c b)).1 ++ (evsV P (drainW (addW c b)).2).1 := by
  show (if c.over = true then _ else _ : List Evt × Cn).1 = _
  rw [if_neg (by rw [h]; decide)]
/-- Within the walk. -/
def EvsAt (w W : World) (g : Nat) (cc : Cn) (vw vl v : Value) (E : List Evt) : Prop := ConnAt w W g cc vw vl ∧ Below w.heap.size w W ∧ OwnE w W g vw vl v E
set_option maxRecDepth 20000 in
set_option maxHeartbeats 6400000 in
theorem events_calls {n : Nat} (server : Bool) (A : Option Addr) (c : Nat) (P : List (List Int)) (w : World) (hr : RdL w A n P) (hby : ∀ b ∈ P, Bytes b) (hsum : P.flatten.length ≤ 65536) :
    Calls Tryd.prog 26 #[.bool server, .slice A n c] w fun e w' => ∃ A1 n1 c1, e = .returned (.tuple #[.slice A1 n1 c1, .bool true]) ∧ RdE w' A1 n1 (evsV P ⟨server, false, [], 0, []⟩).1 ∧ n1 ≤ c1 ∧ Below w.heap.size w w' := by
  obtain ⟨S, hS⟩ : ∃ S, S = (evsV P ⟨server, false, [], 0, []⟩).1 := ⟨_, rfl⟩
  have hR0 : Room 0 ⟨server, false, [], 0, []⟩ P := by unfold Room; show 2 * 0 + 0 + P.flatten.length ≤ 65536 + 0; omega
  have HI := Lib.hid (show RdL w A n P ∧ (∀ b ∈ P, Bytes b) ∧ P.length = n ∧ n ≤ 9223372036854775807 ∧ Room 0 ⟨server, false, [], 0, []⟩ P ∧ S = (evsV P ⟨server, false, [], 0, []⟩).1 from ⟨hr, hby, Kd.C_len hr, Kd.C_max hr, hR0, hS⟩)
  rw [← hS]
  clear hr hby hR0 hS hsum
  go_enter Tryd.func26, Tryd.ntmps26
  go_wp2_with fail
  refine (WsNew_calls server _).mono ?_
  rintro e w2 ⟨rfl, hc2, hb2⟩
  obtain ⟨g, hg⟩ : ∃ g, g = w.heap.size := ⟨_, rfl⟩
  rw [← hg] at hc2 ⊢
  have H2 := Lib.hid (show EvsAt w w2 g ⟨server, false, [], 0, []⟩ (.slice none 0 0) (.slice none 0 0) (.slice none 0 0) [] from ⟨hc2, hb2, OwnE.nil _ _ _ _ _⟩)
  clear hc2 hb2 hg
  go_wp2
  go_loopw [7, 17] (fun vi i wr => ∃ (k : Nat) (cc : Cn) (vw vl v : Value) (E : List Evt), v = vi ∧ i = .int .i64 k ∧ k ≤ n ∧ Hid (EvsAt w wr g cc vw vl v E ∧ Room E.length cc (P.drop k) ∧ S = E ++ (evsV (P.drop k) cc).1)) (fun _ i _ => n - (intOf i).toNat)
  case atStart => exact ⟨0, _, _, _, _, [], rfl, rfl, by omega, Lib.hid ⟨H2.out, HI.out.2.2.2.2.1, HI.out.2.2.2.2.2⟩⟩
  case round =>
    obtain ⟨k, cc, vw, vl, v, E, rfl, rfl, hk, HR⟩ := hrel
    clear H2
    by_cases hkn : k < n
    · have dkn : decide ((k : Int) < n) = true := decide_eq_true (by omega)
      have dkn' : decide (k < n) = true := decide_eq_true hkn
      have wk : IntKind.i64.wrap ((k : Int) + 1) = k + 1 := wrap_id (by omega) (by have := HI.out; omega)
      have ikn : (k : Int) < n := by omega
      have i0 : (0 : Int) ≤ k := by omega
      have HK := Lib.hid hkn
      obtain ⟨ad, Ai, ci, rfl, x0, hci, hrd⟩ := RdL.at (Kd.C_below HI.out.1 HR.out.1.2.1) k hkn
      have hkl : k < P.length := by have := HI.out; omega
      have hpk : P.drop k = P.getD k [] :: P.drop (k + 1) := by rw [List.drop_eq_getElem_cons hkl, List.getD_eq_getElem?_getD, List.getElem?_eq_getElem hkl]; rfl
      have hbb : Bytes (P.getD k []) := by rw [List.getD_eq_getElem?_getD, List.getElem?_eq_getElem hkl]; exact HI.out.2.1 _ (List.getElem_mem hkl)
      obtain ⟨bs, hbs⟩ : ∃ bs, bs = P.getD k [] := ⟨_, rfl⟩
      rw [← hbs] at x0 hci hrd hpk hbb
      obtain ⟨m, hm⟩ : ∃ m, m = bs.length := ⟨_, rfl⟩
      rw [← hm] at x0 hci hrd
      have HB := Lib.hid (show Rd wr Ai m bs ∧ Bytes bs ∧ P.drop k = bs :: P.drop (k + 1) ∧ bs.length = m from ⟨hrd, hbb, hpk, hm.symm⟩)
      clear hkn hk hkl hpk hbb hbs hm hci hrd
      cases hov : cc.over with
      | true =>
        have HO := Lib.hid (show feedE cc bs.length = 31 ∧ S = E from ⟨by unfold feedE; rw [if_pos hov], by rw [HR.out.2.2, evsV_over hov, List.append_nil]⟩)
        clear hov
        go_wp2_with fail
        refine (WsFeed_calls w _ g cc vw vl Ai ci bs HR.out.1.1 HB.out.1 HB.out.2.1 HR.out.1.2.1).mono ?_
        rintro e w8 ⟨vw8, rfl, _, hr8, hb8⟩
        rw [HO.out.1]
        obtain ⟨A8, c8, hv8, hc8, hd8⟩ := (HR.out.1.2.2.rest hr8).reads
        have H8 := Lib.hid (show E.length ≤ c8 ∧ RdE w8 A8 E.length E ∧ Below w.heap.size w w8 from ⟨hc8, hd8, hb8⟩)
        clear hc8 hd8 hb8 hr8 x0
        go_wp2
        go_ret2
        exact ⟨A8, _, c8, rfl, by rw [HO.out.2]; exact H8.out.2.1, H8.out.1, H8.out.2.2⟩
      | false =>
        have hfit := Room.fits (m := E.length) (b := bs) (r := P.drop (k + 1)) (by rw [← HB.out.2.2.1]; exact HR.out.2.1) hov
        have HF := Lib.hid (show feedE cc bs.length = 0 ∧ feedC cc bs = addW cc bs ∧ Room E.length (addW cc bs) (P.drop (k + 1)) ∧ S = E ++ ((drainW (addW cc bs)).1 ++ (evsV (P.drop (k + 1)) (drainW (addW cc bs)).2).1) from ⟨hfit.1, hfit.2.1, hfit.2.2, by rw [HR.out.2.2, HB.out.2.2.1, evsV_cons hov]⟩)
        clear hov hfit
        go_wp2_with fail
        refine (WsFeed_calls w _ g cc vw vl Ai ci bs HR.out.1.1 HB.out.1 HB.out.2.1 HR.out.1.2.1).mono ?_
        rintro e w8 ⟨vw8, rfl, hc8, hr8, hb8⟩
        rw [HF.out.1]
        have H8 := Lib.hid (show EvsAt w w8 g (addW cc bs) vw8 vl v E from ⟨by rw [← HF.out.2.1]; exact hc8, hb8, HR.out.1.2.2.rest hr8⟩)
        clear hc8 hr8 hb8 x0 HR
        go_wp2
        go_loopw [7, 29] (fun vi i wr => ∃ (j : Nat) (c1 : Cn) (vw1 vl1 v : Value) (E1 : List Evt), v = vi ∧ i = .int .i64 j ∧ j ≤ E1.length ∧ E1.length ≤ 32769 ∧ Hid (EvsAt w wr g c1 vw1 vl1 v E1 ∧ Room E1.length c1 (P.drop (k + 1)) ∧ S = E1 ++ ((drainW c1).1 ++ (evsV (P.drop (k + 1)) (drainW c1).2).1))) (fun _ i _ => 65536 - (intOf i).toNat)
        case atStart => exact ⟨0, _, _, _, _, E, rfl, rfl, by omega, HF.out.2.2.1.le, Lib.hid ⟨H8.out, HF.out.2.2.1, HF.out.2.2.2⟩⟩
        case round =>
          obtain ⟨j, c1, vw1, vl1, v, E1, rfl, rfl, hj, hj2, HQ⟩ := hrel
          clear H8
          have dj : decide ((j : Int) < 65536) = true := decide_eq_true (by omega)
          have dj' : decide (j < 65536) = true := decide_eq_true (by omega)
          have wj : IntKind.i64.wrap ((j : Int) + 1) = j + 1 := wrap_id (by omega) (by omega)
          have HJ := Lib.hid (show j ≤ E1.length ∧ E1.length ≤ 32769 from ⟨hj, hj2⟩)
          clear hj hj2
          go_wp2_with fail
          refine (WsNext_calls w _ g _ _ _ HQ.out.1.1 HQ.out.1.2.1).mono ?_
          rintro e w9 ⟨vw9, vl9, v9, x9, ok, rfl, hs9, ho9, hc9, hr9, hap9, hb9, hfr9⟩
          obtain ⟨A9, k9, rfl, _, _⟩ := ho9.reads
          obtain ⟨xo, xc, xl, xb⟩ := x9
          obtain ⟨⟨c9, y9⟩, hn9⟩ : ∃ r, r = nextW c1 := ⟨_, rfl⟩
          rw [← hn9] at hs9 hc9
          obtain ⟨L9, hL9⟩ : ∃ n, n = xl.length := ⟨_, rfl⟩
          dsimp only at hs9 hc9 ho9 hap9 hfr9 ⊢
          rw [← hL9] at ho9 hap9 hfr9 ⊢
          have hbw : Bytes c1.wait := HQ.out.1.1.2.2.2.2.2.2.2.2.2.1
          have hrow := HQ.out.1.2.2.1
          have hrlt := Kd.R_lt HQ.out.1.2.2
          have H9 := Lib.hid (show EvsAt w w9 g c9 vw9 vl9 v E1 ∧ Own w w9 (.slice A9 L9 k9) xl ∧ (∀ k, some k = (Value.slice A9 L9 k9).ownBlock → ¬ Foot g vw9 vl9 k ∧ some k ≠ v.ownBlock) ∧ nextW c1 = (c9, y9) ∧ StepR y9 ⟨xo, xc, xl, xb⟩ ok ∧ Bytes c1.wait from
            ⟨⟨hc9, hb9, HQ.out.1.2.2.rest hr9⟩, ho9, fun k hk => ⟨fun hF => hap9 k hF hk, fun he => by
              rcases hfr9 k hk with h1 | h1
              · exact hrow k he.symm h1
              · have := hrlt k he.symm; omega⟩, hn9.symm, hs9, hbw⟩)
          clear hs9 ho9 hc9 hr9 hap9 hb9 hfr9 hn9 hL9 hbw hrow hrlt
          obtain ⟨gx, hgx⟩ : ∃ x, x = w9.heap.size := ⟨_, rfl⟩
          obtain ⟨W10, hW10⟩ : ∃ W, W = w9.alloc (.cells #[.int .i64 xo, .int .i64 xc, .slice A9 L9 k9, .bool xb] 51) := ⟨_, rfl⟩
          have hb10 : Below w9.heap.size w9 W10 := by rw [hW10]; exact below_alloc (Below.refl _ _) _
          have HS10 := Lib.hid (show gx = w9.heap.size ∧ W10 = w9.alloc _ from ⟨hgx, hW10⟩)
          have H10 := Lib.hid (show EvsAt w W10 g c9 vw9 vl9 v E1 ∧ Own w W10 (.slice A9 L9 k9) xl ∧ Whole W10 gx 51 #[.int .i64 xo, .int .i64 xc, .slice A9 L9 k9, .bool xb] from ⟨⟨H9.out.1.1.below hb10, below_step H9.out.1.2.1 hb10, H9.out.1.2.2.below hb10⟩, H9.out.2.1.below hb10, by rw [hW10, hgx]; exact Whole.new w9 _ _⟩)
          clear hgx hW10 hb10
          go_upto_region 13 with (fail)
          rw [← HS10.out.1, ← HS10.out.2]
          cases ok with
          | false =>
            have HN := Lib.hid (show nextW c1 = (c9, none) from by
              rcases H9.out.2.2.2.2.1 with ⟨h1, _⟩ | ⟨_, h1, _⟩
              · cases h1
              · rw [← h1]; exact H9.out.2.2.2.1)
            go_wp2
            go_roundw
            case rel => exact ⟨k + 1, c9, vw9, vl9, v, E1, rfl, by go_num, by have := HK.out; omega, Lib.hid ⟨H10.out.1, HQ.out.2.1.stop H9.out.2.2.2.2.2 HN.out, by rw [HQ.out.2.2, drainW_none HN.out, List.nil_append]⟩⟩
            case measure => have := HK.out; simp [intOf]; omega
          | true =>
            have HN := Lib.hid (show nextW c1 = (c9, some ⟨xo, xc, xl, xb⟩) from by
              rcases H9.out.2.2.2.2.1 with ⟨_, h1⟩ | ⟨h1, _⟩
              · rw [← h1]; exact H9.out.2.2.2.1
              · cases h1)
            have y0 := H10.out.2.2.cell 0 _ rfl
            have y1 := H10.out.2.2.cell 1 _ rfl
            have y2 := H10.out.2.2.cell 2 _ rfl
            have y3 := H10.out.2.2.cell 3 _ rfl
            go_wp2_with (at_builtin; refine appe_one (p := ⟨xo, xc, xl, xb⟩) H10.out.1.2.2 H10.out.2.1 H9.out.2.2.1 (fun k hk => H10.out.1.1.outside k hk) H10.out.1.2.1 (by have := HJ.out; omega) rfl rfl rfl rfl ?_)
            intro v11 w11 ho11 hb11 hg11
            have hrow := H10.out.1.2.2.1
            have H11 := Lib.hid (show EvsAt w w11 g c9 vw9 vl9 v11 (E1 ++ [⟨xo, xc, xl, xb⟩]) from ⟨H10.out.1.1.step (fun k hF hlt => hg11.block k hlt (fun he => hrow k he.symm hF)), hb11, ho11⟩)
            have HR2 := Lib.hid (HQ.out.2.1.next H9.out.2.2.2.2.2 HN.out)
            clear ho11 hb11 hg11 hrow y0 y1 y2 y3
            go_wp2
            go_roundw
            case rel => exact ⟨j + 1, c9, vw9, vl9, v11, E1 ++ [⟨xo, xc, xl, xb⟩], rfl, by go_num, by rw [List.length_append]; have := HJ.out; simp; omega, by rw [List.length_append]; exact HR2.out.le, Lib.hid ⟨H11.out, by rw [List.length_append]; exact HR2.out, by rw [HQ.out.2.2, drainW_some H9.out.2.2.2.2.2 HN.out, List.append_assoc]; rfl⟩⟩
            case measure => have := HJ.out; simp [intOf]; omega
    · obtain rfl : k = n := by omega
      have dkn : decide ((k : Int) < k) = false := decide_eq_false (by omega)
      have dkn' : decide (k < k) = false := decide_eq_false (by omega)
      obtain ⟨A8, c8, hv8, hc8, hd8⟩ := HR.out.1.2.2.reads
      have HE := Lib.hid (show S = E from by
        rw [HR.out.2.2, List.drop_of_length_le (by have := HI.out; omega)]
        show E ++ [] = E
        rw [List.append_nil])
      have H8 := Lib.hid (show E.length ≤ c8 ∧ RdE wr A8 E.length E from ⟨hc8, hd8⟩)
      clear hc8 hd8
      go_wp2
      go_ret2
      exact ⟨A8, _, c8, by rw [hv8]; rfl, by rw [HE.out]; exact H8.out.2, H8.out.1, HR.out.1.2.1⟩
end Go.Proofs.YtcfbfmgckaehdaaDoor
namespace Go.Proofs.YtcfbfmgckaehdaaDoor
open Go.RowKit Go.Proofs.YtcfbfmgckaehdaaDoorW.PrintWords
abbrev rowK : Kd (List Int) := Kd.slice 5 (Kd.int .u8)
/-- A row of one's own, of rows that came in. -/
def OwnP (w0 w : World) (v : Value) (P : List (List Int)) : Prop := Kd.R (Kd.fixed rowK w0) 22 w w0.heap.size (fun _ => True) v P
theorem OwnP.nil (w0 w : World) : OwnP w0 w (.slice none 0 0) [] := Kd.R_nil _ _ _ _ _
theorem OwnP.reads {w0 w : World} {v : Value} {P : List (List Int)} (h : OwnP w0 w v P) (hb : Below w0.heap.size w0 w) : ∃ A c, v = .slice A P.length c ∧ P.length ≤ c ∧ RdL w A P.length P := by
  obtain ⟨A, c, e, hl, hc⟩ := Kd.R_reads h
  exact ⟨A, c, e, hl, ReadsRow.imp_ hc (Below.refl _ _) (fun _ _ hp => rowK.K_below hb hp)⟩
section
variable {ops : Array Oper} {rest : List Oper} {o : Oper} {a : Act} {Q : Exit → Act → World → Prop} {w0 W : World} {s x : Operand} {v : Value} {P : List (List Int)} {p : List Int} {A : Option Addr} {n c : Nat}
theorem appp_one (hO : OwnP w0 W v P) (hp : Rd w0 A n p) (hc : n ≤ c) (hB : Below w0.heap.size w0 W) (hL : P.length ≤ 100000)
    (hgd : o.guard = none) (hop : o.op = .call { callee := .builtin .append, args := #[s, x], argTypes := #[44, 44] }) (hv : a.eval s = v) (hx : a.eval x = .slice (some ⟨W.heap.size, 0, none⟩) 1 1)
    (K : ∀ v1 w1, OwnP w0 w1 v1 (P ++ [p]) → Below w0.heap.size w0 w1 → wpList Tryd.prog ops Q rest (a.put o.dst v1) w1) : wpList Tryd.prog ops Q (o :: rest) a (W.alloc (.cells #[.slice A n c] 22)) := by
  have hl := Kd.C_len hp
  subst hl
  exact Kd.R_append (Kd.fixed rowK w0) (w0 := w0) w0.heap.size hgd s x 44 22 (.slice none 0 0) 24 hop Tryd.underlying44 info_bytes rfl (by show 0 < 1; omega) (by omega) v P p [.slice A p.length c] (fun _ => True) (fun _ => False) hv hx ⟨A, c, rfl, hc, hp⟩ (fun _ h => h.elim) (fun _ _ => trivial) hO hB hB.size (by omega) (fun v1 w1 h1 h2 _ _ => K v1 w1 h1 h2)
end
/-- Within the walk. -/
def PcsAt (w W : World) (b0 : List Int) (B : Option Addr) (nb cb : Nat) (rest : List Int) (v : Value) (P : List (List Int)) : Prop :=
  Rd w B nb rest ∧ nb ≤ cb ∧ P.flatten ++ rest = b0 ∧ Bytes rest ∧ (∀ x ∈ P, Bytes x) ∧ OwnP w W v P ∧ Below w.heap.size w W
theorem PcsAt.len {w W : World} {b0 : List Int} {B : Option Addr} {nb cb : Nat} {rest : List Int} {v : Value} {P : List (List Int)} (h : PcsAt w W b0 B nb cb rest v P) : nb ≤ b0.length := by
  rw [← h.2.2.1, List.length_append, Kd.C_len h.1]
  omega
theorem PcsAt.more {w W W1 : World} {b0 : List Int} {B : Option Addr} {nb cb q : Nat} {rest : List Int} {v v1 : Value} {P : List (List Int)} (h : PcsAt w W b0 B nb cb rest v P) (hq : q ≤ nb) (ho : OwnP w W1 v1 (P ++ [rest.take q])) (hb : Below w.heap.size w W1) :
    PcsAt w W1 b0 (if cb = q then B else B.map (fun x => x.add q)) (nb - q) (cb - q) (rest.drop q) v1 (P ++ [rest.take q]) := by
  have hl := Kd.C_len h.1
  have h1 := h.1
  rw [← hl] at h1
  have hrow := Kd.C_drop (k := Kd.int .u8) (m := q) (c := cb) h1 (by omega) (by have := h.2.1; omega)
  rw [show q * (Kd.int .u8).sz = q from Nat.mul_one q] at hrow
  have hdl : (rest.drop q).length = nb - q := by rw [List.length_drop, hl]
  rw [hdl] at hrow
  refine ⟨hrow, by have := h.2.1; omega, ?_, h.2.2.2.1.dp q, ?_, ho, hb⟩
  · rw [List.flatten_append, List.flatten_singleton, List.append_assoc, List.take_append_drop]
    exact h.2.2.1
  · intro x hx
    rcases List.mem_append.1 hx with h2 | h2
    · exact h.2.2.2.2.1 x h2
    · rw [List.mem_singleton.1 h2]
      exact h.2.2.2.1.tk q
set_option maxRecDepth 20000 in
set_option maxHeartbeats 6400000 in
theorem pieces_calls {n m : Nat} (A : Option Addr) (c : Nat) (b0 : List Int) (C : Option Addr) (d : Nat) (cuts : List Int) (w : World) (hr : Rd w A n b0) (hc : n ≤ c) (hb : Bytes b0) (hn : n ≤ 65536) (hcu : Kd.C (Kd.int .i64) w C m cuts) :
    Calls Tryd.prog 25 #[.slice A n c, .slice C m d] w fun e w' => ∃ A1 n1 c1 P, e = .returned (.slice A1 n1 c1) ∧ RdL w' A1 n1 P ∧ P.flatten = b0 ∧ (∀ x ∈ P, Bytes x) ∧ n1 ≤ c1 ∧ 1 ≤ n1 ∧ n1 ≤ 101 ∧ Below w.heap.size w w' := by
  have HI := Lib.hid (show Kd.C (Kd.int .i64) w C m cuts ∧ m ≤ 9223372036854775807 ∧ b0.length ≤ 65536 ∧ cuts.length = m from ⟨hcu, Kd.C_max hcu, by rw [Kd.C_len hr]; exact hn, Kd.C_len hcu⟩)
  have H0 := Lib.hid (show PcsAt w w b0 A n c b0 (.slice none 0 0) [] from ⟨hr, hc, rfl, hb, fun x hx => (nomatch hx), OwnP.nil _ _, Below.refl _ _⟩)
  clear hr hc hb hn hcu
  go_enter Tryd.func25, Tryd.ntmps25
  go_wp2
  go_loopw [0, 5, 6] (fun bv ov iv wr => ∃ (k : Nat) (B : Option Addr) (nb cb : Nat) (rest : List Int) (P : List (List Int)) (v : Value), v = ov ∧ bv = .slice B nb cb ∧ iv = .int .i64 k ∧ k ≤ m ∧ k ≤ 100 ∧ Hid (PcsAt w wr b0 B nb cb rest v P ∧ P.length = k)) (fun _ _ i _ => m - (intOf i).toNat)
  case atStart => exact ⟨0, A, n, c, b0, [], _, rfl, rfl, rfl, by omega, by omega, Lib.hid ⟨H0.out, rfl⟩⟩
  case round =>
    obtain ⟨k, B, nb, cb, rest, P, v, rfl, rfl, rfl, hk, hk1, HR⟩ := hrel
    clear H0
    by_cases hgo : k < m ∧ k < 100
    · have dk : decide ((k : Int) < m) = true := decide_eq_true (by omega)
      have dk' : decide (k < m) = true := decide_eq_true (by omega)
      have d1 : decide ((k : Int) < 100) = true := decide_eq_true (by omega)
      have d1' : decide (k < 100) = true := decide_eq_true (by omega)
      have wk : IntKind.i64.wrap ((k : Int) + 1) = k + 1 := wrap_id (by omega) (by omega)
      have ikm : (k : Int) < m := by omega
      have i0 : (0 : Int) ≤ k := by omega
      have HK := Lib.hid hgo
      obtain ⟨ad, rfl, x0⟩ := Kd.at_int (Kd.C_below HI.out.1 HR.out.1.2.2.2.2.2.2) (k : Int) (by omega) (by omega)
      rw [Int.toNat_natCast] at x0
      obtain ⟨cut, hcut⟩ : ∃ x, x = rd cuts (k : Nat) := ⟨_, rfl⟩
      rw [← hcut] at x0
      have hnb : nb ≤ 65536 := Nat.le_trans HR.out.1.len HI.out.2.2.1
      obtain ⟨u, hu⟩ : ∃ u : Nat, IntKind.u64.wrap cut = u := ⟨(IntKind.u64.wrap cut).toNat, by rw [IntKind.wrap_u64]; omega⟩
      obtain ⟨q, hq⟩ : ∃ q, q = u % (nb + 1) := ⟨_, rfl⟩
      have hqn : q ≤ nb := by have := Nat.mod_lt u (show nb + 1 > 0 by omega); omega
      have e1 : ((u : Int).tmod ((nb : Int) + 1)) = (q : Int) := by rw [hq]; exact (Int.ofNat_tmod u (nb + 1)).symm
      have wl : IntKind.i64.wrap ((nb : Int) + 1) = (nb : Int) + 1 := wrap_id (by omega) (by omega)
      have wl2 : IntKind.u64.wrap ((nb : Int) + 1) = (nb : Int) + 1 := by rw [IntKind.wrap_u64]; omega
      have wq : IntKind.u64.wrap (q : Int) = q := by rw [IntKind.wrap_u64]; omega
      have wq2 : IntKind.i64.wrap (q : Int) = q := by rw [IntKind.wrap_i64]; omega
      have ln0 : ¬ ((nb : Int) + 1 = 0) := by omega
      have ln1 : (((nb : Int) + 1) == 0) = false := by rw [beq_eq_false_iff_ne]; omega
      have hcb := HR.out.1.2.1
      have j0 : (0 : Int) ≤ q := by omega
      have j1 : (q : Int) ≤ cb := by omega
      have j2 : (q : Int) ≤ nb := by omega
      have j1' : q ≤ cb := by omega
      have j3 : (nb : Int) ≤ cb := by omega
      have HQ := Lib.hid (show q ≤ nb ∧ nb ≤ cb ∧ nb ≤ 65536 from ⟨hqn, hcb, hnb⟩)
      clear hgo hcut hq hnb hk hk1
      have hrow : Rd w B q (rest.take q) := Rd.take HR.out.1.1 q hqn
      have HRW := Lib.hid hrow
      clear hrow
      by_cases hcq : cb = q
      · go_wp2_with (at_builtin; refine appp_one HR.out.1.2.2.2.2.2.1 HRW.out (by omega) HR.out.1.2.2.2.2.2.2 (by have := HR.out.2; have := HK.out; omega) rfl rfl rfl rfl ?_)
        intro v1 w1 ho1 hb1
        have H1 := Lib.hid (HR.out.1.more HQ.out.1 ho1 hb1)
        clear ho1 hb1
        go_wp2
        go_roundw
        case rel => exact ⟨k + 1, _, _, _, _, _, v1, rfl, rfl, by go_num, by have := HK.out; omega, by have := HK.out; omega, Lib.hid ⟨by have h := H1.out; rw [if_pos hcq] at h; exact by rw [hcq, Nat.sub_self] at h; exact h, by rw [List.length_append, HR.out.2]; rfl⟩⟩
        case measure => have := HK.out; simp [intOf]; omega
      · go_wp2_with (at_builtin; refine appp_one HR.out.1.2.2.2.2.2.1 HRW.out (by omega) HR.out.1.2.2.2.2.2.2 (by have := HR.out.2; have := HK.out; omega) rfl rfl rfl rfl ?_)
        intro v1 w1 ho1 hb1
        have H1 := Lib.hid (HR.out.1.more HQ.out.1 ho1 hb1)
        clear ho1 hb1
        go_wp2
        go_roundw
        case rel => exact ⟨k + 1, _, _, _, _, _, v1, rfl, rfl, by go_num, by have := HK.out; omega, by have := HK.out; omega, Lib.hid ⟨by have h := H1.out; rw [if_neg hcq] at h; exact h, by rw [List.length_append, HR.out.2]; rfl⟩⟩
        case measure => have := HK.out; simp [intOf]; omega
    · by_cases hkm : k < m
      · have dk : decide ((k : Int) < m) = true := decide_eq_true (by omega)
        have dk' : decide (k < m) = true := decide_eq_true (by omega)
        have d1 : decide ((k : Int) < 100) = false := decide_eq_false (by omega)
        have d1' : decide (k < 100) = false := decide_eq_false (by omega)
        clear hgo hk hkm
        go_wp2_with (at_builtin; refine appp_one HR.out.1.2.2.2.2.2.1 HR.out.1.1 HR.out.1.2.1 HR.out.1.2.2.2.2.2.2 (by have := HR.out.2; omega) rfl rfl rfl rfl ?_)
        intro v1 w1 ho1 hb1
        obtain ⟨A1, c1, rfl, hc1, hr1⟩ := ho1.reads hb1
        have hfl : (P ++ [rest]).flatten = b0 := by rw [List.flatten_append, List.flatten_singleton]; exact HR.out.1.2.2.1
        have hpl : (P ++ [rest]).length = k + 1 := by rw [List.length_append, HR.out.2]; rfl
        have hby : ∀ x ∈ P ++ [rest], Bytes x := fun x hx => (List.mem_append.1 hx).elim (HR.out.1.2.2.2.2.1 x) (fun h => by rw [List.mem_singleton.1 h]; exact HR.out.1.2.2.2.1)
        have H1 := Lib.hid (And.intro hc1 (And.intro hr1 (And.intro hb1 (And.intro hfl (And.intro hpl hby)))))
        clear ho1 hb1 hc1 hr1 hfl hpl hby
        go_wp2
        go_ret
        exact ⟨A1, _, c1, P ++ [rest], rfl, H1.out.2.1, H1.out.2.2.2.1, H1.out.2.2.2.2.2, H1.out.1, by have := H1.out.2.2.2.2.1; omega, by have := H1.out.2.2.2.2.1; omega, H1.out.2.2.1⟩
      · have dk : decide ((k : Int) < m) = false := decide_eq_false (by omega)
        have dk' : decide (k < m) = false := decide_eq_false (by omega)
        clear hgo hk hkm
        go_wp2_with (at_builtin; refine appp_one HR.out.1.2.2.2.2.2.1 HR.out.1.1 HR.out.1.2.1 HR.out.1.2.2.2.2.2.2 (by have := HR.out.2; omega) rfl rfl rfl rfl ?_)
        intro v1 w1 ho1 hb1
        obtain ⟨A1, c1, rfl, hc1, hr1⟩ := ho1.reads hb1
        have hfl : (P ++ [rest]).flatten = b0 := by rw [List.flatten_append, List.flatten_singleton]; exact HR.out.1.2.2.1
        have hpl : (P ++ [rest]).length = k + 1 := by rw [List.length_append, HR.out.2]; rfl
        have hby : ∀ x ∈ P ++ [rest], Bytes x := fun x hx => (List.mem_append.1 hx).elim (HR.out.1.2.2.2.2.1 x) (fun h => by rw [List.mem_singleton.1 h]; exact HR.out.1.2.2.2.1)
        have H1 := Lib.hid (And.intro hc1 (And.intro hr1 (And.intro hb1 (And.intro hfl (And.intro hpl hby)))))
        clear ho1 hb1 hc1 hr1 hfl hpl hby
        go_wp2
        go_ret
        exact ⟨A1, _, c1, P ++ [rest], rfl, H1.out.2.1, H1.out.2.2.2.1, H1.out.2.2.2.2.2, H1.out.1, by have := H1.out.2.2.2.2.1; omega, by have := H1.out.2.2.2.2.1; omega, H1.out.2.2.1⟩
end Go.Proofs.YtcfbfmgckaehdaaDoor
