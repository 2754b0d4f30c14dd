/- The texts WsDrain, Rows2, WsEvs, WsEvents in one. -/
import Derived.Test.YtcfbfmgckaehdaaDoorG01
import Derived.Test.YtcfbfmgckaehdaaDoorG02
import Derived.Test.YtcfbfmgckaehdaaDoorG15
import Derived.Test.YtcfbfmgckaehdaaDoorG17
namespace Go.Proofs.YtcfbfmgckaehdaaDoor
open Go.RowKit Go.Proofs.YtcfbfmgckaehdaaDoorW.PrintWords
theorem rd_app {p q : List Int} {i : Int} (h0 : 0 ≤ i) (h : i < p.length) : rd (p ++ q) i = rd p i := by
  unfold rd
  rw [List.getD_eq_getElem?_getD, List.getD_eq_getElem?_getD, List.getElem?_append_left (by omega)]
theorem drop_take_app {p q : List Int} {t n : Nat} (h : t + n ≤ p.length) : ((p ++ q).drop t).take n = (p.drop t).take n := by
  rw [List.drop_append_of_le_length (by omega), List.take_append_of_le_length (by rw [List.length_drop]; omega)]
theorem lenR_app {p q : List Int} (h : (lenR p).2.2 ≠ 1) (h2 : 2 ≤ p.length) : lenR (p ++ q) = lenR p := by
  have e1 : rd (p ++ q) 1 = rd p 1 := rd_app (by omega) (by omega)
  unfold lenR at h ⊢
  rw [e1]
  split
  · rfl
  · rename_i h1
    rw [if_neg h1] at h
    split
    · rename_i h3
      rw [if_pos h3] at h
      by_cases h4 : p.length < 4
      · rw [if_pos h4] at h; exact absurd rfl h
      · rw [if_neg h4, if_neg (by rw [List.length_append]; omega), drop_take_app (by omega)]
    · rename_i h3
      rw [if_neg h3] at h
      by_cases h4 : p.length < 10
      · rw [if_pos h4] at h; exact absurd rfl h
      · rw [if_neg h4, if_neg (by rw [List.length_append]; omega), drop_take_app (by omega), rd_app (by omega) (by omega)]
theorem bodyR_app {p q : List Int} {mask : Bool} {n t : Nat} (h : (bodyR p mask n t).2.2 ≠ 1) (h2 : 1 ≤ p.length) : bodyR (p ++ q) mask n t = bodyR p mask n t := by
  have e0 : rd (p ++ q) 0 = rd p 0 := rd_app (by omega) (by omega)
  unfold bodyR at h ⊢
  rw [e0]
  cases mask with
  | true =>
    rw [if_pos rfl] at h ⊢
    rw [if_pos rfl]
    by_cases h4 : p.length < t + 4 + n
    · rw [if_pos h4] at h; exact absurd rfl h
    · rw [if_neg h4, if_neg (by rw [List.length_append]; omega), drop_take_app (by omega), drop_take_app (by omega)]
  | false =>
    simp only [Bool.false_eq_true, if_false] at h ⊢
    by_cases h4 : p.length < t + n
    · rw [if_pos h4] at h; exact absurd rfl h
    · rw [if_neg h4, if_neg (by rw [List.length_append]; omega), drop_take_app (by omega)]
/-- More bytes behind change nothing, but where there were too few. -/
theorem rdF_app {p q : List Int} {mask : Bool} (h : (rdF p mask).2.2 ≠ 1) : rdF (p ++ q) mask = rdF p mask := by
  by_cases h0 : p.length = 0
  · unfold rdF at h; rw [if_pos h0] at h; exact absurd rfl h
  have e0 : rd (p ++ q) 0 = rd p 0 := rd_app (by omega) (by omega)
  unfold rdF at h ⊢
  rw [if_neg h0] at h
  rw [if_neg h0, if_neg (by rw [List.length_append]; omega), e0]
  split
  · rfl
  · rename_i h1
    rw [if_neg h1] at h
    by_cases h2 : p.length = 1
    · rw [if_pos h2] at h; exact absurd rfl h
    have e1 : rd (p ++ q) 1 = rd p 1 := rd_app (by omega) (by omega)
    rw [if_neg h2] at h
    rw [if_neg h2, if_neg (by rw [List.length_append]; omega), e1]
    split
    · rfl
    · rename_i h3
      rw [if_neg h3] at h
      by_cases h4 : (lenR p).2.2 ≠ 0
      · rw [if_pos h4] at h
        rw [lenR_app h (by omega), if_pos h4, if_pos h4]
      · rw [if_neg h4] at h
        rw [lenR_app (by have h5 : (lenR p).2.2 = 0 := Decidable.not_not.mp h4; rw [h5]; decide) (by omega), if_neg h4, if_neg h4]
        exact bodyR_app h (by omega)
/-- What waits grows. -/
def addW (c : Cn) (q : List Int) : Cn := { c with wait := c.wait ++ q }
theorem partV_addW (c : Cn) (f : Frm) (q : List Int) :
    partV (addW c q) f = (match partV c f with | (c', some x) => (if c'.over = c.over then addW c' q else c', some x) | (c', none) => (addW c' q, none)) ∨ c.over = true := by
  cases hov : c.over with
  | true => exact .inr rfl
  | false =>
    refine .inl ?_
    unfold partV
    have e1 : (addW c q).op = c.op := rfl
    have e2 : (addW c q).load = c.load := rfl
    have e3 : joinOp (addW c q) f = joinOp c f := rfl
    rw [e1, e2, e3]
    split
    · show (failC c, some (failE 1002)) = (if true = false then addW (failC c) q else failC c, some (failE 1002))
      rw [if_neg (by decide)]
    · split
      · show _ = (if true = false then addW (failC _) q else failC _, some (failE 1009))
        rw [if_neg (by decide)]
        rfl
      · split
        · rfl
        · split
          · show _ = (if true = false then addW (failC _) q else failC _, some (failE 1007))
            rw [if_neg (by decide)]
            rfl
          · show _ = (if c.over = false then addW _ q else _, some _)
            rw [if_pos hov]
            rfl
theorem partV_over {c : Cn} {f : Frm} (h : (partV c f).1.over = false) : (partV c f).1.wait = c.wait := by
  unfold partV at h ⊢
  split
  · rename_i h1; rw [if_pos h1] at h; cases h
  · rename_i h1
    rw [if_neg h1] at h
    split
    · rename_i h2; rw [if_pos h2] at h; cases h
    · rename_i h2
      rw [if_neg h2] at h
      split
      · rfl
      · rename_i h3
        rw [if_neg h3] at h
        split
        · rename_i h4; rw [if_pos h4] at h; cases h
        · rfl
theorem partV_wait0 {c : Cn} {f : Frm} (hov : c.over = false) (h : (partV c f).1.over = true) : (partV c f).1.wait = [] := by
  unfold partV at h ⊢
  split
  · rfl
  · rename_i h1
    rw [if_neg h1] at h
    split
    · rfl
    · rename_i h2
      rw [if_neg h2] at h
      split
      · rename_i h3; rw [if_pos h3] at h; have h : c.over = true := h; rw [hov] at h; cases h
      · rename_i h3
        rw [if_neg h3] at h
        split
        · rfl
        · rename_i h4; rw [if_neg h4] at h; have h : c.over = true := h; rw [hov] at h; cases h
/-- What more bytes behind do to what comes next. -/
theorem nextW_app : ∀ n (c : Cn) (q : List Int), c.wait.length < n → Bytes c.wait → Bytes q → c.over = false → ∀ c' y, nextW c = (c', y) →
    (∃ x, y = some x ∧ c'.over = false ∧ c'.wait.length + 2 ≤ c.wait.length ∧ nextW (addW c q) = (addW c' q, some x)) ∨ (∃ x, y = some x ∧ c'.over = true ∧ c'.wait = [] ∧ nextW (addW c q) = (c', some x)) ∨ (y = none ∧ c'.over = false ∧ c'.wait.length ≤ c.wait.length ∧ nextW c' = (c', none) ∧ nextW (addW c q) = nextW (addW c' q))
  | 0, _, _, h, _, _, _, _, _, _ => absurd h (Nat.not_lt_zero _)
  | n + 1, c, q, hn, hb, hq, hov, c', y, he => by
    obtain ⟨⟨f, k, why⟩, hr⟩ : ∃ r, rdF c.wait c.mask = r := ⟨_, rfl⟩
    by_cases h1 : why = 1
    · subst h1
      have h2 := nextW_more hov hr
      rw [h2] at he
      injection he with e1 e2
      subst e1 e2
      exact .inr (.inr ⟨rfl, hov, Nat.le_refl _, h2, rfl⟩)
    have hra : rdF (addW c q).wait (addW c q).mask = (f, k, why) := (rdF_app (p := c.wait) (q := q) (mask := c.mask) (by rw [hr]; exact h1)).trans hr
    by_cases h0 : why = 0
    · subst h0
      obtain ⟨hk, ⟨K, rfl, hK2, hKl⟩, hfb, hfl⟩ := rdF_good hr hb
      have hcut : ({ addW c q with wait := (addW c q).wait.drop K } : Cn) = addW { c with wait := c.wait.drop K } q := by
        show (⟨c.mask, c.over, (c.wait ++ q).drop K, c.op, c.load⟩ : Cn) = ⟨c.mask, c.over, c.wait.drop K ++ q, c.op, c.load⟩
        rw [List.drop_append_of_le_length hKl]
      have hdl : (c.wait.drop K).length + K = c.wait.length := by rw [List.length_drop]; omega
      by_cases h8 : f.op = 8
      · rw [nextW_close hov hr h8] at he
        injection he with e1 e2
        subst e1 e2
        exact .inr (.inl ⟨_, rfl, rfl, rfl, by rw [nextW_close (c := addW c q) hov hra h8, hcut]; rfl⟩)
      · by_cases h9 : f.op = 9 ∨ f.op = 10
        · rw [nextW_ping hov hr h9] at he
          injection he with e1 e2
          subst e1 e2
          exact .inl ⟨_, rfl, hov, by show (c.wait.drop K).length + 2 ≤ c.wait.length; omega, by rw [nextW_ping (c := addW c q) hov hra h9, hcut]⟩
        · obtain ⟨⟨c1, y1⟩, hp⟩ : ∃ r, partV { c with wait := c.wait.drop K } f = r := ⟨_, rfl⟩
          have hpa := (partV_addW { c with wait := c.wait.drop K } f q).resolve_right (by show ¬ c.over = true; rw [hov]; decide)
          rw [hp] at hpa
          cases y1 with
          | some x =>
            rw [nextW_part hov hr h8 h9 hp] at he
            injection he with e1 e2
            subst e1 e2
            have h2 := nextW_part (c := addW c q) hov hra h8 h9 (c' := if c1.over = c.over then addW c1 q else c1) (x := x) (by rw [hcut]; exact hpa)
            cases hv : c1.over with
            | false =>
              rw [if_pos (by rw [hv, hov])] at h2
              have hw := partV_over (c := { c with wait := c.wait.drop K }) (f := f) (by rw [hp]; exact hv)
              rw [hp] at hw
              exact .inl ⟨x, rfl, rfl, by rw [show c1.wait = c.wait.drop K from hw]; omega, h2⟩
            | true =>
              rw [if_neg (by rw [hv, hov]; decide)] at h2
              have h3 := partV_wait0 (c := { c with wait := c.wait.drop K }) (f := f) hov (by rw [hp]; exact hv)
              rw [hp] at h3
              exact .inr (.inl ⟨x, rfl, rfl, h3, h2⟩)
          | none =>
            have hw := partV_wait hp
            have hw1 : c1.wait = c.wait.drop K := hw.1
            rw [nextW_step hov hr hb h8 h9 hp] at he
            have h2 := nextW_step (c := addW c q) hov hra (Bytes.app hb hq) h8 h9 (c' := addW c1 q) (by rw [hcut]; exact hpa)
            rcases nextW_app n c1 q (by rw [hw1]; omega) (by rw [hw1]; exact hb.dp K) hq (hw.2.2.trans hov) c' y he with ⟨x, e1, e2, e3, e4⟩ | ⟨x, e1, e2, e3, e4⟩ | ⟨e1, e2, e3, e4, e5⟩
            · exact .inl ⟨x, e1, e2, by rw [hw1] at e3; omega, h2.trans e4⟩
            · exact .inr (.inl ⟨x, e1, e2, e3, h2.trans e4⟩)
            · exact .inr (.inr ⟨e1, e2, by rw [hw1] at e3; omega, e4, h2.trans e5⟩)
    · rw [nextW_why hov hr h1 h0] at he
      injection he with e1 e2
      subst e1 e2
      exact .inr (.inl ⟨_, rfl, rfl, rfl, nextW_why (c := addW c q) hov hra h1 h0⟩)
theorem nextW_bytes {c : Cn} (hb : Bytes c.wait) : Bytes (nextW c).1.wait := by
  have key : ∀ n (c : Cn), Bytes c.wait → Bytes (nextV n c).1.wait := by
    intro n
    induction n with
    | zero => exact fun c h => h
    | succ n ih =>
      intro c h
      unfold nextV
      split
      · exact h
      · split
        · exact h
        · split
          · exact Bytes.nil
          · split
            · exact Bytes.nil
            · split
              · exact h.dp _
              · split
                · rename_i c' x hp
                  have h1 : Bytes (partV { c with wait := c.wait.drop (rdF c.wait c.mask).2.1.toNat } (rdF c.wait c.mask).1).1.wait := by
                    unfold partV
                    split
                    · exact Bytes.nil
                    · split
                      · exact Bytes.nil
                      · split
                        · exact h.dp _
                        · split
                          · exact Bytes.nil
                          · exact h.dp _
                  rw [hp] at h1
                  exact h1
                · rename_i c' hp
                  exact ih c' (by rw [(partV_wait hp).1]; exact h.dp _)
  exact key _ c hb
/-- How far an end is from having told all. -/
def meas (c : Cn) : Nat := if c.over = true then 0 else c.wait.length + 1
def drainV : Nat → Cn → List Evt × Cn
  | 0, c => ([], c)
  | n + 1, c => match nextW c with
    | (c', none) => ([], c')
    | (c', some x) => (x :: (drainV n c').1, (drainV n c').2)
/-- All that is told, and what then is. -/
def drainW (c : Cn) : List Evt × Cn := drainV (meas c + 1) c
theorem meas_open {c : Cn} (h : c.over = false) : meas c = c.wait.length + 1 := by unfold meas; rw [if_neg (by rw [h]; decide)]
theorem meas_over {c : Cn} (h : c.over = true) : meas c = 0 := by unfold meas; rw [if_pos h]
theorem nextW_open {c c' : Cn} {x : Evt} (h : nextW c = (c', some x)) : c.over = false := by
  cases hv : c.over with
  | false => rfl
  | true => rw [nextW_over hv] at h; injection h with _ h; cases h
theorem meas_some {c c' : Cn} {x : Evt} (hb : Bytes c.wait) (h : nextW c = (c', some x)) : meas c' < meas c := by
  have hov := nextW_open h
  rw [meas_open hov]
  rcases nextW_app _ c [] (Nat.lt_succ_self _) hb Bytes.nil hov c' _ h with ⟨_, _, e2, e3, _⟩ | ⟨_, _, e2, _⟩ | ⟨e1, _⟩
  · rw [meas_open e2]; omega
  · rw [meas_over e2]; omega
  · cases e1
theorem drainV_fuel : ∀ n m (c : Cn), Bytes c.wait → meas c < n → meas c < m → drainV n c = drainV m c
  | 0, _, _, _, h, _ => absurd h (Nat.not_lt_zero _)
  | _, 0, _, _, _, h => absurd h (Nat.not_lt_zero _)
  | n + 1, m + 1, c, hb, hn, hm => by
    unfold drainV
    have hb' := nextW_bytes hb
    cases hx : nextW c with
    | mk c' y =>
      rw [hx] at hb'
      cases y with
      | none => rfl
      | some x =>
        have hlt := meas_some hb hx
        show (x :: (drainV n c').1, (drainV n c').2) = (x :: (drainV m c').1, (drainV m c').2)
        rw [drainV_fuel n m c' hb' (by omega) (by omega)]
theorem drainW_none {c c' : Cn} (h : nextW c = (c', none)) : drainW c = ([], c') := by
  unfold drainW drainV
  rw [h]
theorem drainV_some (n : Nat) {c c' : Cn} {x : Evt} (h : nextW c = (c', some x)) : drainV (n + 1) c = (x :: (drainV n c').1, (drainV n c').2) := by
  show (match nextW c with | (c', none) => (([] : List Evt), c') | (c', some x) => (x :: (drainV n c').1, (drainV n c').2)) = _
  rw [h]
theorem drainW_some {c c' : Cn} {x : Evt} (hb : Bytes c.wait) (h : nextW c = (c', some x)) : drainW c = (x :: (drainW c').1, (drainW c').2) := by
  have hlt := meas_some hb h
  have hb' := nextW_bytes hb
  rw [h] at hb'
  have e : drainV (meas c) c' = drainW c' := drainV_fuel _ _ c' hb' hlt (Nat.lt_succ_self _)
  show drainV (meas c + 1) c = _
  rw [drainV_some _ h, e]
theorem drainW_over {c : Cn} (h : c.over = true) : drainW c = ([], c) := drainW_none (nextW_over h)
/-- What is left when all has been told tells nothing. -/
theorem drainW_end : ∀ n (c : Cn), meas c < n → Bytes c.wait → Bytes (drainW c).2.wait ∧ (drainW c).2.wait.length ≤ c.wait.length ∧ ((drainW c).2.over = false → nextW (drainW c).2 = ((drainW c).2, none))
  | 0, _, h, _ => absurd h (Nat.not_lt_zero _)
  | n + 1, c, hn, hb => by
    have hb' := nextW_bytes hb
    obtain ⟨⟨c', y⟩, hx⟩ : ∃ r, nextW c = r := ⟨_, rfl⟩
    rw [hx] at hb'
    cases hov : c.over with
    | true => rw [drainW_over hov]; exact ⟨hb, Nat.le_refl _, fun h => by rw [hov] at h; cases h⟩
    | false =>
      cases y with
      | none =>
        rw [drainW_none hx]
        rcases nextW_app _ c [] (Nat.lt_succ_self _) hb Bytes.nil hov c' _ hx with ⟨_, e1, _⟩ | ⟨_, e1, _⟩ | ⟨_, _, e3, e4, _⟩
        · cases e1
        · cases e1
        · exact ⟨hb', e3, fun _ => e4⟩
      | some x =>
        have hlt := meas_some hb hx
        rw [drainW_some hb hx]
        have h2 := drainW_end n c' (by omega) hb'
        refine ⟨h2.1, Nat.le_trans h2.2.1 ?_, h2.2.2⟩
        rcases nextW_app _ c [] (Nat.lt_succ_self _) hb Bytes.nil hov c' _ hx with ⟨_, _, _, e3, _⟩ | ⟨_, _, _, e3, _⟩ | ⟨e1, _⟩
        · omega
        · rw [e3]; exact Nat.zero_le _
        · cases e1
theorem drainW_congr {a b : Cn} (h : nextW a = nextW b) (ha : Bytes a.wait) (hb : Bytes b.wait) : drainW a = drainW b := by
  obtain ⟨⟨c', y⟩, hx⟩ : ∃ r, nextW b = r := ⟨_, rfl⟩
  cases y with
  | none => rw [drainW_none hx, drainW_none (h.trans hx)]
  | some x => rw [drainW_some hb hx, drainW_some ha (h.trans hx)]
/-- More bytes behind: what was told is told first. -/
theorem drainW_app (q : List Int) (hq : Bytes q) : ∀ n (c : Cn), meas c < n → Bytes c.wait → c.over = false →
    drainW (addW c q) = if (drainW c).2.over = true then drainW c else ((drainW c).1 ++ (drainW (addW (drainW c).2 q)).1, (drainW (addW (drainW c).2 q)).2)
  | 0, _, h, _, _ => absurd h (Nat.not_lt_zero _)
  | n + 1, c, hn, hb, hov => by
    have hb' := nextW_bytes hb
    obtain ⟨⟨c', y⟩, hx⟩ : ∃ r, nextW c = r := ⟨_, rfl⟩
    rw [hx] at hb'
    rcases nextW_app _ c q (Nat.lt_succ_self _) hb hq hov c' y hx with ⟨x, rfl, e2, _, e4⟩ | ⟨x, rfl, e2, _, e3⟩ | ⟨rfl, e2, _, e4, e5⟩
    · have hlt := meas_some hb hx
      rw [drainW_some hb hx, drainW_some (c := addW c q) (Bytes.app hb hq) e4, drainW_app q hq n c' (by omega) hb' e2]
      by_cases hv : (drainW c').2.over = true
      · rw [if_pos hv, if_pos hv]
      · rw [if_neg hv, if_neg hv]; rfl
    · rw [drainW_some hb hx, drainW_some (c := addW c q) (Bytes.app hb hq) e3, drainW_over e2, if_pos e2]
    · rw [drainW_none hx]
      rw [if_neg (by show ¬ c'.over = true; rw [e2]; decide)]
      show drainW (addW c q) = ([] ++ (drainW (addW c' q)).1, (drainW (addW c' q)).2)
      rw [drainW_congr e5 (Bytes.app hb hq) (Bytes.app hb' hq), List.nil_append]
/-- What comes of pieces, one after the other, as long as it is not over. -/
def evsV : List (List Int) → Cn → List Evt × Cn
  | [], c => ([], c)
  | b :: bs, c => if c.over = true then ([], c) else ((drainW (addW c b)).1 ++ (evsV bs (drainW (addW c b)).2).1, (evsV bs (drainW (addW c b)).2).2)
theorem addW_nil (c : Cn) : addW c [] = c := by
  show (⟨c.mask, c.over, c.wait ++ [], c.op, c.load⟩ : Cn) = c
  rw [List.append_nil]
theorem addW_add (c : Cn) (a b : List Int) : addW (addW c a) b = addW c (a ++ b) := by
  show (⟨c.mask, c.over, c.wait ++ a ++ b, c.op, c.load⟩ : Cn) = ⟨c.mask, c.over, c.wait ++ (a ++ b), c.op, c.load⟩
  rw [List.append_assoc]
/-- In whichever pieces: the same. -/
theorem evsV_flat : ∀ (bs : List (List Int)) (c : Cn), (∀ b ∈ bs, Bytes b) → Bytes c.wait → c.over = false → nextW c = (c, none) → evsV bs c = drainW (addW c bs.flatten)
  | [], c, _, _, _, hn => by rw [List.flatten_nil, addW_nil, drainW_none hn]; rfl
  | b :: bs, c, hbs, hb, hov, hn => by
    have h1 := drainW_end _ (addW c b) (Nat.lt_succ_self _) (Bytes.app hb (hbs b (List.mem_cons_self ..)))
    have h2 : Bytes bs.flatten := fun x hx => by
      obtain ⟨l, hl, hxl⟩ := List.mem_flatten.1 hx
      exact hbs l (List.mem_cons_of_mem _ hl) x hxl
    have h3 := drainW_app bs.flatten h2 _ (addW c b) (Nat.lt_succ_self _) (Bytes.app hb (hbs b (List.mem_cons_self ..))) hov
    rw [List.flatten_cons, ← addW_add, h3]
    show (if c.over = true then _ else _) = _
    rw [if_neg (by rw [hov]; decide)]
    by_cases hv : (drainW (addW c b)).2.over = true
    · rw [if_pos hv]
      have e : evsV bs (drainW (addW c b)).2 = ([], (drainW (addW c b)).2) := by
        cases bs with
        | nil => rfl
        | cons b' bs' => show (if (drainW (addW c b)).2.over = true then _ else _) = _; rw [if_pos hv]
      rw [e, List.append_nil]
    · have hv' : (drainW (addW c b)).2.over = false := by
        cases h : (drainW (addW c b)).2.over with
        | true => exact absurd h hv
        | false => rfl
      rw [if_neg hv, evsV_flat bs _ (fun x hx => hbs x (List.mem_cons_of_mem _ hx)) h1.1 hv' (h1.2.2 hv')]
end Go.Proofs.YtcfbfmgckaehdaaDoor
namespace Go.Proofs.YtcfbfmgckaehdaaDoor
open Go.RowKit Go.Proofs.YtcfbfmgckaehdaaDoorW.PrintWords
theorem info_bytes : (Tryd.prog.info? 22).map (fun i => (i.zero, i.size, i.bytes)) = some (some (.slice none 0 0), 1, 24) := by kernel_rfl
abbrev OwnL (w0 w : World) (v : Value) (ls : List (List Int)) : Prop := Kd.S (Kd.slice 5 (Kd.int .u8)) 22 w w0.heap.size (fun _ => True) v ls
abbrev RdL (w : World) (A : Option Addr) (n : Nat) (ls : List (List Int)) : Prop := Kd.C (Kd.slice 5 (Kd.int .u8)) w A n ls
theorem OwnL.cast {w0 w : World} {v : Value} {l m : List (List Int)} (h : OwnL w0 w v l) (he : l = m) : OwnL w0 w v m := he ▸ h
theorem OwnL.nil (w0 w : World) : OwnL w0 w (.slice none 0 0) [] := Kd.S_nil _ _ _ _ _
theorem OwnL.reads {w0 w : World} {v : Value} {ls : List (List Int)} (h : OwnL w0 w v ls) : ∃ A c, v = .slice A ls.length c ∧ ls.length ≤ c ∧ RdL w A ls.length ls := Kd.S_reads h
theorem OwnL.below {w0 w w1 : World} {v : Value} {l : List (List Int)} (h : OwnL w0 w v l) (hb : Below w.heap.size w w1) : OwnL w0 w1 v l := Kd.S_below h hb
theorem OwnL.lower {w0 w1 w : World} {v : Value} {l : List (List Int)} (h : OwnL w1 w v l) (hs : w0.heap.size ≤ w1.heap.size) : OwnL w0 w v l := Kd.S_lower h hs
/-- A row of such a row, read. -/
theorem RdL.at {w : World} {A : Option Addr} {n : Nat} {ls : List (List Int)} (h : RdL w A n ls) (i : Nat) (hi : i < n) : ∃ ad Ai ci, A = some ad ∧ w.cell? (ad.add i) = some (.slice Ai (ls.getD i []).length ci) ∧ (ls.getD i []).length ≤ ci ∧ Rd w Ai (ls.getD i []).length (ls.getD i []) := by
  obtain ⟨ad, c, e, hcl, ⟨Ai, ci, rfl, hle, hr⟩, hc⟩ := ReadsRow.get_ h [] (i : Int) (by omega) (by omega)
  simp only [Int.toNat_natCast] at hle hr hc
  refine ⟨ad, Ai, ci, e, ?_, hle, hr⟩
  have := hc 0 _ rfl
  rwa [show i * (Kd.slice 5 (Kd.int .u8)).sz + 0 = i from Nat.mul_one i] at this
section
variable {ops : Array Oper} {rest : List Oper} {o : Oper} {a : Act} {Q : Exit → Act → World → Prop} {w0 w1 W : World} {s x : Operand} {v pv : Value} {ls : List (List Int)} {p : List Int}
end
end Go.Proofs.YtcfbfmgckaehdaaDoor
namespace Go.Proofs.YtcfbfmgckaehdaaDoor
open Go.RowKit Go.Proofs.YtcfbfmgckaehdaaDoorW.PrintWords
def Evt.none : Evt := ⟨0, 0, [], false⟩
def evK : Kd Evt := Kd.iso (Kd.pair (Kd.int .i64) (Kd.pair (Kd.int .i64) (Kd.pair (Kd.slice 5 (Kd.int .u8)) Kd.bool))) (fun x : Evt => (x.op, x.code, x.load, x.bad))
abbrev RdE (w : World) (A : Option Addr) (n : Nat) (L : List Evt) : Prop := Kd.C evK w A n L
/-- A row of events of one's own, none of it where an end lies. -/
def OwnE (w0 w : World) (g : Nat) (vw vl v : Value) (L : List Evt) : Prop := Kd.R evK 51 w w0.heap.size (fun k => ¬ Foot g vw vl k) v L
theorem OwnE.nil (w0 w : World) (g : Nat) (vw vl : Value) : OwnE w0 w g vw vl (.slice none 0 0) [] := Kd.R_nil _ _ _ _ _
theorem OwnE.rest {w0 w w1 : World} {g : Nat} {vw vl vw1 vl1 v : Value} {L : List Evt} (h : OwnE w0 w g vw vl v L) (hr : Rest w w1 (Foot g vw vl) (Foot g vw1 vl1)) : OwnE w0 w1 g vw1 vl1 v L :=
  Kd.R_mono (Kd.R_step (Kd.R_bound h) (fun k hk hlt => hr.2.1 k hlt hk.1)) (fun k hk hF => by
    rcases hr.2.2 k hF with h1 | h1
    · exact hk.1 h1
    · have := hk.2.2.1; omega)
theorem OwnE.below {w0 w w1 : World} {g : Nat} {vw vl v : Value} {L : List Evt} (h : OwnE w0 w g vw vl v L) (hb : Below w.heap.size w w1) : OwnE w0 w1 g vw vl v L := Kd.R_below h hb
theorem OwnE.lower {w0 w00 w : World} {g : Nat} {vw vl v : Value} {L : List Evt} (h : OwnE w0 w g vw vl v L) (hs : w00.heap.size ≤ w0.heap.size) : OwnE w00 w g vw vl v L := Kd.R_lower h hs
theorem OwnE.reads {w0 w : World} {g : Nat} {vw vl v : Value} {L : List Evt} (h : OwnE w0 w g vw vl v L) : ∃ A c, v = .slice A L.length c ∧ L.length ≤ c ∧ RdE w A L.length L := Kd.R_reads h
theorem RdE.at {w : World} {A : Option Addr} {n : Nat} {L : List Evt} (h : RdE w A n L) (i : Nat) (hi : i < n) : ∃ ad Ai ci, A = some ad ∧ w.cell? (ad.add (i * 4)) = some (.int .i64 (L.getD i Evt.none).op) ∧
    w.cell? ⟨(ad.add (i * 4)).block, (ad.add (i * 4)).off + 1, none⟩ = some (.int .i64 (L.getD i Evt.none).code) ∧ w.cell? ⟨(ad.add (i * 4)).block, (ad.add (i * 4)).off + 2, none⟩ = some (.slice Ai (L.getD i Evt.none).load.length ci) ∧
    w.cell? ⟨(ad.add (i * 4)).block, (ad.add (i * 4)).off + 3, none⟩ = some (.bool (L.getD i Evt.none).bad) ∧ (L.getD i Evt.none).load.length ≤ ci ∧ Rd w Ai (L.getD i Evt.none).load.length (L.getD i Evt.none).load := by
  obtain ⟨ad, c, e, _, hK, hc0⟩ := Kd.C_get h Evt.none (i : Int) (by omega) (by omega)
  simp only [Int.toNat_natCast] at hK hc0
  have hc : ∀ j u, c[j]? = some u → w.cell? (ad.add (i * 4 + j)) = some u := hc0
  obtain ⟨_, _, rfl, rfl, ⟨_, _, rfl, rfl, ⟨_, _, rfl, ⟨Ai, ci, rfl, l1, g1⟩, rfl⟩⟩⟩ := hK
  exact ⟨ad, Ai, ci, e, hc 0 _ rfl, by rw [← add_field _ _ 1 (by omega)]; exact hc 1 _ rfl, by rw [← add_field _ _ 2 (by omega)]; exact hc 2 _ rfl, by rw [← add_field _ _ 3 (by omega)]; exact hc 3 _ rfl, l1, g1⟩
theorem info_evt : (Tryd.prog.info? 51).map (fun i => (i.zero, i.size, i.bytes)) = some (some (.agg #[.int .i64 0, .int .i64 0, .slice none 0 0, .bool false]), 4, 48) := by kernel_rfl
section
variable {ops : Array Oper} {rest : List Oper} {o : Oper} {a : Act} {Q : Exit → Act → World → Prop} {w0 W : World} {s x : Operand} {g : Nat} {vw vl v pv : Value} {L : List Evt} {p : Evt}
theorem appe_one (hO : OwnE w0 W g vw vl v L) (hp : Own w0 W pv p.load) (hap : ∀ k, some k = pv.ownBlock → ¬ Foot g vw vl k ∧ some k ≠ v.ownBlock) (hfr : ∀ k, W.heap.size ≤ k → ¬ Foot g vw vl k) (hB : Below w0.heap.size w0 W) (hL : L.length ≤ 100000)
    (hgd : o.guard = none) (hop : o.op = .call { callee := .builtin .append, args := #[s, x], argTypes := #[46, 46] }) (hv : a.eval s = v) (hx : a.eval x = .slice (some ⟨W.heap.size, 0, none⟩) 1 1)
    (K : ∀ v1 w1, OwnE w0 w1 g vw vl v1 (L ++ [p]) → Below w0.heap.size w0 w1 → W.grownBy w1 v.ownBlock → wpList Tryd.prog ops Q rest (a.put o.dst v1) w1) : wpList Tryd.prog ops Q (o :: rest) a (W.alloc (.cells #[.int .i64 p.op, .int .i64 p.code, pv, .bool p.bad] 51)) := by
  have hM : evK.M W w0.heap.size (fun k => some k = pv.ownBlock) p [.int .i64 p.op, .int .i64 p.code, pv, .bool p.bad] :=
    ⟨[.int .i64 p.op], [.int .i64 p.code, pv, .bool p.bad], rfl, rfl, [.int .i64 p.code], [pv, .bool p.bad], rfl, rfl, [pv], [.bool p.bad], rfl, ⟨pv, rfl, Kd.R_tight rfl hp⟩, rfl⟩
  exact Kd.R_append evK (w0 := w0) w0.heap.size hgd s x 46 51 (.agg #[.int .i64 0, .int .i64 0, .slice none 0 0, .bool false]) 48 hop Tryd.underlying46 info_evt rfl (by decide) (by omega) v L p [.int .i64 p.op, .int .i64 p.code, pv, .bool p.bad] (fun k => ¬ Foot g vw vl k) (fun k => some k = pv.ownBlock) hv hx hM hap hfr hO hB hB.size (by omega) (fun v1 w1 h1 h2 h3 _ => K v1 w1 h1 h2 h3)
end
end Go.Proofs.YtcfbfmgckaehdaaDoor
namespace Go.Proofs.YtcfbfmgckaehdaaDoor
open Go.RowKit Go.Proofs.YtcfbfmgckaehdaaDoorW.PrintWords
/-- What bounds how many events there are. -/
def Room (m : Nat) (cc : Cn) (r : List (List Int)) : Prop := 2 * m + cc.wait.length + r.flatten.length ≤ 65536 + (if cc.over = true then 2 else 0)
theorem Room.le {m : Nat} {cc : Cn} {r : List (List Int)} (h : Room m cc r) : m ≤ 32769 := by
  unfold Room at h
  split at h <;> omega
theorem Room.fits {m : Nat} {cc : Cn} {b : List Int} {r : List (List Int)} (h : Room m cc (b :: r)) (ho : cc.over = false) : feedE cc b.length = 0 ∧ feedC cc b = addW cc b ∧ Room m (addW cc b) r := by
  unfold Room at h
  rw [if_neg (by rw [ho]; decide), List.flatten_cons, List.length_append] at h
  have e : feedE cc b.length = 0 := by unfold feedE; rw [if_neg (by rw [ho]; decide), if_neg (by omega)]
  refine ⟨e, by unfold feedC; rw [if_pos e]; rfl, ?_⟩
  unfold Room
  show 2 * m + (cc.wait ++ b).length + r.flatten.length ≤ 65536 + (if cc.over = true then 2 else 0)
  rw [if_neg (by rw [ho]; decide), List.length_append]
  omega
theorem Room.next {m : Nat} {cc c' : Cn} {x : Evt} {r : List (List Int)} (h : Room m cc r) (hb : Bytes cc.wait) (hx : nextW cc = (c', some x)) : Room (m + 1) c' r := by
  have ho := nextW_open hx
  unfold Room at h ⊢
  rw [if_neg (by rw [ho]; decide)] at h
  rcases nextW_app _ cc [] (Nat.lt_succ_self _) hb Bytes.nil ho c' _ hx with ⟨_, _, e2, e3, _⟩ | ⟨_, _, e2, e3, _⟩ | ⟨e1, _⟩
  · rw [if_neg (by rw [e2]; decide)]; omega
  · rw [if_pos e2, e3]; simp only [List.length_nil]; omega
  · cases e1
theorem Room.stop {m : Nat} {cc c' : Cn} {r : List (List Int)} (h : Room m cc r) (hb : Bytes cc.wait) (hx : nextW cc = (c', none)) : Room m c' r := by
  cases ho : cc.over with
  | true =>
    rw [nextW_over ho] at hx
    injection hx with h1 _
    exact h1 ▸ h
  | false =>
    unfold Room at h ⊢
    rw [if_neg (by rw [ho]; decide)] at h
    rcases nextW_app _ cc [] (Nat.lt_succ_self _) hb Bytes.nil ho c' _ hx with ⟨_, e1, _⟩ | ⟨_, e1, _⟩ | ⟨_, e2, e3, _⟩
    · cases e1
    · cases e1
    · rw [if_neg (by rw [e2]; decide)]; omega
theorem evsV_over {P : List (List Int)} {c : Cn} (h : c.over = true) : evsV P c = ([], c) := by
  cases P with
  | nil => rfl
  | cons b bs => show (if c.over = true then _ else _) = _; rw [if_pos h]
theorem evsV_cons {b : List Int} {P : List (List Int)} {c : Cn} (h : c.over = false) : (evsV (b :: P) c).1 = (drainW (addW c b)).1 ++ (evsV P (drainW (addW c b)).2).1 := by
  show (if c.over = true then _ else _ : List Evt × Cn).1 = _
  rw [if_neg (by rw [h]; decide)]
/-- Within the walk. -/
def EvsAt (w W : World) (g : Nat) (cc : Cn) (vw vl v : Value) (E : List Evt) : Prop := ConnAt w W g cc vw vl ∧ Below w.heap.size w W ∧ OwnE w W g vw vl v E
set_option maxRecDepth 20000 in
set_option maxHeartbeats 6400000 in
theorem events_calls {n : Nat} (server : Bool) (A : Option Addr) (c : Nat) (P : List (List Int)) (w : World) (hr : RdL w A n P) (hby : ∀ b ∈ P, Bytes b) (hsum : P.flatten.length ≤ 65536) :
    Calls Tryd.prog 26 #[.bool server, .slice A n c] w fun e w' => ∃ A1 n1 c1, e = .returned (.tuple #[.slice A1 n1 c1, .bool true]) ∧ RdE w' A1 n1 (evsV P ⟨server, false, [], 0, []⟩).1 ∧ n1 ≤ c1 ∧ Below w.heap.size w w' := by
  obtain ⟨S, hS⟩ : ∃ S, S = (evsV P ⟨server, false, [], 0, []⟩).1 := ⟨_, rfl⟩
  have hR0 : Room 0 ⟨server, false, [], 0, []⟩ P := by unfold Room; show 2 * 0 + 0 + P.flatten.length ≤ 65536 + 0; omega
  have HI := Lib.hid (show RdL w A n P ∧ (∀ b ∈ P, Bytes b) ∧ P.length = n ∧ n ≤ 9223372036854775807 ∧ Room 0 ⟨server, false, [], 0, []⟩ P ∧ S = (evsV P ⟨server, false, [], 0, []⟩).1 from ⟨hr, hby, Kd.C_len hr, Kd.C_max hr, hR0, hS⟩)
  rw [← hS]
  clear hr hby hR0 hS hsum
  go_enter Tryd.func26, Tryd.ntmps26
  go_wp2_with fail
  refine (WsNew_calls server _).mono ?_
  rintro e w2 ⟨rfl, hc2, hb2⟩
  obtain ⟨g, hg⟩ : ∃ g, g = w.heap.size := ⟨_, rfl⟩
  rw [← hg] at hc2 ⊢
  have H2 := Lib.hid (show EvsAt w w2 g ⟨server, false, [], 0, []⟩ (.slice none 0 0) (.slice none 0 0) (.slice none 0 0) [] from ⟨hc2, hb2, OwnE.nil _ _ _ _ _⟩)
  clear hc2 hb2 hg
  go_wp2
  go_loopw [7, 17] (fun vi i wr => ∃ (k : Nat) (cc : Cn) (vw vl v : Value) (E : List Evt), v = vi ∧ i = .int .i64 k ∧ k ≤ n ∧ Hid (EvsAt w wr g cc vw vl v E ∧ Room E.length cc (P.drop k) ∧ S = E ++ (evsV (P.drop k) cc).1)) (fun _ i _ => n - (intOf i).toNat)
  case atStart => exact ⟨0, _, _, _, _, [], rfl, rfl, by omega, Lib.hid ⟨H2.out, HI.out.2.2.2.2.1, HI.out.2.2.2.2.2⟩⟩
  case round =>
    obtain ⟨k, cc, vw, vl, v, E, rfl, rfl, hk, HR⟩ := hrel
    clear H2
    by_cases hkn : k < n
    · have dkn : decide ((k : Int) < n) = true := decide_eq_true (by omega)
      have dkn' : decide (k < n) = true := decide_eq_true hkn
      have wk : IntKind.i64.wrap ((k : Int) + 1) = k + 1 := wrap_id (by omega) (by have := HI.out; omega)
      have ikn : (k : Int) < n := by omega
      have i0 : (0 : Int) ≤ k := by omega
      have HK := Lib.hid hkn
      obtain ⟨ad, Ai, ci, rfl, x0, hci, hrd⟩ := RdL.at (Kd.C_below HI.out.1 HR.out.1.2.1) k hkn
      have hkl : k < P.length := by have := HI.out; omega
      have hpk : P.drop k = P.getD k [] :: P.drop (k + 1) := by rw [List.drop_eq_getElem_cons hkl, List.getD_eq_getElem?_getD, List.getElem?_eq_getElem hkl]; rfl
      have hbb : Bytes (P.getD k []) := by rw [List.getD_eq_getElem?_getD, List.getElem?_eq_getElem hkl]; exact HI.out.2.1 _ (List.getElem_mem hkl)
      obtain ⟨bs, hbs⟩ : ∃ bs, bs = P.getD k [] := ⟨_, rfl⟩
      rw [← hbs] at x0 hci hrd hpk hbb
      obtain ⟨m, hm⟩ : ∃ m, m = bs.length := ⟨_, rfl⟩
      rw [← hm] at x0 hci hrd
      have HB := Lib.hid (show Rd wr Ai m bs ∧ Bytes bs ∧ P.drop k = bs :: P.drop (k + 1) ∧ bs.length = m from ⟨hrd, hbb, hpk, hm.symm⟩)
      clear hkn hk hkl hpk hbb hbs hm hci hrd
      cases hov : cc.over with
      | true =>
        have HO := Lib.hid (show feedE cc bs.length = 31 ∧ S = E from ⟨by unfold feedE; rw [if_pos hov], by rw [HR.out.2.2, evsV_over hov, List.append_nil]⟩)
        clear hov
        go_wp2_with fail
        refine (WsFeed_calls w _ g cc vw vl Ai ci bs HR.out.1.1 HB.out.1 HB.out.2.1 HR.out.1.2.1).mono ?_
        rintro e w8 ⟨vw8, rfl, _, hr8, hb8⟩
        rw [HO.out.1]
        obtain ⟨A8, c8, hv8, hc8, hd8⟩ := (HR.out.1.2.2.rest hr8).reads
        have H8 := Lib.hid (show E.length ≤ c8 ∧ RdE w8 A8 E.length E ∧ Below w.heap.size w w8 from ⟨hc8, hd8, hb8⟩)
        clear hc8 hd8 hb8 hr8 x0
        go_wp2
        go_ret2
        exact ⟨A8, _, c8, rfl, by rw [HO.out.2]; exact H8.out.2.1, H8.out.1, H8.out.2.2⟩
      | false =>
        have hfit := Room.fits (m := E.length) (b := bs) (r := P.drop (k + 1)) (by rw [← HB.out.2.2.1]; exact HR.out.2.1) hov
        have HF := Lib.hid (show feedE cc bs.length = 0 ∧ feedC cc bs = addW cc bs ∧ Room E.length (addW cc bs) (P.drop (k + 1)) ∧ S = E ++ ((drainW (addW cc bs)).1 ++ (evsV (P.drop (k + 1)) (drainW (addW cc bs)).2).1) from ⟨hfit.1, hfit.2.1, hfit.2.2, by rw [HR.out.2.2, HB.out.2.2.1, evsV_cons hov]⟩)
        clear hov hfit
        go_wp2_with fail
        refine (WsFeed_calls w _ g cc vw vl Ai ci bs HR.out.1.1 HB.out.1 HB.out.2.1 HR.out.1.2.1).mono ?_
        rintro e w8 ⟨vw8, rfl, hc8, hr8, hb8⟩
        rw [HF.out.1]
        have H8 := Lib.hid (show EvsAt w w8 g (addW cc bs) vw8 vl v E from ⟨by rw [← HF.out.2.1]; exact hc8, hb8, HR.out.1.2.2.rest hr8⟩)
        clear hc8 hr8 hb8 x0 HR
        go_wp2
        go_loopw [7, 29] (fun vi i wr => ∃ (j : Nat) (c1 : Cn) (vw1 vl1 v : Value) (E1 : List Evt), v = vi ∧ i = .int .i64 j ∧ j ≤ E1.length ∧ E1.length ≤ 32769 ∧ Hid (EvsAt w wr g c1 vw1 vl1 v E1 ∧ Room E1.length c1 (P.drop (k + 1)) ∧ S = E1 ++ ((drainW c1).1 ++ (evsV (P.drop (k + 1)) (drainW c1).2).1))) (fun _ i _ => 65536 - (intOf i).toNat)
        case atStart => exact ⟨0, _, _, _, _, E, rfl, rfl, by omega, HF.out.2.2.1.le, Lib.hid ⟨H8.out, HF.out.2.2.1, HF.out.2.2.2⟩⟩
        case round =>
          obtain ⟨j, c1, vw1, vl1, v, E1, rfl, rfl, hj, hj2, HQ⟩ := hrel
          clear H8
          have dj : decide ((j : Int) < 65536) = true := decide_eq_true (by omega)
          have dj' : decide (j < 65536) = true := decide_eq_true (by omega)
          have wj : IntKind.i64.wrap ((j : Int) + 1) = j + 1 := wrap_id (by omega) (by omega)
          have HJ := Lib.hid (show j ≤ E1.length ∧ E1.length ≤ 32769 from ⟨hj, hj2⟩)
          clear hj hj2
          go_wp2_with fail
          refine (WsNext_calls w _ g _ _ _ HQ.out.1.1 HQ.out.1.2.1).mono ?_
          rintro e w9 ⟨vw9, vl9, v9, x9, ok, rfl, hs9, ho9, hc9, hr9, hap9, hb9, hfr9⟩
          obtain ⟨A9, k9, rfl, _, _⟩ := ho9.reads
          obtain ⟨xo, xc, xl, xb⟩ := x9
          obtain ⟨⟨c9, y9⟩, hn9⟩ : ∃ r, r = nextW c1 := ⟨_, rfl⟩
          rw [← hn9] at hs9 hc9
          obtain ⟨L9, hL9⟩ : ∃ n, n = xl.length := ⟨_, rfl⟩
          dsimp only at hs9 hc9 ho9 hap9 hfr9 ⊢
          rw [← hL9] at ho9 hap9 hfr9 ⊢
          have hbw : Bytes c1.wait := HQ.out.1.1.2.2.2.2.2.2.2.2.2.1
          have hrow := HQ.out.1.2.2.1
          have hrlt := Kd.R_lt HQ.out.1.2.2
          have H9 := Lib.hid (show EvsAt w w9 g c9 vw9 vl9 v E1 ∧ Own w w9 (.slice A9 L9 k9) xl ∧ (∀ k, some k = (Value.slice A9 L9 k9).ownBlock → ¬ Foot g vw9 vl9 k ∧ some k ≠ v.ownBlock) ∧ nextW c1 = (c9, y9) ∧ StepR y9 ⟨xo, xc, xl, xb⟩ ok ∧ Bytes c1.wait from
            ⟨⟨hc9, hb9, HQ.out.1.2.2.rest hr9⟩, ho9, fun k hk => ⟨fun hF => hap9 k hF hk, fun he => by
              rcases hfr9 k hk with h1 | h1
              · exact hrow k he.symm h1
              · have := hrlt k he.symm; omega⟩, hn9.symm, hs9, hbw⟩)
          clear hs9 ho9 hc9 hr9 hap9 hb9 hfr9 hn9 hL9 hbw hrow hrlt
          obtain ⟨gx, hgx⟩ : ∃ x, x = w9.heap.size := ⟨_, rfl⟩
          obtain ⟨W10, hW10⟩ : ∃ W, W = w9.alloc (.cells #[.int .i64 xo, .int .i64 xc, .slice A9 L9 k9, .bool xb] 51) := ⟨_, rfl⟩
          have hb10 : Below w9.heap.size w9 W10 := by rw [hW10]; exact below_alloc (Below.refl _ _) _
          have HS10 := Lib.hid (show gx = w9.heap.size ∧ W10 = w9.alloc _ from ⟨hgx, hW10⟩)
          have H10 := Lib.hid (show EvsAt w W10 g c9 vw9 vl9 v E1 ∧ Own w W10 (.slice A9 L9 k9) xl ∧ Whole W10 gx 51 #[.int .i64 xo, .int .i64 xc, .slice A9 L9 k9, .bool xb] from ⟨⟨H9.out.1.1.below hb10, below_step H9.out.1.2.1 hb10, H9.out.1.2.2.below hb10⟩, H9.out.2.1.below hb10, by rw [hW10, hgx]; exact Whole.new w9 _ _⟩)
          clear hgx hW10 hb10
          go_upto_region 13 with (fail)
          rw [← HS10.out.1, ← HS10.out.2]
          cases ok with
          | false =>
            have HN := Lib.hid (show nextW c1 = (c9, none) from by
              rcases H9.out.2.2.2.2.1 with ⟨h1, _⟩ | ⟨_, h1, _⟩
              · cases h1
              · rw [← h1]; exact H9.out.2.2.2.1)
            go_wp2
            go_roundw
            case rel => exact ⟨k + 1, c9, vw9, vl9, v, E1, rfl, by go_num, by have := HK.out; omega, Lib.hid ⟨H10.out.1, HQ.out.2.1.stop H9.out.2.2.2.2.2 HN.out, by rw [HQ.out.2.2, drainW_none HN.out, List.nil_append]⟩⟩
            case measure => have := HK.out; simp [intOf]; omega
          | true =>
            have HN := Lib.hid (show nextW c1 = (c9, some ⟨xo, xc, xl, xb⟩) from by
              rcases H9.out.2.2.2.2.1 with ⟨_, h1⟩ | ⟨h1, _⟩
              · rw [← h1]; exact H9.out.2.2.2.1
              · cases h1)
            have y0 := H10.out.2.2.cell 0 _ rfl
            have y1 := H10.out.2.2.cell 1 _ rfl
            have y2 := H10.out.2.2.cell 2 _ rfl
            have y3 := H10.out.2.2.cell 3 _ rfl
            go_wp2_with (at_builtin; refine appe_one (p := ⟨xo, xc, xl, xb⟩) H10.out.1.2.2 H10.out.2.1 H9.out.2.2.1 (fun k hk => H10.out.1.1.outside k hk) H10.out.1.2.1 (by have := HJ.out; omega) rfl rfl rfl rfl ?_)
            intro v11 w11 ho11 hb11 hg11
            have hrow := H10.out.1.2.2.1
            have H11 := Lib.hid (show EvsAt w w11 g c9 vw9 vl9 v11 (E1 ++ [⟨xo, xc, xl, xb⟩]) from ⟨H10.out.1.1.step (fun k hF hlt => hg11.block k hlt (fun he => hrow k he.symm hF)), hb11, ho11⟩)
            have HR2 := Lib.hid (HQ.out.2.1.next H9.out.2.2.2.2.2 HN.out)
            clear ho11 hb11 hg11 hrow y0 y1 y2 y3
            go_wp2
            go_roundw
            case rel => exact ⟨j + 1, c9, vw9, vl9, v11, E1 ++ [⟨xo, xc, xl, xb⟩], rfl, by go_num, by rw [List.length_append]; have := HJ.out; simp; omega, by rw [List.length_append]; exact HR2.out.le, Lib.hid ⟨H11.out, by rw [List.length_append]; exact HR2.out, by rw [HQ.out.2.2, drainW_some H9.out.2.2.2.2.2 HN.out, List.append_assoc]; rfl⟩⟩
            case measure => have := HJ.out; simp [intOf]; omega
    · obtain rfl : k = n := by omega
      have dkn : decide ((k : Int) < k) = false := decide_eq_false (by omega)
      have dkn' : decide (k < k) = false := decide_eq_false (by omega)
      obtain ⟨A8, c8, hv8, hc8, hd8⟩ := HR.out.1.2.2.reads
      have HE := Lib.hid (show S = E from by
        rw [HR.out.2.2, List.drop_of_length_le (by have := HI.out; omega)]
        show E ++ [] = E
        rw [List.append_nil])
      have H8 := Lib.hid (show E.length ≤ c8 ∧ RdE wr A8 E.length E from ⟨hc8, hd8⟩)
      clear hc8 hd8
      go_wp2
      go_ret2
      exact ⟨A8, _, c8, by rw [hv8]; rfl, by rw [HE.out]; exact H8.out.2, H8.out.1, HR.out.1.2.1⟩
end Go.Proofs.YtcfbfmgckaehdaaDoor
