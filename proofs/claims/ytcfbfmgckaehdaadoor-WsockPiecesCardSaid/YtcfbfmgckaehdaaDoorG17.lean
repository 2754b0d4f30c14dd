/- The texts WsDrain, Rows2, WsEvs in one. -/
import Derived.Test.YtcfbfmgckaehdaaDoorG01
import Derived.Test.YtcfbfmgckaehdaaDoorG14
import Derived.Test.YtcfbfmgckaehdaaDoorG16
namespace Go.Proofs.YtcfbfmgckaehdaaDoor
open Go.RowKit Go.Proofs.YtcfbfmgckaehdaaDoorW.PrintWords
theorem rd_app {p q : List Int} {i : Int} (h0 : 0 ≤ i) (h : i < p.length) : rd (p ++ q) i = rd p i := by
  unfold rd
  rw [List.getD_eq_getElem?_getD, List.getD_eq_getElem?_getD, List.getElem?_append_left (by omega)]
theorem drop_take_app {p q : List Int} {t n : Nat} (h : t + n ≤ p.length) : ((p ++ q).drop t).take n = (p.drop t).take n := by
  rw [List.drop_append_of_le_length (by omega), List.take_append_of_le_length (by rw [List.length_drop]; omega)]
theorem lenR_app {p q : List Int} (h : (lenR p).2.2 ≠ 1) (h2 : 2 ≤ p.length) : lenR (p ++ q) = lenR p := by
  have e1 : rd (p ++ q) 1 = rd p 1 := rd_app (by omega) (by omega)
  unfold lenR at h ⊢
  rw [e1]
  split
  · rfl
  · rename_i h1
    rw [if_neg h1] at h
    split
    · rename_i h3
      rw [if_pos h3] at h
      by_cases h4 : p.length < 4
      · rw [if_pos h4] at h; exact absurd rfl h
      · rw [if_neg h4, if_neg (by rw [List.length_append]; omega), drop_take_app (by omega)]
    · rename_i h3
      rw [if_neg h3] at h
      by_cases h4 : p.length < 10
      · rw [if_pos h4] at h; exact absurd rfl h
      · rw [if_neg h4, if_neg (by rw [List.length_append]; omega), drop_take_app (by omega), rd_app (by omega) (by omega)]
theorem bodyR_app {p q : List Int} {mask : Bool} {n t : Nat} (h : (bodyR p mask n t).2.2 ≠ 1) (h2 : 1 ≤ p.length) : bodyR (p ++ q) mask n t = bodyR p mask n t := by
  have e0 : rd (p ++ q) 0 = rd p 0 := rd_app (by omega) (by omega)
  unfold bodyR at h ⊢
  rw [e0]
  cases mask with
  | true =>
    rw [if_pos rfl] at h ⊢
    rw [if_pos rfl]
    by_cases h4 : p.length < t + 4 + n
    · rw [if_pos h4] at h; exact absurd rfl h
    · rw [if_neg h4, if_neg (by rw [List.length_append]; omega), drop_take_app (by omega), drop_take_app (by omega)]
  | false =>
    simp only [Bool.false_eq_true, if_false] at h ⊢
    by_cases h4 : p.length < t + n
    · rw [if_pos h4] at h; exact absurd rfl h
    · rw [if_neg h4, if_neg (by rw [List.length_append]; omega), drop_take_app (by omega)]
/-- More bytes behind change nothing, but where there were too few. -/
theorem rdF_app {p q : List Int} {mask : Bool} (h : (rdF p mask).2.2 ≠ 1) : rdF (p ++ q) mask = rdF p mask := by
  by_cases h0 : p.length = 0
  · unfold rdF at h; rw [if_pos h0] at h; exact absurd rfl h
  have e0 : rd (p ++ q) 0 = rd p 0 := rd_app (by omega) (by omega)
  unfold rdF at h ⊢
  rw [if_neg h0] at h
  rw [if_neg h0, if_neg (by rw [List.length_append]; omega), e0]
  split
  · rfl
  · rename_i h1
    rw [if_neg h1] at h
    by_cases h2 : p.length = 1
    · rw [if_pos h2] at h; exact absurd rfl h
    have e1 : rd (p ++ q) 1 = rd p 1 := rd_app (by omega) (by omega)
    rw [if_neg h2] at h
    rw [if_neg h2, if_neg (by rw [List.length_append]; omega), e1]
    split
    · rfl
    · rename_i h3
      rw [if_neg h3] at h
      by_cases h4 : (lenR p).2.2 ≠ 0
      · rw [if_pos h4] at h
        rw [lenR_app h (by omega), if_pos h4, if_pos h4]
      · rw [if_neg h4] at h
        rw [lenR_app (by have h5 : (lenR p).2.2 = 0 := Decidable.not_not.mp h4; rw [h5]; decide) (by omega), if_neg h4, if_neg h4]
        exact bodyR_app h (by omega)
/-- What waits grows. -/
def addW (c : Cn) (q : List Int) : Cn := { c with wait := c.wait ++ q }
theorem partV_addW (c : Cn) (f : Frm) (q : List Int) :
    partV (addW c q) f = (match partV c f with | (c', some x) => (if c'.over = c.over then addW c' q else c', some x) | (c', none) => (addW c' q, none)) ∨ c.over = true := by
  cases hov : c.over with
  | true => exact .inr rfl
  | false =>
    refine .inl ?_
    unfold partV
    have e1 : (addW c q).op = c.op := rfl
    have e2 : (addW c q).load = c.load := rfl
    have e3 : joinOp (addW c q) f = joinOp c f := rfl
    rw [e1, e2, e3]
    split
    · show (failC c, some (failE 1002)) = (if true = false then addW (failC c) q else failC c, some (failE 1002))
      rw [if_neg (by decide)]
    · split
      · show _ = (if true = false then addW (failC _) q else failC _, some (failE 1009))
        rw [if_neg (by decide)]
        rfl
      · split
        · rfl
        · split
          · show _ = (if true = false then addW (failC _) q else failC _, some (failE 1007))
            rw [if_neg (by decide)]
            rfl
          · show _ = (if c.over = false then addW _ q else _, some _)
            rw [if_pos hov]
            rfl
theorem partV_over {c : Cn} {f : Frm} (h : (partV c f).1.over = false) : (partV c f).1.wait = c.wait := by
  unfold partV at h ⊢
  split
  · rename_i h1; rw [if_pos h1] at h; cases h
  · rename_i h1
    rw [if_neg h1] at h
    split
    · rename_i h2; rw [if_pos h2] at h; cases h
    · rename_i h2
      rw [if_neg h2] at h
      split
      · rfl
      · rename_i h3
        rw [if_neg h3] at h
        split
        · rename_i h4; rw [if_pos h4] at h; cases h
        · rfl
theorem partV_wait0 {c : Cn} {f : Frm} (hov : c.over = false) (h : (partV c f).1.over = true) : (partV c f).1.wait = [] := by
  unfold partV at h ⊢
  split
  · rfl
  · rename_i h1
    rw [if_neg h1] at h
    split
    · rfl
    · rename_i h2
      rw [if_neg h2] at h
      split
      · rename_i h3; rw [if_pos h3] at h; have h : c.over = true := h; rw [hov] at h; cases h
      · rename_i h3
        rw [if_neg h3] at h
        split
        · rfl
        · rename_i h4; rw [if_neg h4] at h; have h : c.over = true := h; rw [hov] at h; cases h
/-- What more bytes behind do to what comes next. -/
theorem nextW_app : ∀ n (c : Cn) (q : List Int), c.wait.length < n → Bytes c.wait → Bytes q → c.over = false → ∀ c' y, nextW c = (c', y) →
    (∃ x, y = some x ∧ c'.over = false ∧ c'.wait.length + 2 ≤ c.wait.length ∧ nextW (addW c q) = (addW c' q, some x)) ∨ (∃ x, y = some x ∧ c'.over = true ∧ c'.wait = [] ∧ nextW (addW c q) = (c', some x)) ∨ (y = none ∧ c'.over = false ∧ c'.wait.length ≤ c.wait.length ∧ nextW c' = (c', none) ∧ nextW (addW c q) = nextW (addW c' q))
  | 0, _, _, h, _, _, _, _, _, _ => absurd h (Nat.not_lt_zero _)
  | n + 1, c, q, hn, hb, hq, hov, c', y, he => by
    obtain ⟨⟨f, k, why⟩, hr⟩ : ∃ r, rdF c.wait c.mask = r := ⟨_, rfl⟩
    by_cases h1 : why = 1
    · subst h1
      have h2 := nextW_more hov hr
      rw [h2] at he
      injection he with e1 e2
      subst e1 e2
      exact .inr (.inr ⟨rfl, hov, Nat.le_refl _, h2, rfl⟩)
    have hra : rdF (addW c q).wait (addW c q).mask = (f, k, why) := (rdF_app (p := c.wait) (q := q) (mask := c.mask) (by rw [hr]; exact h1)).trans hr
    by_cases h0 : why = 0
    · subst h0
      obtain ⟨hk, ⟨K, rfl, hK2, hKl⟩, hfb, hfl⟩ := rdF_good hr hb
      have hcut : ({ addW c q with wait := (addW c q).wait.drop K } : Cn) = addW { c with wait := c.wait.drop K } q := by
        show (⟨c.mask, c.over, (c.wait ++ q).drop K, c.op, c.load⟩ : Cn) = ⟨c.mask, c.over, c.wait.drop K ++ q, c.op, c.load⟩
        rw [List.drop_append_of_le_length hKl]
      have hdl : (c.wait.drop K).length + K = c.wait.length := by rw [List.length_drop]; omega
      by_cases h8 : f.op = 8
      · rw [nextW_close hov hr h8] at he
        injection he with e1 e2
        subst e1 e2
        exact .inr (.inl ⟨_, rfl, rfl, rfl, by rw [nextW_close (c := addW c q) hov hra h8, hcut]; rfl⟩)
      · by_cases h9 : f.op = 9 ∨ f.op = 10
        · rw [nextW_ping hov hr h9] at he
          injection he with e1 e2
          subst e1 e2
          exact .inl ⟨_, rfl, hov, by show (c.wait.drop K).length + 2 ≤ c.wait.length; omega, by rw [nextW_ping (c := addW c q) hov hra h9, hcut]⟩
        · obtain ⟨⟨c1, y1⟩, hp⟩ : ∃ r, partV { c with wait := c.wait.drop K } f = r := ⟨_, rfl⟩
          have hpa := (partV_addW { c with wait := c.wait.drop K } f q).resolve_right (by show ¬ c.over = true; rw [hov]; decide)
          rw [hp] at hpa
          cases y1 with
          | some x =>
            rw [nextW_part hov hr h8 h9 hp] at he
            injection he with e1 e2
            subst e1 e2
            have h2 := nextW_part (c := addW c q) hov hra h8 h9 (c' := if c1.over = c.over then addW c1 q else c1) (x := x) (by rw [hcut]; exact hpa)
            cases hv : c1.over with
            | false =>
              rw [if_pos (by rw [hv, hov])] at h2
              have hw := partV_over (c := { c with wait := c.wait.drop K }) (f := f) (by rw [hp]; exact hv)
              rw [hp] at hw
              exact .inl ⟨x, rfl, rfl, by rw [show c1.wait = c.wait.drop K from hw]; omega, h2⟩
            | true =>
              rw [if_neg (by rw [hv, hov]; decide)] at h2
              have h3 := partV_wait0 (c := { c with wait := c.wait.drop K }) (f := f) hov (by rw [hp]; exact hv)
              rw [hp] at h3
              exact .inr (.inl ⟨x, rfl, rfl, h3, h2⟩)
          | none =>
            have hw := partV_wait hp
            have hw1 : c1.wait = c.wait.drop K := hw.1
            rw [nextW_step hov hr hb h8 h9 hp] at he
            have h2 := nextW_step (c := addW c q) hov hra (Bytes.app hb hq) h8 h9 (c' := addW c1 q) (by rw [hcut]; exact hpa)
            rcases nextW_app n c1 q (by rw [hw1]; omega) (by rw [hw1]; exact hb.dp K) hq (hw.2.2.trans hov) c' y he with ⟨x, e1, e2, e3, e4⟩ | ⟨x, e1, e2, e3, e4⟩ | ⟨e1, e2, e3, e4, e5⟩
            · exact .inl ⟨x, e1, e2, by rw [hw1] at e3; omega, h2.trans e4⟩
            · exact .inr (.inl ⟨x, e1, e2, e3, h2.trans e4⟩)
            · exact .inr (.inr ⟨e1, e2, by rw [hw1] at e3; omega, e4, h2.trans e5⟩)
    · rw [nextW_why hov hr h1 h0] at he
      injection he with e1 e2
      subst e1 e2
      exact .inr (.inl ⟨_, rfl, rfl, rfl, nextW_why (c := addW c q) hov hra h1 h0⟩)
theorem nextW_bytes {c : Cn} (hb : Bytes c.wait) : Bytes (nextW c).1.wait := by
  have key : ∀ n (c : Cn), Bytes c.wait → Bytes (nextV n c).1.wait := by
    intro n
    induction n with
    | zero => exact fun c h => h
    | succ n ih =>
      intro c h
      unfold nextV
      split
      · exact h
      · split
        · exact h
        · split
          · exact Bytes.nil
          · split
            · exact Bytes.nil
            · split
              · exact h.dp _
              · split
                · rename_i c' x hp
                  have h1 : Bytes (partV { c with wait := c.wait.drop (rdF c.wait c.mask).2.1.toNat } (rdF c.wait c.mask).1).1.wait := by
                    unfold partV
                    split
                    · exact Bytes.nil
                    · split
                      · exact Bytes.nil
                      · split
                        · exact h.dp _
                        · split
                          · exact Bytes.nil
                          · exact h.dp _
                  rw [hp] at h1
                  exact h1
                · rename_i c' hp
                  exact ih c' (by rw [(partV_wait hp).1]; exact h.dp _)
  exact key _ c hb
/-- How far an end is from having told all. -/
def meas (c : Cn) : Nat := if c.over = true then 0 else c.wait.length + 1
def drainV : Nat → Cn → List Evt × Cn
  | 0, c => ([], c)
  | n + 1, c => match nextW c with
    | (c', none) => ([], c')
    | (c', some x) => (x :: (drainV n c').1, (drainV n c').2)
/-- All that is told, and what then is. -/
def drainW (c : Cn) : List Evt × Cn := drainV (meas c + 1) c
theorem meas_open {c : Cn} (h : c.over = false) : meas c = c.wait.length + 1 := by unfold meas; rw [if_neg (by rw [h]; decide)]
theorem meas_over {c : Cn} (h : c.over = true) : meas c = 0 := by unfold meas; rw [if_pos h]
theorem nextW_open {c c' : Cn} {x : Evt} (h : nextW c = (c', some x)) : c.over = false := by
  cases hv : c.over with
  | false => rfl
  | true => rw [nextW_over hv] at h; injection h with _ h; cases h
theorem meas_some {c c' : Cn} {x : Evt} (hb : Bytes c.wait) (h : nextW c = (c', some x)) : meas c' < meas c := by
  have hov := nextW_open h
  rw [meas_open hov]
  rcases nextW_app _ c [] (Nat.lt_succ_self _) hb Bytes.nil hov c' _ h with ⟨_, _, e2, e3, _⟩ | ⟨_, _, e2, _⟩ | ⟨e1, _⟩
  · rw [meas_open e2]; omega
  · rw [meas_over e2]; omega
  · cases e1
theorem drainV_fuel : ∀ n m (c : Cn), Bytes c.wait → meas c < n → meas c < m → drainV n c = drainV m c
  | 0, _, _, _, h, _ => absurd h (Nat.not_lt_zero _)
  | _, 0, _, _, _, h => absurd h (Nat.not_lt_zero _)
  | n + 1, m + 1, c, hb, hn, hm => by
    unfold drainV
    have hb' := nextW_bytes hb
    cases hx : nextW c with
    | mk c' y =>
      rw [hx] at hb'
      cases y with
      | none => rfl
      | some x =>
        have hlt := meas_some hb hx
        show (x :: (drainV n c').1, (drainV n c').2) = (x :: (drainV m c').1, (drainV m c').2)
        rw [drainV_fuel n m c' hb' (by omega) (by omega)]
theorem drainW_none {c c' : Cn} (h : nextW c = (c', none)) : drainW c = ([], c') := by
  unfold drainW drainV
  rw [h]
theorem drainV_some (n : Nat) {c c' : Cn} {x : Evt} (h : nextW c = (c', some x)) : drainV (n + 1) c = (x :: (drainV n c').1, (drainV n c').2) := by
  show (match nextW c with | (c', none) => (([] : List Evt), c') | (c', some x) => (x :: (drainV n c').1, (drainV n c').2)) = _
  rw [h]
theorem drainW_some {c c' : Cn} {x : Evt} (hb : Bytes c.wait) (h : nextW c = (c', some x)) : drainW c = (x :: (drainW c').1, (drainW c').2) := by
  have hlt := meas_some hb h
  have hb' := nextW_bytes hb
  rw [h] at hb'
  have e : drainV (meas c) c' = drainW c' := drainV_fuel _ _ c' hb' hlt (Nat.lt_succ_self _)
  show drainV (meas c + 1) c = _
  rw [drainV_some _ h, e]
theorem drainW_over {c : Cn} (h : c.over = true) : drainW c = ([], c) := drainW_none (nextW_over h)
/-- What is left when all has been told tells nothing. -/
theorem drainW_end : ∀ n (c : Cn), meas c < n → Bytes c.wait → Bytes (drainW c).2.wait ∧ (drainW c).2.wait.length ≤ c.wait.length ∧ ((drainW c).2.over = false → nextW (drainW c).2 = ((drainW c).2, none))
  | 0, _, h, _ => absurd h (Nat.not_lt_zero _)
  | n + 1, c, hn, hb => by
    have hb' := nextW_bytes hb
    obtain ⟨⟨c', y⟩, hx⟩ : ∃ r, nextW c = r := ⟨_, rfl⟩
    rw [hx] at hb'
    cases hov : c.over with
    | true => rw [drainW_over hov]; exact ⟨hb, Nat.le_refl _, fun h => by rw [hov] at h; cases h⟩
    | false =>
      cases y with
      | none =>
        rw [drainW_none hx]
        rcases nextW_app _ c [] (Nat.lt_succ_self _) hb Bytes.nil hov c' _ hx with ⟨_, e1, _⟩ | ⟨_, e1, _⟩ | ⟨_, _, e3, e4, _⟩
        · cases e1
        · cases e1
        · exact ⟨hb', e3, fun _ => e4⟩
      | some x =>
        have hlt := meas_some hb hx
        rw [drainW_some hb hx]
        have h2 := drainW_end n c' (by omega) hb'
        refine ⟨h2.1, Nat.le_trans h2.2.1 ?_, h2.2.2⟩
        rcases nextW_app _ c [] (Nat.lt_succ_self _) hb Bytes.nil hov c' _ hx with ⟨_, _, _, e3, _⟩ | ⟨_, _, _, e3, _⟩ | ⟨e1, _⟩
        · omega
        · rw [e3]; exact Nat.zero_le _
        · cases e1
theorem drainW_congr {a b : Cn} (h : nextW a = nextW b) (ha : Bytes a.wait) (hb : Bytes b.wait) : drainW a = drainW b := by
  obtain ⟨⟨c', y⟩, hx⟩ : ∃ r, nextW b = r := ⟨_, rfl⟩
  cases y with
  | none => rw [drainW_none hx, drainW_none (h.trans hx)]
  | some x => rw [drainW_some hb hx, drainW_some ha (h.trans hx)]
/-- More bytes behind: what was told is told first. -/
theorem drainW_app (q : List Int) (hq : Bytes q) : ∀ n (c : Cn), meas c < n → Bytes c.wait → c.over = false →
    drainW (addW c q) = if (drainW c).2.over = true then drainW c else ((drainW c).1 ++ (drainW (addW (drainW c).2 q)).1, (drainW (addW (drainW c).2 q)).2)
  | 0, _, h, _, _ => absurd h (Nat.not_lt_zero _)
  | n + 1, c, hn, hb, hov => by
    have hb' := nextW_bytes hb
    obtain ⟨⟨c', y⟩, hx⟩ : ∃ r, nextW c = r := ⟨_, rfl⟩
    rw [hx] at hb'
    rcases nextW_app _ c q (Nat.lt_succ_self _) hb hq hov c' y hx with ⟨x, rfl, e2, _, e4⟩ | ⟨x, rfl, e2, _, e3⟩ | ⟨rfl, e2, _, e4, e5⟩
    · have hlt := meas_some hb hx
      rw [drainW_some hb hx, drainW_some (c := addW c q) (Bytes.app hb hq) e4, drainW_app q hq n c' (by omega) hb' e2]
      by_cases hv : (drainW c').2.over = true
      · rw [if_pos hv, if_pos hv]
      · rw [if_neg hv, if_neg hv]; rfl
    · rw [drainW_some hb hx, drainW_some (c := addW c q) (Bytes.app hb hq) e3, drainW_over e2, if_pos e2]
    · rw [drainW_none hx]
      rw [if_neg (by show ¬ c'.over = true; rw [e2]; decide)]
      show drainW (addW c q) = ([] ++ (drainW (addW c' q)).1, (drainW (addW c' q)).2)
      rw [drainW_congr e5 (Bytes.app hb hq) (Bytes.app hb' hq), List.nil_append]
/-- What comes of pieces, one after the other, as long as it is not over. -/
def evsV : List (List Int) → Cn → List Evt × Cn
  | [], c => ([], c)
  | b :: bs, c => if c.over = true then ([], c) else ((drainW (addW c b)).1 ++ (evsV bs (drainW (addW c b)).2).1, (evsV bs (drainW (addW c b)).2).2)
theorem addW_nil (c : Cn) : addW c [] = c := by
  show (⟨c.mask, c.over, c.wait ++ [], c.op, c.load⟩ : Cn) = c
  rw [List.append_nil]
theorem addW_add (c : Cn) (a b : List Int) : addW (addW c a) b = addW c (a ++ b) := by
  show (⟨c.mask, c.over, c.wait ++ a ++ b, c.op, c.load⟩ : Cn) = ⟨c.mask, c.over, c.wait ++ (a ++ b), c.op, c.load⟩
  rw [List.append_assoc]
/-- In whichever pieces: the same. -/
theorem evsV_flat : ∀ (bs : List (List Int)) (c : Cn), (∀ b ∈ bs, Bytes b) → Bytes c.wait → c.over = false → nextW c = (c, none) → evsV bs c = drainW (addW c bs.flatten)
  | [], c, _, _, _, hn => by rw [List.flatten_nil, addW_nil, drainW_none hn]; rfl
  | b :: bs, c, hbs, hb, hov, hn => by
    have h1 := drainW_end _ (addW c b) (Nat.lt_succ_self _) (Bytes.app hb (hbs b (List.mem_cons_self ..)))
    have h2 : Bytes bs.flatten := fun x hx => by
      obtain ⟨l, hl, hxl⟩ := List.mem_flatten.1 hx
      exact hbs l (List.mem_cons_of_mem _ hl) x hxl
    have h3 := drainW_app bs.flatten h2 _ (addW c b) (Nat.lt_succ_self _) (Bytes.app hb (hbs b (List.mem_cons_self ..))) hov
    rw [List.flatten_cons, ← addW_add, h3]
    show (if c.over = true then _ else _) = _
    rw [if_neg (by rw [hov]; decide)]
    by_cases hv : (drainW (addW c b)).2.over = true
    · rw [if_pos hv]
      have e : evsV bs (drainW (addW c b)).2 = ([], (drainW (addW c b)).2) := by
        cases bs with
        | nil => rfl
        | cons b' bs' => show (if (drainW (addW c b)).2.over = true then _ else _) = _; rw [if_pos hv]
      rw [e, List.append_nil]
    · have hv' : (drainW (addW c b)).2.over = false := by
        cases h : (drainW (addW c b)).2.over with
        | true => exact absurd h hv
        | false => rfl
      rw [if_neg hv, evsV_flat bs _ (fun x hx => hbs x (List.mem_cons_of_mem _ hx)) h1.1 hv' (h1.2.2 hv')]
end Go.Proofs.YtcfbfmgckaehdaaDoor
namespace Go.Proofs.YtcfbfmgckaehdaaDoor
open Go.RowKit Go.Proofs.YtcfbfmgckaehdaaDoorW.PrintWords
theorem info_bytes : (Tryd.prog.info? 22).map (fun i => (i.zero, i.size, i.bytes)) = some (some (.slice none 0 0), 1, 24) := by kernel_rfl
abbrev OwnL (w0 w : World) (v : Value) (ls : List (List Int)) : Prop := Kd.S (Kd.slice 5 (Kd.int .u8)) 22 w w0.heap.size (fun _ => True) v ls
abbrev RdL (w : World) (A : Option Addr) (n : Nat) (ls : List (List Int)) : Prop := Kd.C (Kd.slice 5 (Kd.int .u8)) w A n ls
theorem OwnL.cast {w0 w : World} {v : Value} {l m : List (List Int)} (h : OwnL w0 w v l) (he : l = m) : OwnL w0 w v m := he ▸ h
theorem OwnL.nil (w0 w : World) : OwnL w0 w (.slice none 0 0) [] := Kd.S_nil _ _ _ _ _
theorem OwnL.reads {w0 w : World} {v : Value} {ls : List (List Int)} (h : OwnL w0 w v ls) : ∃ A c, v = .slice A ls.length c ∧ ls.length ≤ c ∧ RdL w A ls.length ls := Kd.S_reads h
theorem OwnL.below {w0 w w1 : World} {v : Value} {l : List (List Int)} (h : OwnL w0 w v l) (hb : Below w.heap.size w w1) : OwnL w0 w1 v l := Kd.S_below h hb
theorem OwnL.lower {w0 w1 w : World} {v : Value} {l : List (List Int)} (h : OwnL w1 w v l) (hs : w0.heap.size ≤ w1.heap.size) : OwnL w0 w v l := Kd.S_lower h hs
/-- A row of such a row, read. -/
theorem RdL.at {w : World} {A : Option Addr} {n : Nat} {ls : List (List Int)} (h : RdL w A n ls) (i : Nat) (hi : i < n) : ∃ ad Ai ci, A = some ad ∧ w.cell? (ad.add i) = some (.slice Ai (ls.getD i []).length ci) ∧ (ls.getD i []).length ≤ ci ∧ Rd w Ai (ls.getD i []).length (ls.getD i []) := by
  obtain ⟨ad, c, e, hcl, ⟨Ai, ci, rfl, hle, hr⟩, hc⟩ := ReadsRow.get_ h [] (i : Int) (by omega) (by omega)
  simp only [Int.toNat_natCast] at hle hr hc
  refine ⟨ad, Ai, ci, e, ?_, hle, hr⟩
  have := hc 0 _ rfl
  rwa [show i * (Kd.slice 5 (Kd.int .u8)).sz + 0 = i from Nat.mul_one i] at this
section
variable {ops : Array Oper} {rest : List Oper} {o : Oper} {a : Act} {Q : Exit → Act → World → Prop} {w0 w1 W : World} {s x : Operand} {v pv : Value} {ls : List (List Int)} {p : List Int}
end
end Go.Proofs.YtcfbfmgckaehdaaDoor
namespace Go.Proofs.YtcfbfmgckaehdaaDoor
open Go.RowKit Go.Proofs.YtcfbfmgckaehdaaDoorW.PrintWords
def Evt.none : Evt := ⟨0, 0, [], false⟩
def evK : Kd Evt := Kd.iso (Kd.pair (Kd.int .i64) (Kd.pair (Kd.int .i64) (Kd.pair (Kd.slice 5 (Kd.int .u8)) Kd.bool))) (fun x : Evt => (x.op, x.code, x.load, x.bad))
abbrev RdE (w : World) (A : Option Addr) (n : Nat) (L : List Evt) : Prop := Kd.C evK w A n L
/-- A row of events of one's own, none of it where an end lies. -/
def OwnE (w0 w : World) (g : Nat) (vw vl v : Value) (L : List Evt) : Prop := Kd.R evK 51 w w0.heap.size (fun k => ¬ Foot g vw vl k) v L
theorem OwnE.nil (w0 w : World) (g : Nat) (vw vl : Value) : OwnE w0 w g vw vl (.slice none 0 0) [] := Kd.R_nil _ _ _ _ _
theorem OwnE.rest {w0 w w1 : World} {g : Nat} {vw vl vw1 vl1 v : Value} {L : List Evt} (h : OwnE w0 w g vw vl v L) (hr : Rest w w1 (Foot g vw vl) (Foot g vw1 vl1)) : OwnE w0 w1 g vw1 vl1 v L :=
  Kd.R_mono (Kd.R_step (Kd.R_bound h) (fun k hk hlt => hr.2.1 k hlt hk.1)) (fun k hk hF => by
    rcases hr.2.2 k hF with h1 | h1
    · exact hk.1 h1
    · have := hk.2.2.1; omega)
theorem OwnE.below {w0 w w1 : World} {g : Nat} {vw vl v : Value} {L : List Evt} (h : OwnE w0 w g vw vl v L) (hb : Below w.heap.size w w1) : OwnE w0 w1 g vw vl v L := Kd.R_below h hb
theorem OwnE.lower {w0 w00 w : World} {g : Nat} {vw vl v : Value} {L : List Evt} (h : OwnE w0 w g vw vl v L) (hs : w00.heap.size ≤ w0.heap.size) : OwnE w00 w g vw vl v L := Kd.R_lower h hs
theorem OwnE.reads {w0 w : World} {g : Nat} {vw vl v : Value} {L : List Evt} (h : OwnE w0 w g vw vl v L) : ∃ A c, v = .slice A L.length c ∧ L.length ≤ c ∧ RdE w A L.length L := Kd.R_reads h
theorem RdE.at {w : World} {A : Option Addr} {n : Nat} {L : List Evt} (h : RdE w A n L) (i : Nat) (hi : i < n) : ∃ ad Ai ci, A = some ad ∧ w.cell? (ad.add (i * 4)) = some (.int .i64 (L.getD i Evt.none).op) ∧
    w.cell? ⟨(ad.add (i * 4)).block, (ad.add (i * 4)).off + 1, none⟩ = some (.int .i64 (L.getD i Evt.none).code) ∧ w.cell? ⟨(ad.add (i * 4)).block, (ad.add (i * 4)).off + 2, none⟩ = some (.slice Ai (L.getD i Evt.none).load.length ci) ∧
    w.cell? ⟨(ad.add (i * 4)).block, (ad.add (i * 4)).off + 3, none⟩ = some (.bool (L.getD i Evt.none).bad) ∧ (L.getD i Evt.none).load.length ≤ ci ∧ Rd w Ai (L.getD i Evt.none).load.length (L.getD i Evt.none).load := by
  obtain ⟨ad, c, e, _, hK, hc0⟩ := Kd.C_get h Evt.none (i : Int) (by omega) (by omega)
  simp only [Int.toNat_natCast] at hK hc0
  have hc : ∀ j u, c[j]? = some u → w.cell? (ad.add (i * 4 + j)) = some u := hc0
  obtain ⟨_, _, rfl, rfl, ⟨_, _, rfl, rfl, ⟨_, _, rfl, ⟨Ai, ci, rfl, l1, g1⟩, rfl⟩⟩⟩ := hK
  exact ⟨ad, Ai, ci, e, hc 0 _ rfl, by rw [← add_field _ _ 1 (by omega)]; exact hc 1 _ rfl, by rw [← add_field _ _ 2 (by omega)]; exact hc 2 _ rfl, by rw [← add_field _ _ 3 (by omega)]; exact hc 3 _ rfl, l1, g1⟩
theorem info_evt : (Tryd.prog.info? 51).map (fun i => (i.zero, i.size, i.bytes)) = some (some (.agg #[.int .i64 0, .int .i64 0, .slice none 0 0, .bool false]), 4, 48) := by kernel_rfl
section
variable {ops : Array Oper} {rest : List Oper} {o : Oper} {a : Act} {Q : Exit → Act → World → Prop} {w0 W : World} {s x : Operand} {g : Nat} {vw vl v pv : Value} {L : List Evt} {p : Evt}
theorem appe_one (hO : OwnE w0 W g vw vl v L) (hp : Own w0 W pv p.load) (hap : ∀ k, some k = pv.ownBlock → ¬ Foot g vw vl k ∧ some k ≠ v.ownBlock) (hfr : ∀ k, W.heap.size ≤ k → ¬ Foot g vw vl k) (hB : Below w0.heap.size w0 W) (hL : L.length ≤ 100000)
    (hgd : o.guard = none) (hop : o.op = .call { callee := .builtin .append, args := #[s, x], argTypes := #[46, 46] }) (hv : a.eval s = v) (hx : a.eval x = .slice (some ⟨W.heap.size, 0, none⟩) 1 1)
    (K : ∀ v1 w1, OwnE w0 w1 g vw vl v1 (L ++ [p]) → Below w0.heap.size w0 w1 → W.grownBy w1 v.ownBlock → wpList Tryd.prog ops Q rest (a.put o.dst v1) w1) : wpList Tryd.prog ops Q (o :: rest) a (W.alloc (.cells #[.int .i64 p.op, .int .i64 p.code, pv, .bool p.bad] 51)) := by
  have hM : evK.M W w0.heap.size (fun k => some k = pv.ownBlock) p [.int .i64 p.op, .int .i64 p.code, pv, .bool p.bad] :=
    ⟨[.int .i64 p.op], [.int .i64 p.code, pv, .bool p.bad], rfl, rfl, [.int .i64 p.code], [pv, .bool p.bad], rfl, rfl, [pv], [.bool p.bad], rfl, ⟨pv, rfl, Kd.R_tight rfl hp⟩, rfl⟩
  exact Kd.R_append evK (w0 := w0) w0.heap.size hgd s x 46 51 (.agg #[.int .i64 0, .int .i64 0, .slice none 0 0, .bool false]) 48 hop Tryd.underlying46 info_evt rfl (by decide) (by omega) v L p [.int .i64 p.op, .int .i64 p.code, pv, .bool p.bad] (fun k => ¬ Foot g vw vl k) (fun k => some k = pv.ownBlock) hv hx hM hap hfr hO hB hB.size (by omega) (fun v1 w1 h1 h2 h3 _ => K v1 w1 h1 h2 h3)
end
set_option maxRecDepth 20000 in
set_option maxHeartbeats 3200000 in
theorem EqualFuncE_true {n : Nat} (A0 : Option Addr) (c0 : Nat) (A1 : Option Addr) (c1 : Nat) (L : List Evt) (w : World) (hr0 : RdE w A0 n L) (hr1 : RdE w A1 n L) :
    Calls Tryd.prog 36 #[.slice A0 n c0, .slice A1 n c1, .func (.func 27) #[] #[]] w fun e w' => e = .returned (.bool true) ∧ Below w.heap.size w w' := by
  have HI := Lib.hid (show RdE w A0 n L ∧ RdE w A1 n L ∧ L.length = n ∧ n ≤ 9223372036854775807 from ⟨hr0, hr1, Kd.C_len hr0, Kd.C_max hr0⟩)
  clear hr0 hr1
  go_enter Tryd.func36, Tryd.ntmps36
  go_wp2
  go_loopw [17] (fun i wr => ∃ k : Nat, k ≤ n ∧ i = .int .i64 k ∧ Hid (Below w.heap.size w wr)) (fun i _ => n - (intOf i).toNat)
  case atStart => exact ⟨0, by omega, rfl, Lib.hid (Below.refl _ _)⟩
  case round =>
    obtain ⟨k, hk, rfl, HD⟩ := hrel
    by_cases hkn : k < n
    · have dkn : decide ((k : Int) < n) = true := decide_eq_true (by omega)
      have hmx := HI.out.2.2.2
      have wk : IntKind.i64.wrap ((k : Int) + 1) = k + 1 := wrap_id (by omega) (by omega)
      have ikn : (k : Int) < n := by omega
      have i0 : (0 : Int) ≤ k := by omega
      obtain ⟨ad, Ai, ci, rfl, x0, x1, x2, x3, hci, hrd⟩ := RdE.at (Kd.C_below HI.out.1 HD.out) k hkn
      obtain ⟨bd, Bi, di, rfl, y0, y1, y2, y3, hdi, hsd⟩ := RdE.at (Kd.C_below HI.out.2.1 HD.out) k hkn
      obtain ⟨sc, hsc⟩ : ∃ sc, sc = L.getD k Evt.none := ⟨_, rfl⟩
      rw [← hsc] at x0 x1 x2 x3 hci hrd y0 y1 y2 y3 hdi hsd
      obtain ⟨so, sd, sk, sb⟩ := sc
      simp only at x0 x1 x2 x3 hci hrd y0 y1 y2 y3 hdi hsd
      obtain ⟨nk, hnk⟩ : ∃ nk, nk = sk.length := ⟨_, rfl⟩
      rw [← hnk] at x2 hci hrd y2 hdi hsd
      obtain ⟨g7, hg7⟩ : ∃ g, g = wr.heap.size := ⟨_, rfl⟩
      obtain ⟨W7, hW7⟩ : ∃ W, W = wr.alloc (.cells #[.int .i64 so, .int .i64 sd, .slice Ai nk ci, .bool sb] 51) := ⟨_, rfl⟩
      obtain ⟨g8, hg8⟩ : ∃ g, g = W7.heap.size := ⟨_, rfl⟩
      obtain ⟨W8, hW8⟩ : ∃ W, W = W7.alloc (.cells #[.int .i64 so, .int .i64 sd, .slice Bi nk di, .bool sb] 51) := ⟨_, rfl⟩
      have hb7 : Below wr.heap.size wr W7 := by rw [hW7]; exact below_alloc (Below.refl _ _) _
      have hb8 : Below W7.heap.size W7 W8 := by rw [hW8]; exact below_alloc (Below.refl _ _) _
      have hw7 : Whole W7 g7 51 #[.int .i64 so, .int .i64 sd, .slice Ai nk ci, .bool sb] := by rw [hW7, hg7]; exact Whole.new wr _ _
      have hw8 : Whole W8 g8 51 #[.int .i64 so, .int .i64 sd, .slice Bi nk di, .bool sb] := by rw [hW8, hg8]; exact Whole.new W7 _ _
      have z0 := pw_cell_below hb7 y0
      have z1 := pw_cell_below hb7 y1
      have z2 := pw_cell_below hb7 y2
      have z3 := pw_cell_below hb7 y3
      have HS := Lib.hid (show g7 = wr.heap.size ∧ W7 = wr.alloc _ ∧ g8 = W7.heap.size ∧ W8 = W7.alloc _ from ⟨hg7, hW7, hg8, hW8⟩)
      have HK := Lib.hid (show Below w.heap.size w W8 ∧ Whole W8 g7 51 #[.int .i64 so, .int .i64 sd, .slice Ai nk ci, .bool sb] ∧ Whole W8 g8 51 #[.int .i64 so, .int .i64 sd, .slice Bi nk di, .bool sb] ∧ Rd W8 Ai nk sk ∧ Rd W8 Bi nk sk ∧ k < n from
        ⟨below_step HD.out (below_step hb7 hb8), hw7.below hb8 hw7.lt, hw8, Kd.C_below hrd (below_step hb7 hb8), Kd.C_below hsd (below_step hb7 hb8), hkn⟩)
      clear hmx hci hrd hdi hsd hsc hnk hg7 hW7 hg8 hW8 hb7 hb8 hw7 hw8 y0 y1 y2 y3 hkn
      go_upto_region 6 with (fail)
      rw [← HS.out.1, ← HS.out.2.1]
      clear x0 x1 x2 x3
      go_upto_region 7 with (fail)
      rw [← HS.out.2.2.1, ← HS.out.2.2.2]
      clear z0 z1 z2 z3
      have v0 := HK.out.2.1.cell 0 _ rfl
      have v1 := HK.out.2.1.cell 1 _ rfl
      have v2 := HK.out.2.1.cell 2 _ rfl
      have v3 := HK.out.2.1.cell 3 _ rfl
      have u0 := HK.out.2.2.1.cell 0 _ rfl
      have u1 := HK.out.2.2.1.cell 1 _ rfl
      have u2 := HK.out.2.2.1.cell 2 _ rfl
      have u3 := HK.out.2.2.1.cell 3 _ rfl
      go_wp2_with fail
      refine (SameEvent_true so sd Ai ci sk Bi di sb W8 HK.out.2.2.2.1 HK.out.2.2.2.2.1).mono ?_
      rintro e w9 ⟨rfl, hb9⟩
      have HB9 := Lib.hid (below_step HK.out.1 hb9)
      clear hb9
      go_wp2
      go_roundw
      case rel => exact ⟨k + 1, by have := HK.out; omega, by go_num, HB9⟩
      case measure => have := HK.out; simp [intOf]; omega
    · obtain rfl : k = n := by omega
      have dkn : decide ((k : Int) < k) = false := decide_eq_false (by omega)
      go_wp2
      go_ret
      exact ⟨rfl, HD.out⟩
end Go.Proofs.YtcfbfmgckaehdaaDoor
