/- The texts WsBoundLaw in one. -/
import Derived.Test.YtcfbfmgckaehdaaDoorG14
namespace Go.Proofs.YtcfbfmgckaehdaaDoor
open Go.RowKit Go.Proofs.YtcfbfmgckaehdaaDoorW.PrintWords
/-- What an event is like that is told where an end then is c. -/
def EvtOk (c : Cn) (x : Evt) : Prop := (x.load.length ≤ 16384 ∧ Bytes x.load) ∧ (x.op = 1 → x.bad = false → ¬ 0 ≤ charsOf x.load) ∧ c.over = (x.bad || x.op == 8)
def OpOk (c : Cn) : Prop := 0 ≤ c.op ∧ c.op ≤ 2
theorem closeE_ok (c : Cn) (b : List Int) (hb : b.length ≤ 16384) (hby : Bytes b) : EvtOk (failC c) (closeE b) := by
  unfold closeE closeV
  split
  · exact ⟨⟨by simp, Bytes.nil⟩, fun h => by simp at h, rfl⟩
  · split
    · exact ⟨⟨by simp, Bytes.nil⟩, fun _ h => by simp at h, rfl⟩
    · split
      · exact ⟨⟨by simp, Bytes.nil⟩, fun _ h => by simp at h, rfl⟩
      · exact ⟨⟨by simp only [List.length_drop]; omega, hby.dp 2⟩, fun h => by simp at h, rfl⟩
theorem failE_ok (c : Cn) (code : Int) : EvtOk (failC c) (failE code) := ⟨⟨by simp [failE], Bytes.nil⟩, fun _ h => by simp [failE] at h, rfl⟩
theorem partV_ok {c : Cn} {f : Frm} (hov : c.over = false) (hop : OpOk c) (h0 : 0 ≤ f.op) (h2 : f.op ≤ 2) (hb1 : Bytes c.load) (hb2 : Bytes f.load) :
    OpOk (partV c f).1 ∧ ((partV c f).2 = none → (partV c f).1.load.length ≤ 16384 ∧ Bytes (partV c f).1.load) ∧ ∀ x, (partV c f).2 = some x → EvtOk (partV c f).1 x := by
  have hj : 0 ≤ joinOp c f ∧ joinOp c f ≤ 2 := by
    unfold joinOp
    split
    · exact hop
    · exact ⟨h0, h2⟩
  unfold partV
  split
  · exact ⟨hop, fun h => (nomatch h), fun x h => by injection h with h; subst h; exact failE_ok _ _⟩
  · split
    · exact ⟨hj, fun h => (nomatch h), fun x h => by injection h with h; subst h; exact failE_ok _ _⟩
    · split
      · exact ⟨hj, fun _ => ⟨by show (c.load ++ f.load).length ≤ 16384; rw [List.length_append]; omega, Bytes.app hb1 hb2⟩, fun x h => (nomatch h)⟩
      · split
        · exact ⟨⟨by show (0 : Int) ≤ 0; omega, by show (0 : Int) ≤ 2; omega⟩, fun h => (nomatch h), fun x h => by injection h with h; subst h; exact failE_ok _ _⟩
        · rename_i hw
          refine ⟨⟨by show (0 : Int) ≤ 0; omega, by show (0 : Int) ≤ 2; omega⟩, fun h => (nomatch h), fun x h => ?_⟩
          injection h with h
          subst h
          refine ⟨⟨by show (c.load ++ f.load).length ≤ 16384; rw [List.length_append]; omega, Bytes.app hb1 hb2⟩, fun h1 _ h2 => hw ⟨h1, h2⟩, ?_⟩
          show c.over = (false || joinOp c f == 8)
          rw [hov, show (joinOp c f == 8) = false from by rw [beq_eq_false_iff_ne]; omega]
          rfl
theorem nextV_ok : ∀ n (c : Cn), Bytes c.wait → c.load.length ≤ 16384 → Bytes c.load → OpOk c → OpOk (nextV n c).1 ∧ ∀ x, (nextV n c).2 = some x → EvtOk (nextV n c).1 x
  | 0, c, _, _, _, hop => ⟨hop, fun x h => (nomatch h)⟩
  | n + 1, c, hb, hl, hbl, hop => by
    unfold nextV
    split
    · exact ⟨hop, fun x h => (nomatch h)⟩
    · rename_i hov
      have hov : c.over = false := by cases h : c.over with | true => exact absurd h hov | false => rfl
      split
      · exact ⟨hop, fun x h => (nomatch h)⟩
      · split
        · exact ⟨hop, fun x h => by injection h with h; subst h; exact failE_ok _ _⟩
        · rename_i h3
          have h0 : (rdF c.wait c.mask).2.2 = 0 := Decidable.not_not.mp h3
          obtain ⟨hk, ⟨K, hK, hK2, hKl⟩, hfb, hfl⟩ := rdF_good (f := (rdF c.wait c.mask).1) (k := (rdF c.wait c.mask).2.1) (by rw [← h0]) hb
          split
          · exact ⟨hop, fun x h => by injection h with h; subst h; exact closeE_ok _ _ hfl hfb⟩
          · rename_i h8
            split
            · rename_i h9
              refine ⟨hop, fun x h => ?_⟩
              injection h with h
              subst h
              refine ⟨⟨hfl, hfb⟩, fun h1 => by have h1 : (rdF c.wait c.mask).1.op = 1 := h1; omega, ?_⟩
              show c.over = (false || (rdF c.wait c.mask).1.op == 8)
              rw [hov, show ((rdF c.wait c.mask).1.op == 8) = false from by rw [beq_eq_false_iff_ne]; exact h8]
              rfl
            · rename_i h9
              have h012 := known_cases hk
              have hp := partV_ok (c := { c with wait := c.wait.drop (rdF c.wait c.mask).2.1.toNat }) (f := (rdF c.wait c.mask).1) hov hop (by omega) (by omega) hbl hfb
              split
              · rename_i c' x hpv
                rw [hpv] at hp
                exact ⟨hp.1, fun y h => by injection h with h; subst h; exact hp.2.2 x rfl⟩
              · rename_i c' hpv
                rw [hpv] at hp
                obtain ⟨hw, _, _⟩ := partV_wait hpv
                have hw' : c'.wait = c.wait.drop (rdF c.wait c.mask).2.1.toNat := hw
                exact nextV_ok n c' (by rw [hw']; exact hb.dp _) (hp.2.1 rfl).1 (hp.2.1 rfl).2 hp.1
theorem nextW_ok {c : Cn} (h : CnOk c) (hop : OpOk c) : OpOk (nextW c).1 ∧ ∀ x, (nextW c).2 = some x → EvtOk (nextW c).1 x := nextV_ok _ c h.2.2.1 h.2.1 h.2.2.2.1 hop
end Go.Proofs.YtcfbfmgckaehdaaDoor
