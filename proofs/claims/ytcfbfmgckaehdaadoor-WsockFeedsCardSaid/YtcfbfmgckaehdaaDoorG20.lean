/- The texts WsStep, WsPart, WsNextLaw in one. -/
import Derived.Test.YtcfbfmgckaehdaaDoorG19
namespace Go.Proofs.YtcfbfmgckaehdaaDoor
open Go.RowKit Go.Proofs.YtcfbfmgckaehdaaDoorW.PrintWords
/-- An event. -/
structure Evt where
  op : Int
  code : Int
  load : List Int
  bad : Bool
def failE (code : Int) : Evt := ⟨0, code, [], true⟩
def joinOp (c : Cn) (f : Frm) : Int := if f.op = 0 then c.op else f.op
/-- A frame that is part of a message: what then is, and the event, if there is one. -/
def partV (c : Cn) (f : Frm) : Cn × Option Evt :=
  if decide (f.op = 0) != decide (c.op ≠ 0) then (failC c, some (failE 1002))
  else if 16384 < c.load.length + f.load.length then (failC { c with op := joinOp c f }, some (failE 1009))
  else if f.fin = false then ({ c with op := joinOp c f, load := c.load ++ f.load }, none)
  else if joinOp c f = 1 ∧ 0 ≤ charsOf (c.load ++ f.load) then (failC { c with op := 0, load := [] }, some (failE 1007))
  else ({ c with op := 0, load := [] }, some ⟨joinOp c f, 0, c.load ++ f.load, false⟩)
def closeE (b : List Int) : Evt := ⟨(closeV b).1, (closeV b).2.1, (closeV b).2.2.1, (closeV b).2.2.2⟩
/-- The next event: what then is, and the event, if there is one. The fuel: no fewer than the bytes that wait. -/
def nextV : Nat → Cn → Cn × Option Evt
  | 0, c => (c, none)
  | fuel + 1, c =>
    if c.over = true then (c, none)
    else if (rdF c.wait c.mask).2.2 = 1 then (c, none)
    else if (rdF c.wait c.mask).2.2 ≠ 0 then (failC c, some (failE (rdF c.wait c.mask).2.2))
    else if (rdF c.wait c.mask).1.op = 8 then (failC { c with wait := c.wait.drop (rdF c.wait c.mask).2.1.toNat }, some (closeE (rdF c.wait c.mask).1.load))
    else if (rdF c.wait c.mask).1.op = 9 ∨ (rdF c.wait c.mask).1.op = 10 then ({ c with wait := c.wait.drop (rdF c.wait c.mask).2.1.toNat }, some ⟨(rdF c.wait c.mask).1.op, 0, (rdF c.wait c.mask).1.load, false⟩)
    else match partV { c with wait := c.wait.drop (rdF c.wait c.mask).2.1.toNat } (rdF c.wait c.mask).1 with
      | (c', some x) => (c', some x)
      | (c', none) => nextV fuel c'
end Go.Proofs.YtcfbfmgckaehdaaDoor
namespace Go.Proofs.YtcfbfmgckaehdaaDoor
open Go.RowKit Go.Proofs.YtcfbfmgckaehdaaDoorW.PrintWords
/-- What part and Next answer where the end has ended. -/
def EndedPost (w0 w : World) (g : Nat) (c : Cn) (vw vl : Value) (x : Evt) (e : Ending) (w' : World) : Prop :=
  ∃ v : Value, e = .returned (.tuple #[.agg #[.int .i64 x.op, .int .i64 x.code, v, .bool x.bad], .bool true]) ∧ Own w w' v x.load ∧ EndPost w0 w g c vw vl w'
set_option maxRecDepth 20000 in
set_option maxHeartbeats 3200000 in
theorem WsPart_bad {n : Nat} (w0 w : World) (g : Nat) (c : Cn) (vw vl : Value) (fin : Bool) (op : Int) (A : Option Addr) (cb : Nat) (h : ConnAt w0 w g c vw vl) (hB : Below w0.heap.size w0 w) (hbad : (decide (op = 0) != decide (c.op ≠ 0)) = true) :
    Calls Tryd.prog 52 #[.pointer (some ⟨g, 0, none⟩), .agg #[.bool fin, .int .i64 op, .slice A n cb]] w (EndedPost w0 w g c vw vl (failE 1002)) := by
  obtain ⟨gf, hgf⟩ : ∃ g, g = w.heap.size := ⟨_, rfl⟩
  obtain ⟨g0, hg0⟩ : ∃ g, g = gf + 1 := ⟨_, rfl⟩
  obtain ⟨W0, hW0⟩ : ∃ W, W = w.alloc (.cells #[.bool fin, .int .i64 op, .slice A n cb] 26) := ⟨_, rfl⟩
  obtain ⟨W1, hW1⟩ : ∃ W, W = W0.alloc (.cells #[.int .i64 0, .int .i64 0, .slice none 0 0, .bool false] 51) := ⟨_, rfl⟩
  have z0 : W0.heap.size = g0 := by rw [hW0, size_alloc, hg0, hgf]
  have b0 : Below w.heap.size w W0 := by rw [hW0]; exact below_alloc (Below.refl _ _) _
  have b01 : Below W0.heap.size W0 W1 := by rw [hW1]; exact below_alloc (Below.refl _ _) _
  have b1 := below_step b0 b01
  have kf0 : Whole W0 gf 26 #[.bool fin, .int .i64 op, .slice A n cb] := by rw [hW0, hgf]; exact Whole.new w _ _
  have kf := kf0.below b01 kf0.lt
  have k0 : Whole W1 g0 51 ev0 := by rw [hW1, ← z0]; exact Whole.new W0 _ _
  have hlt := h.1.lt
  have HS := Lib.hid (show gf = w.heap.size ∧ W0 = w.alloc _ ∧ g0 = gf + 1 ∧ W1 = W0.alloc _ from ⟨hgf, hW0, hg0, hW1⟩)
  have HI := Lib.hid (show ConnAt w0 W1 g c vw vl ∧ Below w0.heap.size w0 W1 ∧ Whole W1 g0 51 ev0 ∧ g0 ≠ g ∧ w.heap.size ≤ g0 ∧ Below w.heap.size w W1 ∧ w0.heap.size ≤ g0 ∧ ¬ Foot g vw vl g0 from ⟨h.below b1, below_step hB b1, k0, by omega, by omega, b1, by have := hB.size; omega, h.outside g0 (by omega)⟩)
  have q1 := kf.cell 1 _ rfl
  have x4 := HI.out.1.1.cell 4 _ rfl
  obtain ⟨p, hp⟩ : ∃ p, (op == 0) = p := ⟨_, rfl⟩
  obtain ⟨q, hq⟩ : ∃ q, (c.op != 0) = q := ⟨_, rfl⟩
  have hpq : (p != q) = true := by
    rw [← hp, ← hq, show (op == 0) = decide (op = 0) from by by_cases h1 : op = 0 <;> simp [h1], show (c.op != 0) = decide (c.op ≠ 0) from by by_cases h1 : c.op = 0 <;> simp [h1]]
    exact hbad
  clear h hB z0 b0 b01 b1 kf0 kf k0 hlt hgf hg0 hW0 hW1 hbad
  have hpq2 : (p = true ∧ q = false) ∨ (p = false ∧ q = true) := by cases p <;> cases q <;> simp at hpq ⊢
  clear hpq
  rcases hpq2 with ⟨rfl, rfl⟩ | ⟨rfl, rfl⟩
  all_goals
    go_enter Tryd.func52, Tryd.ntmps52
    go_upto_region 1 with (fail)
    rw [← HS.out.1, ← HS.out.2.1, ← HS.out.2.2.1, ← HS.out.2.2.2]
    go_quiet (fail)
    have HJ := Lib.hid (show ConnAt w0 (W1.drewN nq) g c vw vl ∧ Below w0.heap.size w0 (W1.drewN nq) ∧ Whole (W1.drewN nq) g0 51 ev0 ∧ Below w.heap.size w (W1.drewN nq) from ⟨HI.out.1.below (pw_below_drewN (Below.refl _ _) _), pw_below_drewN HI.out.2.1 _, HI.out.2.2.1.below (pw_below_drewN (Below.refl _ _) _) HI.out.2.2.1.lt, pw_below_drewN HI.out.2.2.2.2.2.1 _⟩)
    generalize W1.drewN nq = W3 at HJ ⊢
    clear q1 x4
    go_wp2_with fail
    refine (WsFail_calls w0 _ g c vw vl 1002 HJ.out.1 HJ.out.2.1).mono ?_
    rintro e w2 ⟨rfl, he2⟩
    have H2 := Lib.hid (show EndPost w0 W3 g c vw vl w2 ∧ Whole w2 g0 51 ev0 from ⟨he2, HJ.out.2.2.1.far (he2.2.1.2.1 g0 HJ.out.2.2.1.lt HI.out.2.2.2.2.2.2.2)⟩)
    clear he2
    go_wp2_with (refine gate_ (.store 51 (.tmp 4) (.tmp 18)) rfl ?_; refine store_whole rfl rfl rfl rfl rfl H2.out.2 rfl (by simp [Value.oneCell']) rfl (by kernel_rfl) ?_; intro w9 hk9 hb9 hf9 hg9)
    refine bodyPost_ret (results_ct rfl _ _ g0 _ _ _ _ rfl hk9 Tryd.underlying51 rfl (by kernel_rfl)) rfl ?_
    exact ⟨.slice none 0 0, rfl, Own.nil _ _, H2.out.1.fin HJ.out.2.2.2 HI.out.2.2.2.2.1 HI.out.2.2.2.1 (fun k _ h => hf9 k h) hg9.size (hb9 _ _ H2.out.1.2.2 HI.out.2.2.2.2.2.2.1)⟩
end Go.Proofs.YtcfbfmgckaehdaaDoor
namespace Go.Proofs.YtcfbfmgckaehdaaDoor
open Go.RowKit Go.Proofs.YtcfbfmgckaehdaaDoorW.PrintWords
theorem bodyR_good {b : List Int} {mask : Bool} {n t : Nat} {f : Frm} {k : Int} (h : bodyR b mask n t = (f, k, 0)) (hb : Bytes b) (hn : n ≤ 16384) (ht : 2 ≤ t) :
    f.op = rd b 0 % 16 ∧ (∃ K : Nat, k = K ∧ 2 ≤ K ∧ K ≤ b.length) ∧ Bytes f.load ∧ f.load.length ≤ 16384 := by
  unfold bodyR at h
  cases mask with
  | true =>
    rw [if_pos rfl] at h
    split at h
    · injection h with _ h1; injection h1 with _ h2; exact absurd h2 (by decide)
    · injection h with h0 h1; injection h1 with h1 _
      subst h0 h1
      exact ⟨rfl, ⟨t + 4 + n, rfl, by omega, by omega⟩, maskL_Bytes _ _, by rw [maskL_length, List.length_take]; omega⟩
  | false =>
    rw [if_neg (by decide)] at h
    split at h
    · injection h with _ h1; injection h1 with _ h2; exact absurd h2 (by decide)
    · injection h with h0 h1; injection h1 with h1 _
      subst h0 h1
      exact ⟨rfl, ⟨t + n, rfl, by omega, by omega⟩, (hb.dp t).tk n, by show ((b.drop t).take n).length ≤ 16384; rw [List.length_take]; omega⟩
theorem lenR_good {b : List Int} (h : (lenR b).2.2 = 0) : (lenR b).1.toNat ≤ 16384 ∧ 2 ≤ (lenR b).2.1.toNat := by
  unfold lenR at h ⊢
  split
  · rename_i h1
    exact ⟨by show (rd b 1 % 128).toNat ≤ 16384; omega, by show 2 ≤ (2 : Int).toNat; decide⟩
  · rename_i h1
    rw [if_neg h1] at h
    split
    · rename_i h2
      rw [if_pos h2] at h
      split
      · rename_i h3
        rw [if_pos h3] at h
        exact absurd h (by decide)
      · rename_i h3
        rw [if_neg h3] at h
        split
        · rename_i h4
          rw [if_pos h4] at h
          exact absurd h (by decide)
        · rename_i h4
          rw [if_neg h4] at h
          split
          · rename_i h5
            rw [if_pos h5] at h
            exact absurd h (by decide)
          · rename_i h5
            exact ⟨by show (numL ((b.drop 2).take 2)).toNat ≤ 16384; omega, by show 2 ≤ (4 : Int).toNat; decide⟩
    · rename_i h2
      rw [if_neg h2] at h
      split at h
      · exact absurd h (by decide)
      · split at h
        · exact absurd h (by decide)
        · exact absurd h (by decide)
/-- What a frame that is read is like. -/
theorem rdF_good {b : List Int} {mask : Bool} {f : Frm} {k : Int} (h : rdF b mask = (f, k, 0)) (hb : Bytes b) :
    knownB f.op = true ∧ (∃ K : Nat, k = K ∧ 2 ≤ K ∧ K ≤ b.length) ∧ Bytes f.load ∧ f.load.length ≤ 16384 := by
  unfold rdF at h
  split at h
  · injection h with _ h1; injection h1 with _ h2; exact absurd h2 (by decide)
  · split at h
    · injection h with _ h1; injection h1 with _ h2; exact absurd h2 (by decide)
    · rename_i h2
      split at h
      · injection h with _ h1; injection h1 with _ h2; exact absurd h2 (by decide)
      · split at h
        · injection h with _ h1; injection h1 with _ h2; exact absurd h2 (by decide)
        · split at h
          · rename_i h5
            injection h with _ h1; injection h1 with _ h6; exact absurd h6 h5
          · rename_i h5
            have hl := lenR_good (Decidable.not_not.mp h5)
            obtain ⟨g1, g2, g3, g4⟩ := bodyR_good h hb hl.1 hl.2
            refine ⟨?_, g2, g3, g4⟩
            rw [g1]
            unfold badF at h2
            cases hk : knownB (rd b 0 % 16) with
            | true => rfl
            | false => rw [hk] at h2; simp at h2
/-- What comes next, with fuel enough. -/
def nextW (c : Cn) : Cn × Option Evt := nextV (c.wait.length + 1) c
theorem partV_wait {c c' : Cn} {f : Frm} (h : partV c f = (c', none)) : c'.wait = c.wait ∧ c'.mask = c.mask ∧ c'.over = c.over := by
  unfold partV at h
  split at h
  · injection h with _ h1; cases h1
  · split at h
    · injection h with _ h1; cases h1
    · split at h
      · injection h with h1 _; subst h1; exact ⟨rfl, rfl, rfl⟩
      · split at h
        · injection h with _ h1; cases h1
        · injection h with _ h1; cases h1
theorem nextV_fuel : ∀ n m (c : Cn), Bytes c.wait → c.wait.length < n → c.wait.length < m → nextV n c = nextV m c
  | 0, _, _, _, h, _ => absurd h (Nat.not_lt_zero _)
  | _, 0, _, _, _, h => absurd h (Nat.not_lt_zero _)
  | n + 1, m + 1, c, hb, hn, hm => by
    unfold nextV
    split
    · rfl
    · split
      · rfl
      · split
        · rfl
        · rename_i h3
          have h0 : (rdF c.wait c.mask).2.2 = 0 := Decidable.not_not.mp h3
          obtain ⟨_, ⟨K, hK, hK2, hKl⟩, _, _⟩ := rdF_good (f := (rdF c.wait c.mask).1) (k := (rdF c.wait c.mask).2.1) (by rw [← h0]) hb
          split
          · rfl
          · split
            · rfl
            · split
              · rfl
              · rename_i c' hp
                obtain ⟨hw, _, _⟩ := partV_wait hp
                have hw' : c'.wait = c.wait.drop (rdF c.wait c.mask).2.1.toNat := hw
                have hl : c'.wait.length + 2 ≤ c.wait.length := by rw [hw', List.length_drop, hK]; omega
                exact nextV_fuel n m c' (by rw [hw']; exact hb.dp _) (by omega) (by omega)
section
variable {c : Cn} {f : Frm} {k why : Int}
theorem nextW_over (h : c.over = true) : nextW c = (c, none) := by unfold nextW nextV; rw [if_pos h]
theorem nextW_more (h : c.over = false) (hr : rdF c.wait c.mask = (f, k, 1)) : nextW c = (c, none) := by
  unfold nextW nextV; rw [if_neg (by rw [h]; decide), hr, if_pos rfl]
theorem nextW_why (h : c.over = false) (hr : rdF c.wait c.mask = (f, k, why)) (h1 : why ≠ 1) (h0 : why ≠ 0) : nextW c = (failC c, some (failE why)) := by
  unfold nextW nextV; rw [if_neg (by rw [h]; decide), hr, if_neg h1, if_pos h0]
theorem nextW_close (h : c.over = false) {k : Nat} (hr : rdF c.wait c.mask = (f, (k : Int), 0)) (h8 : f.op = 8) : nextW c = (failC { c with wait := c.wait.drop k }, some (closeE f.load)) := by
  unfold nextW nextV; rw [if_neg (by rw [h]; decide), hr, if_neg (by decide : ¬ (0 : Int) = 1), if_neg (by decide : ¬ (0 : Int) ≠ 0), if_pos h8]; rfl
theorem nextW_ping (h : c.over = false) {k : Nat} (hr : rdF c.wait c.mask = (f, (k : Int), 0)) (h9 : f.op = 9 ∨ f.op = 10) : nextW c = ({ c with wait := c.wait.drop k }, some ⟨f.op, 0, f.load, false⟩) := by
  unfold nextW nextV; rw [if_neg (by rw [h]; decide), hr, if_neg (by decide : ¬ (0 : Int) = 1), if_neg (by decide : ¬ (0 : Int) ≠ 0), if_neg (by show ¬ f.op = 8; omega), if_pos h9]; rfl
theorem nextW_part (h : c.over = false) {k : Nat} (hr : rdF c.wait c.mask = (f, (k : Int), 0)) (h8 : f.op ≠ 8) (h9 : ¬ (f.op = 9 ∨ f.op = 10)) {c' : Cn} {x : Evt} (hp : partV { c with wait := c.wait.drop k } f = (c', some x)) : nextW c = (c', some x) := by
  unfold nextW nextV; rw [if_neg (by rw [h]; decide), hr, if_neg (by decide : ¬ (0 : Int) = 1), if_neg (by decide : ¬ (0 : Int) ≠ 0), if_neg h8, if_neg h9]
  show (match partV { c with wait := c.wait.drop k } f with | (c', some x) => (c', some x) | (c', none) => nextV c.wait.length c') = _
  rw [hp]
theorem nextW_step (h : c.over = false) {k : Nat} (hr : rdF c.wait c.mask = (f, (k : Int), 0)) (hb : Bytes c.wait) (h8 : f.op ≠ 8) (h9 : ¬ (f.op = 9 ∨ f.op = 10)) {c' : Cn} (hp : partV { c with wait := c.wait.drop k } f = (c', none)) : nextW c = nextW c' := by
  obtain ⟨_, ⟨K, hK, hK2, hKl⟩, _, _⟩ := rdF_good hr hb
  obtain ⟨hw, _, _⟩ := partV_wait hp
  have hw' : c'.wait = c.wait.drop k := hw
  have hl : c'.wait.length + 2 ≤ c.wait.length := by rw [hw', List.length_drop]; omega
  have e : nextW c = nextV c.wait.length c' := by
    generalize hR : nextV c.wait.length c' = R
    unfold nextW nextV; rw [if_neg (by rw [h]; decide), hr, if_neg (by decide : ¬ (0 : Int) = 1), if_neg (by decide : ¬ (0 : Int) ≠ 0), if_neg h8, if_neg h9]
    show (match partV { c with wait := c.wait.drop k } f with | (c', some x) => (c', some x) | (c', none) => nextV c.wait.length c') = _
    rw [hp]
    exact hR
  rw [e]
  exact nextV_fuel _ _ c' (by rw [hw']; exact hb.dp _) (by omega) (by omega)
end
end Go.Proofs.YtcfbfmgckaehdaaDoor
