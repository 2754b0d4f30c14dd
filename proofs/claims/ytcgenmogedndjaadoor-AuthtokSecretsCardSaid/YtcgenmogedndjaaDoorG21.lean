/- The texts DigRef, QuietTail3 in one. -/
import Derived.Test.YtcgenmogedndjaaDoorG06
import Derived.Test.YtcgenmogedndjaaDoorG09
namespace Go.Proofs.YtcgenmogedndjaaDoor
open Go.RowKit Go.Proofs.YtcgenmogedndjaaDoorW.PrintWords
theorem rotl_or' (x : Int) (x0 : 0 ≤ x) (x1 : x < 4294967296) (s : Nat) (hs : s < 32) : bits .or .u32 (x / 2 ^ (32 - s)) (x * 2 ^ s % 4294967296) = rotl x s := by
  have h := rotl_or x x0 x1 s hs
  have a0 : 0 ≤ x / 2 ^ (32 - s) := Int.ediv_nonneg x0 (Int.le_of_lt (Int.pow_pos (by decide)))
  have a1 : x / 2 ^ (32 - s) ≤ x := Int.ediv_le_self _ x0
  have b0 : 0 ≤ x * 2 ^ s % 4294967296 := Int.emod_nonneg _ (by decide)
  have b1 : x * 2 ^ s % 4294967296 < 4294967296 := Int.emod_lt_of_pos _ (by decide)
  obtain ⟨p, hp⟩ := Int.eq_ofNat_of_zero_le a0
  obtain ⟨q, hq⟩ := Int.eq_ofNat_of_zero_le b0
  rw [hp, hq] at h ⊢
  rw [← h, or_u32 p q (by omega) (by omega), or_u32 q p (by omega) (by omega), Nat.or_comm]
set_option maxHeartbeats 800000 in
theorem right_calls (x : Int) (n : Nat) (w : World) (x0 : 0 ≤ x) (x1 : x < 4294967296) (hn : 1 ≤ n ∧ n ≤ 32) :
    Calls Tryd.prog 82 #[.int .u32 x, .int .i64 n] w fun e w' => e = .returned (.int .u32 (rotl x (32 - n))) ∧ Drawn0 w w' := by
  have hw : IntKind.i64.wrap (32 - (n : Int)) = 32 - n := by rw [IntKind.wrap_i64]; omega
  have hC : IntKind.u32.wrap (x * 2 ^ min (32 - (n : Int)).toNat 32) = x * 2 ^ (32 - n) % 4294967296 := by rw [show (32 - (n : Int)).toNat = 32 - n by omega, Nat.min_eq_left (by omega), IntKind.wrap_u32]
  have hD : x / 2 ^ min n 32 = x / 2 ^ n := by rw [Nat.min_eq_left (by omega)]
  have hO := rotl_or' x x0 x1 (32 - n) (by omega)
  rw [show 32 - (32 - n) = n by omega] at hO
  have h1 : (0 : Int) ≤ 32 - (n : Int) := by omega
  clear x0 x1
  go_enter Tryd.func82, Tryd.ntmps82
  go_wp2_with fail
  go_quiet (fail)
  go_wp2
  go_ret
  exact ⟨rfl, (Drawn0.refl _).step _⟩
/-- Words as bytes. -/
def beAll (l : List Int) : List Int := l.flatMap be4
theorem beAll_length (l : List Int) : (beAll l).length = 4 * l.length := by
  induction l with
  | nil => rfl
  | cons a t ih => rw [beAll, List.flatMap_cons, List.length_append, List.length_cons]; have : (t.flatMap be4).length = 4 * t.length := ih; simp only [be4, List.length_cons, List.length_nil]; omega
theorem beAll_snoc (l : List Int) (k : Nat) (h : k < l.length) : beAll (l.take (k + 1)) = beAll (l.take k) ++ be4 (rd l k) := by
  rw [List.take_succ_eq_append_getElem h, rd_get l k h, beAll, List.flatMap_append]
  simp [beAll]
set_option maxHeartbeats 800000 in
theorem bytes_calls {n : Nat} (A0 : Option Addr) (c0 : Nat) (l0 : List Int) (w : World) (hr0 : RdW w A0 n l0) (hs : n ≤ 1000) :
    Calls Tryd.prog 83 #[.slice A0 n c0] w fun e w' => ∃ v', e = .returned v' ∧ Own w w' v' (beAll l0) ∧ Below w.heap.size w w' := by
  have HR := Lib.hid hr0
  have HL := Lib.hid (Kd.C_len hr0)
  clear hr0
  go_enter Tryd.func83, Tryd.ntmps83
  go_wp2
  go_loopw [3, 8] (fun v i wr => ∃ (k : Nat), k ≤ n ∧ i = .int .i64 k ∧ Hid (Own w wr v (beAll (l0.take k))) ∧ Hid (Below w.heap.size w wr)) (fun _ i _ => n - (intOf i).toNat)
  case atStart => exact ⟨0, by omega, rfl, Lib.hid (Own.nil w w), Lib.hid (Below.refl _ _)⟩
  case round =>
    obtain ⟨k, hk, rfl, HO, HB⟩ := hrel
    by_cases hkn : k < n
    · have dkn : decide ((k : Int) < n) = true := decide_eq_true (by omega)
      obtain ⟨ad', rfl, hcell⟩ := RdW.cells (Kd.C_below HR.out HB.out) (by omega)
      have hx := hcell k hkn
      have HSN := Lib.hid (beAll_snoc l0 k (by rw [HL.out]; exact hkn))
      obtain ⟨x, ex⟩ : ∃ x, x = rd l0 k := ⟨_, rfl⟩
      rw [← ex] at hx HSN
      have h1 : IntKind.u8.wrap (x / 16777216) = x / 16777216 % 256 := by rw [IntKind.wrap_u8]
      have h2 : IntKind.u8.wrap (x / 65536) = x / 65536 % 256 := by rw [IntKind.wrap_u8]
      have h3 : IntKind.u8.wrap (x / 256) = x / 256 % 256 := by rw [IntKind.wrap_u8]
      have h4 : IntKind.u8.wrap x = x % 256 := by rw [IntKind.wrap_u8]
      have hap : (beAll (l0.take k)).length + 4 ≤ 140737488355328 := by rw [beAll_length, List.length_take, HL.out]; omega
      clear hcell ex
      go_wp2_with (at_builtin; refine app_row (Kd.R_alloc HO.out _) (C_const _ _ [x / 16777216 % 256, x / 65536 % 256, x / 256 % 256, x % 256] (0, 0) (by simp)) (below_alloc HB.out _) (by simp only [List.length_cons, List.length_nil]; omega) rfl rfl rfl rfl ?_)
      intro v3 w3 ho3 hb3 _ _
      have HO3 := Lib.hid (ho3.cast (show _ = beAll (l0.take (k + 1)) by rw [HSN.out]; simp [be4]))
      have HB3 := Lib.hid hb3
      clear ho3 hb3
      go_wp2
      go_roundw
      case rel => exact ⟨k + 1, by omega, by go_num, HO3, HB3⟩
      case measure => simp [intOf]; omega
    · obtain rfl : k = n := by omega
      have dkn : decide ((k : Int) < k) = false := decide_eq_false (by omega)
      go_wp2
      go_ret
      exact ⟨_, rfl, HO.out.cast (by rw [List.take_of_length_le (by rw [HL.out]; exact Nat.le_refl _)]), HB.out⟩
end Go.Proofs.YtcgenmogedndjaaDoor
namespace Go.Proofs.YtcgenmogedndjaaDoor
open Go
section
variable {P : Program} {hd tl : List Oper} {C : World → Prop}
def headD (hd tl : List Oper) (k0 : Nat) : Bool :=
  ((List.range hd.length).all fun i => match hd[i]? with
    | some o => o.guard.isNone && o.after.all fun e => decide (e.on < i)
    | none => false) &&
  ((List.range hd.length).all fun i => decide (i < k0) || (List.range (hd.length + 1)).any fun j => decide (i < j) && match (hd ++ tl)[j]? with
    | some o => o.after.any fun e => Region.binds .any e && e.on == i
    | none => false) &&
  (tl.drop 1).all fun o => o.after.any fun e => Region.binds .any e && decide (hd.length ≤ e.on)
theorem headD_head {k0 : Nat} (h : headD hd tl k0 = true) (i : Nat) (o : Oper) (hi : hd[i]? = some o) : o.guard = none ∧ ∀ e ∈ o.after, e.on < i := by
  unfold headD at h
  rw [Bool.and_eq_true, Bool.and_eq_true] at h
  have h1 := List.all_eq_true.1 h.1.1 i (List.mem_range.2 (List.getElem?_eq_some_iff.1 hi).1)
  rw [hi] at h1
  simp only [Bool.and_eq_true, Option.isNone_iff_eq_none] at h1
  exact ⟨h1.1, fun e he => by simpa using Array.all_eq_true_iff_forall_mem.1 h1.2 e he⟩
theorem headD_sink {k0 : Nat} (h : headD hd tl k0 = true) (i : Nat) (hi : i < hd.length) (hk : k0 ≤ i) : ∃ j o, i < j ∧ j ≤ hd.length ∧ (hd ++ tl)[j]? = some o ∧ ∃ e ∈ o.after, Region.binds .any e = true ∧ e.on = i := by
  unfold headD at h
  rw [Bool.and_eq_true, Bool.and_eq_true] at h
  have h1 := List.all_eq_true.1 h.1.2 i (List.mem_range.2 hi)
  rw [Bool.or_eq_true, decide_eq_true_eq] at h1
  rcases h1 with h1 | h1
  · omega
  · obtain ⟨j, hj, h2⟩ := List.any_eq_true.1 h1
    rw [Bool.and_eq_true, decide_eq_true_eq] at h2
    obtain ⟨h3, h4⟩ := h2
    split at h4
    · rename_i o ho
      obtain ⟨e, he, hb⟩ := Array.any_eq_true'.1 h4
      rw [Bool.and_eq_true, beq_iff_eq] at hb
      exact ⟨j, o, h3, by have := List.mem_range.1 hj; omega, ho, e, he, hb.1, hb.2⟩
    · cases h4
theorem headD_tail {k0 : Nat} (h : headD hd tl k0 = true) (o : Oper) (ho : o ∈ tl.drop 1) : ∃ e ∈ o.after, Region.binds .any e = true ∧ hd.length ≤ e.on := by
  unfold headD at h
  rw [Bool.and_eq_true, Bool.and_eq_true] at h
  obtain ⟨e, he, hb⟩ := Array.any_eq_true'.1 (List.all_eq_true.1 h.2 o ho)
  rw [Bool.and_eq_true, decide_eq_true_eq] at hb
  exact ⟨e, he, hb.1, hb.2⟩
/-- What is listed is closed under what it waits for. -/
def Shut (hd : List Oper) (k0 : Nat) (L : Array Bool) : Prop := (∀ j o, hd[j]? = some o → L.getD j false = true → ∀ e ∈ o.after, Region.binds .any e = true → L.getD e.on false = true) ∧ ∀ i, i < k0 → i < L.size → L.getD i false = true
theorem first_waits {k0 : Nat} (hB : headD hd tl k0 = true) (L : Array Bool) (hL : L.size = hd.length) (hS : Shut hd k0 L) : ∀ (d i0 : Nat), hd.length - i0 = d → i0 < L.size → L.getD i0 false = false → hd.length ∉ Region.ready .any (hd ++ tl).toArray (L ++ falses tl.length) := by
  intro d
  induction d using Nat.strongRecOn with
  | _ d ih =>
    intro i0 hd0 hi0 h0 hr
    have hk : k0 ≤ i0 := by
      rcases Nat.lt_or_ge i0 k0 with h | h
      · rw [hS.2 i0 h hi0] at h0; cases h0
      · exact h
    obtain ⟨j, o, hij, hjn, ho, e, he, hb, hon⟩ := headD_sink hB i0 (by omega) hk
    rcases Nat.lt_or_ge j hd.length with hj | hj
    · have hoj : hd[j]? = some o := by rwa [List.getElem?_append_left hj] at ho
      cases hv : L.getD j false with
      | true =>
        have := hS.1 j o hoj hv e he hb
        rw [hon, h0] at this
        cases this
      | false => exact ih (hd.length - j) (by omega) j rfl (by omega) hv hr
    · have hjj : j = hd.length := by omega
      subst hjj
      obtain ⟨_, o', ho', hall⟩ := mem_ready.1 hr
      have : o' = o := Option.some.inj (ho'.symm.trans (by simpa using ho))
      subst this
      have := hall e he hb
      rw [hon, getD_head _ _ _ _ hi0, h0] at this
      cases this
theorem ready_headD {k0 : Nat} (hB : headD hd tl k0 = true) (L : Array Bool) (hL : L.size = hd.length) (hS : Shut hd k0 L) (i0 : Nat) (hi0 : i0 < L.size) (h0 : L.getD i0 false = false) (j : Nat) :
    j ∈ Region.ready .any (hd ++ tl).toArray (L ++ falses tl.length) ↔ j ∈ Region.ready .any hd.toArray L := by
  by_cases hjn : j = hd.length
  · subst hjn
    constructor
    · intro h
      exact absurd h (first_waits hB L hL hS _ i0 rfl hi0 h0)
    · intro h
      obtain ⟨_, o, ho, _⟩ := mem_ready.1 h
      have := (Array.getElem?_eq_some_iff.1 ho).1
      simp at this
  rw [mem_ready, mem_ready]
  by_cases hj : j < hd.length
  · have e1 : (hd ++ tl).toArray[j]? = hd.toArray[j]? := by simp [List.getElem?_append_left hj]
    rw [getD_head _ _ _ _ (by omega), e1]
    refine and_congr_right fun _ => exists_congr fun o => and_congr_right fun ho => ?_
    have := (headD_head hB j o (by simpa using ho)).2
    refine forall_congr' fun e => forall_congr' fun he => ?_
    rw [getD_head _ _ _ _ (by have := this e he; omega)]
  · constructor
    · rintro ⟨h1, o, ho, hall⟩
      have hmem : o ∈ tl.drop 1 := by
        have h2 : (hd ++ tl)[j]? = some o := by simpa using ho
        rw [List.getElem?_append_right (by omega)] at h2
        have h3 : (tl.drop 1)[j - hd.length - 1]? = some o := by
          rw [List.getElem?_drop]
          rwa [show 1 + (j - hd.length - 1) = j - hd.length by omega]
        exact List.mem_of_getElem? h3
      obtain ⟨e, he, hb, hon⟩ := headD_tail hB o hmem
      have := hall e he hb
      rw [getD_over _ _ _ (by omega)] at this
      cases this
    · rintro ⟨_, o, ho, _⟩
      have := (Array.getElem?_eq_some_iff.1 ho).1
      exact absurd (by simpa using this) hj
theorem ready_oneD {k0 : Nat} (hB : headD hd tl k0 = true) (L : Array Bool) (hL : L.size = hd.length) : ∀ (i0 : Nat), i0 < L.size → L.getD i0 false = false → Region.ready .any hd.toArray L ≠ [] := by
  intro i0
  induction i0 using Nat.strongRecOn with
  | _ i0 ih =>
    intro hi0 h0 he
    have hlt : i0 < hd.length := by omega
    by_cases hr : i0 ∈ Region.ready .any hd.toArray L
    · rw [he] at hr; cases hr
    · refine hr (mem_ready.2 ⟨getD_in hi0 h0, hd[i0], by simp [hlt], fun e hem _ => ?_⟩)
      have hon := (headD_head hB i0 _ (by simp [hlt])).2 e hem
      cases hv : L.getD e.on false with
      | true => rfl
      | false => exact absurd he (ih e.on hon (by omega) hv)
theorem Shut.set {k0 i : Nat} {L : Array Bool} (h : Shut hd k0 L) (_hL : L.size = hd.length) (hi : i ∈ Region.ready .any hd.toArray L) : Shut hd k0 (L.setIfInBounds i true) := by
  obtain ⟨_, oi, hoi, hall⟩ := mem_ready.1 hi
  refine ⟨fun j o hj hl e he hb => ?_, fun m hm hs => getD_set_true (h.2 m hm (by simpa using hs))⟩
  by_cases hij : i = j
  · subst hij
    have : o = oi := Option.some.inj (hj.symm.trans (by simpa using hoi))
    subst this
    exact getD_set_true (hall e he hb)
  · rw [getD_set_ne false hij] at hl
    exact getD_set_true (h.1 j o hj hl e he hb)
theorem tail_of_headD {k0 : Nat} (hB : headD hd tl k0 = true) {Q1 : Act → Prop} {Q' : Exit → Act → World → Prop}
    (hQ : ∀ a w, C w → Q1 a → wpAny P .any (hd ++ tl).toArray Q' tl.length (Array.replicate hd.length true ++ falses tl.length) a w) :
    ∀ (f : Nat) (L : Array Bool) (a : Act) (w : World), C w → L.size = hd.length → Shut hd k0 L → L.toList.count false = f → wpAnyQ P .any hd.toArray C Q1 f L a →
      wpAny P .any (hd ++ tl).toArray Q' (f + tl.length) (L ++ falses tl.length) a w
  | 0, L, a, w, hw, hs, _, hc, h => by
    have hE : L = Array.replicate hd.length true := by
      have h1 : ∀ b ∈ L.toList, b = true := by
        intro b hb
        cases b with
        | true => rfl
        | false => exact absurd (List.count_pos_iff.2 hb) (by omega)
      apply Array.ext_getElem?
      intro j
      by_cases hj : j < L.size
      · have := h1 L[j] (by simp)
        simp [hj, this, ← hs]
      · simp [Array.getElem?_eq_none (Nat.le_of_not_lt hj)]
        omega
    rw [hE, Nat.zero_add]
    exact hQ a w hw h.2
  | f + 1, L, a, w, hw, hs, hS, hc, h => by
    obtain ⟨i0, hi0, h0⟩ : ∃ i0, i0 < L.size ∧ L.getD i0 false = false := by
      have : false ∈ L.toList := List.count_pos_iff.1 (by omega)
      obtain ⟨i, hi, e⟩ := List.mem_iff_getElem.1 this
      have hi' : i < L.size := by simpa using hi
      exact ⟨i, hi', by simpa [hi'] using e⟩
    have hrd := ready_headD (tl := tl) hB L hs hS i0 hi0 h0
    have hne := ready_oneD hB L hs i0 hi0 h0
    rw [show f + 1 + tl.length = (f + tl.length) + 1 by omega]
    refine ⟨fun he => ?_, fun i hi => ?_⟩
    · obtain ⟨j, hj⟩ := List.exists_mem_of_ne_nil _ hne
      have := (hrd j).2 hj
      rw [he] at this
      cases this
    · have hi' := (hrd i).1 hi
      obtain ⟨hu, o, ho, _⟩ := mem_ready.1 hi'
      have hin : i < hd.length := by have := (Array.getElem?_eq_some_iff.1 ho).1; simpa using this
      have hg := (headD_head hB i o (by simpa using ho)).1
      have hq := h.2 i hi'
      have ho2 : (hd ++ tl).toArray[i]? = some o := by rw [← ho]; simp [List.getElem?_append_left hin]
      have hq2 : qOp P (hd ++ tl).toArray C i (wpAnyQ P .any hd.toArray C Q1 f (L.setIfInBounds i true)) a := by
        unfold qOp at hq ⊢
        simp only [ho] at hq
        simp only [ho2]
        rw [wanted_none hg] at hq ⊢
        exact hq
      have hc' := count_set L i (by omega) hu
      rw [set_head L _ i (by omega)]
      exact wpOp_of_qOp hw (fun a' w' hw' h' => tail_of_headD hB hQ f _ a' w' hw' (by simpa using hs) (hS.set hs hi') (by omega) h') hq2
/-- The head by one quiet walk, the tail in its order. -/
theorem wp_region_quiet_tailD_at {id : Nat} {Q : Exit → Act → World → Prop} {a : Act} {w : World} {l : List Oper} (n : Nat) (hm : P.follows .mixedOrders = true) (hB : headD (l.take n) (l.drop n) 0 = true) (hH : Region.lexB .any (l.take n).toArray = true)
    (hT : Region.seqB .any l.toArray (l.drop n).length (l.take n).length (Array.replicate (l.take n).length true ++ falses (l.drop n).length) = true)
    (h : wpQuiet P (l.take n).toArray (fun w' => ∃ n, w' = w.drewN n) (fun a' => ∀ w', (∃ n, w' = w.drewN n) → wpList P l.toArray Q (l.drop n) a' w') (l.take n) a) : (Code.region id l.toArray true).wp P Q a w := by
  have e := List.take_append_drop n l
  generalize l.take n = hd at *
  generalize l.drop n = tl at *
  subst e
  simp only [Region.lexB, Bool.and_eq_true] at hH
  have h1 := wpAnyQ_lex (P := P) (C := fun w' => ∃ n, w' = w.drewN n) (md := .any) hH.1 hd 0 (Array.replicate hd.length false) a (by simp) (by simpa using hH.2) h
  have h2 := tail_of_headD (P := P) (C := fun w' => ∃ n, w' = w.drewN n) (Q' := Q) hB (fun a' w' hw' hq => wpAny_of_seq (md := .any) tl hd.length _ a' w' (fun j => by simp [List.getElem?_append_right]) hT (hq w' hw')) hd.length (Array.replicate hd.length false) a { w with drawn := w.drawn + 1 } ⟨1, rfl⟩ (by simp) ⟨fun j o _ hl => (by rw [getD_replicate_false] at hl; cases hl), fun i hi => absurd hi (Nat.not_lt_zero i)⟩ (by simp) h1
  refine wp_region_any hm ?_
  have e : Array.replicate (hd ++ tl).toArray.size false = Array.replicate hd.length false ++ falses tl.length := by
    apply Array.ext_getElem?
    intro j
    simp [falses, Array.getElem?_replicate]
  rw [e, show (hd ++ tl).toArray.size = hd.length + tl.length by simp]
  exact h2
/-- The same where operation 0, which yields in whatever world, has been taken. -/
theorem quiet_tail_from1 {Q : Exit → Act → World → Prop} {a : Act} {w : World} {l : List Oper} (n f : Nat) (hf : f + 1 = l.length) (hn : 0 < n) (hnl : n ≤ l.length) (hB : headD (l.take n) (l.drop n) 1 = true)
    (hH : (Region.noSelect (l.take n).toArray && Region.lexFrom .any (l.take n).toArray (n - 1) 1 ((Array.replicate n false).setIfInBounds 0 true)) = true)
    (hT : Region.seqB .any l.toArray (l.drop n).length (l.take n).length (Array.replicate (l.take n).length true ++ falses (l.drop n).length) = true)
    (h : wpQuiet P (l.take n).toArray (fun w' => ∃ n, w' = w.drewN n) (fun a' => ∀ w', (∃ n, w' = w.drewN n) → wpList P l.toArray Q (l.drop n) a' w') ((l.take n).drop 1) a) :
    wpAny P .any l.toArray Q f ((Array.replicate l.toArray.size false).setIfInBounds 0 true) a w.drew := by
  have e := List.take_append_drop n l
  have hnh : (l.take n).length = n := by rw [List.length_take]; omega
  have hft : f = (n - 1) + (l.drop n).length := by rw [List.length_drop]; omega
  generalize l.take n = hd at *
  generalize l.drop n = tl at *
  subst e
  rw [Bool.and_eq_true] at hH
  have hdl : (hd.drop 1).length = n - 1 := by rw [List.length_drop, hnh]
  have h1 := wpAnyQ_lex (P := P) (C := fun w' => ∃ n, w' = w.drewN n) (md := .any) hH.1 (hd.drop 1) 1 ((Array.replicate n false).setIfInBounds 0 true) a (fun j => by rw [List.getElem?_drop]; simp) (by rw [hdl]; exact hH.2) h
  have hcnt : ((Array.replicate n false).setIfInBounds 0 true).toList.count false + 1 = n := by
    have := count_set (Array.replicate n false) 0 (by simpa using hn) (by simp [hn])
    rw [this]
    simp
  have hsh : Shut hd 1 ((Array.replicate n false).setIfInBounds 0 true) := by
    refine ⟨fun j o hj hl e he hb => ?_, fun i hi hs => ?_⟩
    · rcases Nat.eq_zero_or_pos j with h0 | h0
      · subst h0
        have := (headD_head hB 0 o hj).2 e he
        omega
      · rw [getD_set_ne false (by omega), getD_replicate_false] at hl
        cases hl
    · obtain rfl : i = 0 := by omega
      simp [hn]
  have h2 := tail_of_headD (P := P) (C := fun w' => ∃ n, w' = w.drewN n) (Q1 := fun a' => ∀ w', (∃ n, w' = w.drewN n) → wpList P (hd ++ tl).toArray Q tl a' w') (Q' := Q) hB (fun a' w' hw' hq => wpAny_of_seq (md := .any) tl hd.length _ a' w' (fun j => by simp [List.getElem?_append_right]) hT (hq w' hw')) (n - 1) ((Array.replicate n false).setIfInBounds 0 true) a w.drew ⟨1, rfl⟩ (by simp [hnh]) hsh (by omega) (by rw [← hdl]; exact h1)
  have e : (Array.replicate (hd ++ tl).toArray.size false).setIfInBounds 0 true = (Array.replicate n false).setIfInBounds 0 true ++ falses tl.length := by
    rw [← set_head _ _ 0 (by simpa using hn)]
    congr 1
    apply Array.ext_getElem?
    intro j
    simp [falses, Array.getElem?_replicate, hnh]
  rw [e, hft]
  exact h2
end
end Go.Proofs.YtcgenmogedndjaaDoor
