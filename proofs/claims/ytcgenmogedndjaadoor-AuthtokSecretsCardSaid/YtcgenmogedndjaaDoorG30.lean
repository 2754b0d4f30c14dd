/- The texts MadeOf, SlicesSec in one. -/
import Derived.Test.YtcgenmogedndjaaDoorG01
import Derived.Test.YtcgenmogedndjaaDoorG03
import Derived.Test.YtcgenmogedndjaaDoorG27
import Derived.Test.YtcgenmogedndjaaDoorG29
import Derived.Lib.SliceRun
import Derived.Deep.SlicePairs
namespace Go.Proofs.YtcgenmogedndjaaDoor
open Go.RowKit Go.Proofs.YtcgenmogedndjaaDoorW.PrintWords
theorem RdS.take {w : World} {A : Option Addr} {n : Nat} {L : List Sec} (h : RdS w A n L) (k : Nat) (hk : k ≤ n) : RdS w A k (L.take k) := by
  have hl := Kd.C_len h
  have := Kd.C_take (k := secK) (m := k) (hl ▸ h) (by omega)
  rw [List.length_take, Nat.min_eq_left (by omega)] at this
  exact this
set_option maxRecDepth 20000 in
set_option maxHeartbeats 3200000 in
theorem madeOf_calls {n : Nat} (A : Option Addr) (c : Nat) (L : List Sec) (ca cb : ByteArray) (cu : Int) (s : ByteArray) (w : World) (hr0 : RdS w A n L) (hnc : n ≤ c) (hok : SecOk L) (hca : ca.size ≤ 65536) (hcb : cb.size ≤ 65536) (hcu : -9223372036854775808 ≤ cu ∧ cu ≤ 9223372036854775807) (hG : Laid w)
    (i0 : Nat) (hi0 : i0 < n) (hmk : makeR (L.take (i0 + 1)) ⟨ca, cb, cu⟩ = (s, 0)) :
    Calls Tryd.prog 14 #[.slice A n c, .agg #[.string ca, .string cb, .int .i64 cu], .string s] w fun e w' => e = .returned (.bool true) ∧ Below w.heap.size w w' := by
  obtain ⟨g, hg⟩ : ∃ g, g = w.heap.size := ⟨_, rfl⟩
  obtain ⟨W0, hW0⟩ : ∃ W0, W0 = w.alloc (.cells #[.string ca, .string cb, .int .i64 cu] 24) := ⟨_, rfl⟩
  have hbw : Below w.heap.size w W0 := by rw [hW0]; exact below_alloc (Below.refl _ _) _
  have hwh : Whole W0 g 24 #[.string ca, .string cb, .int .i64 cu] := by rw [hW0, hg]; exact Whole.new w _ _
  have hlen : L.length = n := Kd.C_len hr0
  have hmax : n ≤ 9223372036854775807 := Kd.C_max hr0
  have HS := Lib.hid (show g = w.heap.size ∧ W0 = w.alloc _ from ⟨hg, hW0⟩)
  have HI := Lib.hid (show RdS W0 A n L ∧ SecOk L ∧ Laid W0 ∧ Below w.heap.size w W0 ∧ L.length = n ∧ Whole W0 g 24 #[.string ca, .string cb, .int .i64 cu] ∧ n ≤ 9223372036854775807 from ⟨Kd.C_below hr0 hbw, hok, hG.below hbw hG.lt, hbw, hlen, hwh, hmax⟩)
  have HC := Lib.hid (show ca.size ≤ 65536 ∧ cb.size ≤ 65536 ∧ -9223372036854775808 ≤ cu ∧ cu ≤ 9223372036854775807 from ⟨hca, hcb, hcu⟩)
  have HM := Lib.hid (show i0 < n ∧ makeR (L.take (i0 + 1)) ⟨ca, cb, cu⟩ = (s, 0) from ⟨hi0, hmk⟩)
  have HN := Lib.hid hnc
  clear hg hW0 hbw hwh hr0 hok hG hlen hmax hca hcb hcu hi0 hmk hnc
  go_enter Tryd.func14, Tryd.ntmps14
  go_upto_region 1 with (fail)
  rw [← HS.out.1, ← HS.out.2]
  go_wp2
  go_loopw [12] (fun i wr => ∃ k : Nat, k ≤ i0 ∧ i = .int .i64 k ∧ Hid (Below W0.heap.size W0 wr)) (fun i _ => n - (intOf i).toNat)
  case atStart => exact ⟨0, by omega, rfl, Lib.hid (Below.refl _ _)⟩
  case round =>
    obtain ⟨k, hk, rfl, HD⟩ := hrel
    have hkn : k < n := by have := HM.out.1; omega
    have dkn : decide ((k : Int) < n) = true := decide_eq_true (by omega)
    have dkn' : decide (k < n) = true := decide_eq_true hkn
    have hmx := HI.out.2.2.2.2.2.2
    have wk : IntKind.i64.wrap ((k : Int) + 1) = k + 1 := wrap_id (by omega) (by omega)
    have tk : ((k : Int) + 1).toNat = k + 1 := by omega
    have j0 : (0 : Int) ≤ (k : Int) + 1 := by omega
    have j1 : (k : Int) + 1 ≤ c := by have := HN.out; omega
    have hwq := HI.out.2.2.2.2.2.1.below HD.out HI.out.2.2.2.2.2.1.lt
    have x0 := hwq.cell 0 _ rfl
    have x1 := hwq.cell 1 _ rfl
    have x2 := hwq.cell 2 _ rfl
    have HQ := Lib.hid hwq
    have HK := Lib.hid (And.intro hk hkn)
    have hmc := makeR_cases (L.take (k + 1)) ⟨ca, cb, cu⟩
    have hme : k = i0 → makeR (L.take (k + 1)) ⟨ca, cb, cu⟩ = (s, 0) := fun e => by rw [e]; exact HM.out.2
    obtain ⟨R, hR⟩ : ∃ R, R = makeR (L.take (k + 1)) ⟨ca, cb, cu⟩ := ⟨_, rfl⟩
    rw [← hR] at hmc hme
    have HR := Lib.hid hR
    have HME := Lib.hid hme
    clear hwq hmx hR hme hk hkn
    go_upto_region 4 with (fail)
    go_region_held3 (fun w' => w'.cell? ⟨g, 0, none⟩ = some (.string ca) ∧ w'.cell? ⟨g, 1, none⟩ = some (.string cb) ∧ w'.cell? ⟨g, 2, none⟩ = some (.int .i64 cu))
      (first
        | exact ⟨x0, x1, x2⟩
        | exact ⟨pw_cell_below HB2.out.2 x0, pw_cell_below HB2.out.2 x1, pw_cell_below HB2.out.2 x2⟩
        | go_keep)
      (first
        | (go_at_call 12; (with_reducible refine (Make_calls A c (L.take (k + 1)) ca cb cu _ (RdS.take (Kd.C_below HI.out.1 (below_drew HD.out)) (k + 1) (Nat.succ_le_of_lt HK.out.2)) (HI.out.2.1.sub (List.take_sublist _ _)) HC.out.1 HC.out.2.1 HC.out.2.2 (HI.out.2.2.1.below (below_drew HD.out) HI.out.2.2.1.lt)).mono ?_); rintro e w2 ⟨rfl, hb2⟩; rw [← HR.out]; have HB2 := Lib.hid (show Below W0.heap.size W0 w2 ∧ Below wr.heap.size wr w2 from ⟨below_step (below_drew HD.out) hb2, below_step (below_drew (Below.refl _ _)) hb2⟩); clear hb2))
    clear x0 x1 x2
    rcases hmc with ⟨e, he0, he, rfl⟩ | ⟨_, _, he⟩
    · have HNE := Lib.hid (show k ≠ i0 from fun h => by
        have h2 := congrArg Prod.snd (HME.out h)
        exact he0 h2)
      clear he0
      rcases he with (rfl | rfl | rfl)
      · go_wp2
        go_roundw
        case rel => exact ⟨k + 1, by have := HK.out; have := HNE.out; omega, by go_num, Lib.hid HB2.out.1⟩
        case measure => have := HK.out; simp [intOf]; omega
      · go_wp2
        go_roundw
        case rel => exact ⟨k + 1, by have := HK.out; have := HNE.out; omega, by go_num, Lib.hid HB2.out.1⟩
        case measure => have := HK.out; simp [intOf]; omega
      · go_wp2
        go_roundw
        case rel => exact ⟨k + 1, by have := HK.out; have := HNE.out; omega, by go_num, Lib.hid HB2.out.1⟩
        case measure => have := HK.out; simp [intOf]; omega
    · obtain ⟨rs, hrs⟩ : ∃ rs, rs = tokS (newest (L.take (k + 1))) ⟨ca, cb, cu⟩ := ⟨_, rfl⟩
      rw [← hrs] at he
      clear hrs
      subst he
      by_cases hse : rs = s
      · subst hse
        have deq : (rs.toList == rs.toList) = true := beq_self_eq_true _
        go_wp2
        go_ret
        exact ⟨rfl, below_step HI.out.2.2.2.1 HB2.out.1⟩
      · have HNE := Lib.hid (show k ≠ i0 from fun h => hse (congrArg Prod.fst (HME.out h)))
        have deq : (rs.toList == s.toList) = false := beq_eq_false_iff_ne.2 fun h => hse (toList_inj h)
        clear hse
        go_wp2
        go_roundw
        case rel => exact ⟨k + 1, by have := HK.out; have := HNE.out; omega, by go_num, Lib.hid HB2.out.1⟩
        case measure => have := HK.out; simp [intOf]; omega
end Go.Proofs.YtcgenmogedndjaaDoor
namespace Go.Proofs.YtcgenmogedndjaaDoor
open Go.RowKit Go.Proofs.YtcgenmogedndjaaDoorW.PrintWords
abbrev RawS := Int × (Option Addr × Nat × Nat)
def slE (p : Option Addr × Nat × Nat) : Value := .slice p.1 p.2.1 p.2.2
/-- A secret's cells, whatever the key is. -/
def rawK : Kd RawS := Kd.pair (Kd.int .i64) (Kd.scalar slE (fun _ => rfl))
/-- These cells tell these secrets. -/
def Tells (w : World) (rs : List RawS) (L : List Sec) : Prop := rs.length = L.length ∧ ∀ (i : Nat) (p : RawS), rs[i]? = some p → ∃ s : Sec, L[i]? = some s ∧ p.1 = s.id ∧ p.2.2.1 = s.key.length ∧ s.key.length ≤ p.2.2.2 ∧ Rd w p.2.1 s.key.length s.key
theorem Tells.below {w w1 : World} {rs : List RawS} {L : List Sec} (h : Tells w rs L) (hb : Below w.heap.size w w1) : Tells w1 rs L :=
  ⟨h.1, fun i p hi => by obtain ⟨s, h1, h2, h3, h4, h5⟩ := h.2 i p hi; exact ⟨s, h1, h2, h3, h4, Kd.C_below h5 hb⟩⟩
theorem Tells.erase {w : World} {rs : List RawS} {L : List Sec} (h : Tells w rs L) (k : Nat) : Tells w (rs.eraseIdx k) (L.eraseIdx k) := by
  refine ⟨?_, fun i p hi => ?_⟩
  · rw [List.length_eraseIdx, List.length_eraseIdx, h.1]
  · rw [List.getElem?_eraseIdx] at hi ⊢
    split at hi
    · rename_i hk
      rw [if_pos hk]
      exact h.2 i p hi
    · rename_i hk
      rw [if_neg hk]
      exact h.2 (i + 1) p hi
theorem RdS.raw {w : World} {A : Option Addr} {n : Nat} {L : List Sec} (h : RdS w A n L) : ∃ rs, Kd.C rawK w A n rs ∧ Tells w rs L := by
  have hl := Kd.C_len h
  have each : ∀ i, i < n → ∃ p : RawS, p.1 = (L.getD i Sec.none).id ∧ p.2.2.1 = (L.getD i Sec.none).key.length ∧ (L.getD i Sec.none).key.length ≤ p.2.2.2 ∧ Rd w p.2.1 (L.getD i Sec.none).key.length (L.getD i Sec.none).key ∧
      ∀ ad, A = some ad → w.cell? (ad.add (i * 2)) = some (.int .i64 p.1) ∧ w.cell? (ad.add (i * 2 + 1)) = some (slE p.2) := by
    intro i hi
    obtain ⟨ad, Ai, ci, rfl, x0, x1, hci, hrd⟩ := h.at i hi
    refine ⟨((L.getD i Sec.none).id, Ai, (L.getD i Sec.none).key.length, ci), rfl, rfl, hci, hrd, fun ad' e => ?_⟩
    cases e
    refine ⟨x0, ?_⟩
    rw [add_field _ _ 1 (by omega)]
    exact x1
  obtain ⟨q, hq⟩ := Deep.choose_lt each
  refine ⟨(List.range n).map q, ⟨by simp, Kd.C_max h, fun hp => ?_⟩, by simp [hl], fun i p hi => ?_⟩
  · obtain ⟨ad, e, _⟩ := h.2.2 hp
    refine ⟨ad, e, fun j p hj => ?_⟩
    rw [List.getElem?_map] at hj
    have hjl : j < n := by
      rcases Nat.lt_or_ge j n with h | h
      · exact h
      · rw [List.getElem?_eq_none (by simpa using h)] at hj
        cases hj
    rw [List.getElem?_range hjl] at hj
    simp only [Option.map_some, Option.some.injEq] at hj
    subst hj
    obtain ⟨_, _, _, _, h5⟩ := hq j hjl
    obtain ⟨h0, h1⟩ := h5 ad e
    refine ⟨[.int .i64 (q j).1, slE (q j).2], rfl, ⟨[.int .i64 (q j).1], [slE (q j).2], rfl, rfl, rfl⟩, fun i u hu => ?_⟩
    rcases i with _ | _ | i
    · rw [show rawK.sz = 2 from rfl, Nat.add_zero, h0]
      simpa using hu
    · rw [show rawK.sz = 2 from rfl, h1]
      simpa using hu
    · simp at hu
  · rw [List.getElem?_map] at hi
    have hjl : i < n := by
      rcases Nat.lt_or_ge i n with h | h
      · exact h
      · rw [List.getElem?_eq_none (by simpa using h)] at hi
        cases hi
    rw [List.getElem?_range hjl] at hi
    simp only [Option.map_some, Option.some.injEq] at hi
    subst hi
    obtain ⟨h1, h2, h3, h4, _⟩ := hq i hjl
    refine ⟨L.getD i Sec.none, ?_, h1, h2, h3, h4⟩
    rw [List.getD_eq_getElem?_getD, List.getElem?_eq_getElem (by omega)]
    rfl
theorem RdS.of_raw {w : World} {A : Option Addr} {n : Nat} {rs : List RawS} {L : List Sec} (h : Kd.C rawK w A n rs) (ht : Tells w rs L) : RdS w A n L := by
  have hl := Kd.C_len h
  refine ⟨by rw [← ht.1, hl], Kd.C_max h, fun hp => ?_⟩
  obtain ⟨ad, e, hc⟩ := h.2.2 hp
  refine ⟨ad, e, fun j p hj => ?_⟩
  have hjl := (List.getElem?_eq_some_iff.1 hj).1
  have hj2 : j < rs.length := by rw [ht.1]; exact hjl
  obtain ⟨s, h1, h2, h3, h4, h5⟩ := ht.2 j _ (List.getElem?_eq_getElem hj2)
  rw [hj] at h1
  cases h1
  obtain ⟨cs, hs, ⟨_, _, rfl, rfl, rfl⟩, hcell⟩ := hc j _ (List.getElem?_eq_getElem hj2)
  refine ⟨_, hs, ⟨[.int .i64 p.id], [.slice (rs[j]'hj2).2.1 p.key.length (rs[j]'hj2).2.2.2], by rw [← h2, ← h3]; rfl, rfl, ⟨_, _, rfl, h4, h5⟩⟩, hcell⟩
theorem raw_new (w : World) : Kd.R rawK 42 (w.alloc (.cells #[] 42)) w.heap.size (fun _ => True) (.slice (some ⟨w.heap.size, 0, none⟩) 0 0) [] :=
  ⟨fun _ _ => trivial, [], ⟨rfl, .inr ⟨w.heap.size, 0, #[], rfl, Nat.le_refl _, heap_alloc_new w _, Nat.le_refl _, Nat.zero_le _, rfl, rfl⟩⟩, rfl, fun j p hj => by simp at hj⟩
set_option maxRecDepth 20000 in
set_option maxHeartbeats 1600000 in
theorem CloneS_calls {n : Nat} (a : Addr) (c0 : Nat) (rs : List RawS) (w : World) (hr0 : Kd.C rawK w (some a) n rs) (hn : n ≤ 1099511627776) :
    Calls Tryd.prog 17 #[.slice (some a) n c0] w fun e w' => ∃ v : Value, e = .returned v ∧ Kd.R rawK 42 w' w.heap.size (fun _ => True) v rs ∧ Below w.heap.size w w' := by
  have HR := Lib.hid hr0
  clear hr0
  have e1 := fun (n c : Nat) (W : World) => Lib.run_eql_slice_nil (P := Tryd.prog) W 22 42 (some a) n c 0 0 Tryd.underlying22
  go_enter Tryd.func17, Tryd.ntmps17
  go_wp2_with (at_builtin; refine Kd.R_append_rows rawK (w0 := w) w.heap.size rfl (.tmp 5) (.tmp 6) 22 42 (.agg #[.int .i64 0, .slice none 0 0]) 32 rfl Tryd.underlying22 info_sec rfl (by decide) (by decide) _ [] rs _ _ _ (fun _ => True) (fun _ => False) rfl rfl ?aO ?aR (fun _ _ h => h) (fun _ h => h.elim) ?aF ?aB ?aS ?aL ?_)
  case aO => exact raw_new w
  case aR => exact Kd.C_alloc HR.out _
  case aF => exact fun _ _ => trivial
  case aB => exact below_alloc (Below.refl _ _) _
  case aS => simp
  case aL => simp only [List.length_nil]; omega
  intro v1 w1 ho1 hb1 _ _
  have H1 := Lib.hid (And.intro ho1 hb1)
  clear ho1 hb1
  go_wp2
  go_ret
  exact ⟨_, rfl, H1.out.1, H1.out.2⟩
/-- Cells behind a row's end, written: the row stays. -/
theorem R_behind {W : World} {g n c base : Nat} {rs : List RawS} {ok : Nat → Prop} (HO : Kd.R rawK 42 W base ok (.slice (some ⟨g, 0, none⟩) n c) rs) (o : Nat) (ho : n * 2 ≤ o) (vs : List Value) (hf : o + vs.length ≤ c * 2) :
    Kd.R rawK 42 (W.setCells g o vs) base ok (.slice (some ⟨g, 0, none⟩) n c) rs ∧ W.grownBy (W.setCells g o vs) (some g) ∧ (∀ j, j < c * 2 → (W.cell? ⟨g, 0 + j, none⟩).isSome = true ∧ W.frozen? ⟨g, 0 + j, none⟩ = false) := by
  obtain ⟨hn, hnc, _⟩ := Kd.R_reads' HO
  obtain ⟨hok, inner, hown, hr⟩ := HO
  rcases hown.2 with ⟨hv, _⟩ | ⟨g', cap', cur, hv, hb, hh, _, hcm, hcs, htake⟩
  · cases hv
  injection hv with ha _ hc
  injection ha with ha
  injection ha with hg
  subst hg; subst hc
  rw [← hn] at htake
  have hcs2 : cur.size = c * 2 := hcs
  obtain ⟨cur', h3, h4, h5⟩ := setCells_row vs o W cur hh (by omega)
  obtain ⟨s1, s2, s3, s4⟩ := setCells_same g vs o W
  have hfar : ∀ k', k' ≠ g → (W.setCells g o vs).heap[k']? = W.heap[k']? := fun k' hk' => setCells_far vs _ k' hk'
  refine ⟨⟨hok, inner, ⟨hown.1, .inr ⟨g, c, cur', by rw [← hn], hb, h3, by omega, hcm, by rw [h4, hcs], ?_⟩⟩, ?_⟩, ⟨s1, s2, s3, by rw [s4]; exact Nat.le_refl _, fun k' _ hk' => hfar k' (fun he => hk' (by rw [he]))⟩, fun j hj => ?_⟩
  · have h6 := congrArg (List.take (n * 2)) h5
    rw [List.append_assoc, List.take_append_of_le_length (by rw [List.length_take, Array.length_toList]; omega), List.take_take, Nat.min_eq_left (by omega)] at h6
    rw [← hn]
    exact h6.trans htake
  · exact hr.imp_ (fun p q hp => rawK.M_move (fun k' hk' => hfar k' (fun he => hk'.2 (by rw [he]; simp [Value.ownBlock]))) hp)
  · rw [Nat.zero_add]
    refine ⟨?_, blk_frozen hh _⟩
    rw [cell_of_row W g _ cur 42 (0, 0) hh]
    simp
    omega
/-- clear(s) on one secret. -/
theorem clear_sec (W : World) (ty : TypeId) (g o c2 : Nat) (hc : ∀ j, j < 2 → (W.cell? ⟨g, o + j, none⟩).isSome = true ∧ W.frozen? ⟨g, o + j, none⟩ = false) :
    (Builtin.clear_ #[22] ty #[.slice (some ⟨g, o, none⟩) 1 c2]).run Tryd.prog W = .ok (.tuple #[]) (W.setCells g o [.int .i64 0, .slice none 0 0]) := by
  have hst := run_storeCells_cells (P := Tryd.prog) g o [.int .i64 0, .slice none 0 0] 0 W (fun j hj => by rw [Nat.add_zero]; exact (hc j hj).1) (fun j hj => by rw [Nat.add_zero]; exact (hc j hj).2) (by simp [Value.oneCell'])
  simp only [Nat.add_zero] at hst
  have hzc : (Builtin.zeroCells (Value.agg #[.int .i64 0, .slice none 0 0]).cells 1).toList = [.int .i64 0, .slice none 0 0] := by simp [Builtin.zeroCells, Value.cells, List.range_succ]
  simp [Builtin.clear_, hzc, hst]
theorem del_addr (g c k : Nat) : (if c = k + 1 then some (⟨g, 0, none⟩ : Addr) else some ⟨g, (k + 1) * 2, none⟩) = if c = k + 1 then some ⟨g, 0, none⟩ else (some (⟨g, 0, none⟩ : Addr)).map (·.add ((k + 1) * rawK.sz)) := by
  rw [Option.map_some, add_plain]
  rfl
theorem info_sz : (Tryd.prog.info? 42).map (·.size) = some rawK.sz := by kernel_rfl
set_option maxRecDepth 20000 in
set_option maxHeartbeats 1600000 in
theorem DeleteS_calls {n k : Nat} (g c base : Nat) (rs : List RawS) (w : World) (hr0 : Kd.R rawK 42 w base (fun _ => True) (.slice (some ⟨g, 0, none⟩) n c) rs) (hbase : base ≤ w.heap.size) (hk : k < n) (hn : n ≤ 1099511627776) :
    Calls Tryd.prog 16 #[.slice (some ⟨g, 0, none⟩) n c, .int .i64 k, .int .i64 ((k : Int) + 1)] w fun e w' => e = .returned (.slice (some ⟨g, 0, none⟩) (n - 1) c) ∧ Kd.C rawK w' (some ⟨g, 0, none⟩) (n - 1) (rs.eraseIdx k) ∧ Below base w w' := by
  obtain ⟨hl, hnc, _⟩ := Kd.R_reads' hr0
  have HR := Lib.hid (show Kd.R rawK 42 w base (fun _ => True) (.slice (some ⟨g, 0, none⟩) n c) rs ∧ base ≤ w.heap.size ∧ k < n ∧ n ≤ 1099511627776 ∧ n ≤ c ∧ n = rs.length from ⟨hr0, hbase, hk, hn, hnc, hl⟩)
  have i0 : (0 : Int) ≤ k := by omega
  have i1 : (k : Int) ≤ (k : Int) + 1 := by omega
  have i2 : (k : Int) + 1 ≤ n := by omega
  have i3 : (n : Int) ≤ c := by omega
  have i4 : (k : Int) + 1 ≤ c := by omega
  have i5 : (k : Int) ≤ c := by omega
  have i6 : (k : Int) ≤ n := by omega
  have i7 : (0 : Int) ≤ (k : Int) + 1 := by omega
  have t1 : ((k : Int) + 1).toNat = k + 1 := by omega
  have e1 : ((k : Int) == (k : Int) + 1) = false := beq_eq_false_iff_ne.2 (by omega)
  have e2 : (k == k + 1) = false := beq_eq_false_iff_ne.2 (by omega)
  clear hr0 hbase hk hn hl hnc
  go_enter Tryd.func16, Tryd.ntmps16
  go_upto_region 5 with (fail)
  obtain ⟨n1, hn1⟩ : ∃ m, m = n - 1 := ⟨_, rfl⟩
  have HN := Lib.hid hn1
  clear hn1
  go_region_held3 (fun _ => True) (trivial) (first
    | (refine Kd.R_delete_step rawK (w0 := w) base (by rfl) (.tmp 22) (.tmp 25) 22 42 rfl Tryd.underlying22 info_sz (g := g) (n := n) (k := k) rfl rfl (del_addr g c k) rfl (Kd.R_drew HR.out.1) HR.out.2.2.1 (below_drew (Below.refl _ _)) HR.out.2.1 ?_
       intro w9 ho9 hb9 _
       rw [← HN.out] at ho9 ⊢
       have H9 := Lib.hid (And.intro ho9 hb9)
       clear ho9 hb9)
    | (fail))
  have hne : ¬ (c = n1) := by have := HR.out; have := HN.out; omega
  have d1 : n - n1 = 1 := by have := HR.out; have := HN.out; omega
  have j0 : (0 : Int) ≤ n1 := by omega
  have j1 : (n1 : Int) ≤ n := by have := HN.out; omega
  obtain ⟨K1, K3, K2⟩ := R_behind H9.out.1 (n1 * 2) (Nat.le_refl _) [.int .i64 0, .slice none 0 0] (by have := HR.out; have := HN.out; simp only [List.length_cons, List.length_nil]; omega)
  have hcl := fun ty c2 => clear_sec w9 ty g (n1 * 2) c2 (fun j hj => by have h := K2 (n1 * 2 + j) (by have := HR.out; have := HN.out; omega); rw [Nat.zero_add] at h; exact h)
  have hbb : Below base w (w9.setCells g (n1 * 2) [.int .i64 0, .slice none 0 0]) := H9.out.2.grown K3 (Nat.le_trans HR.out.2.1 H9.out.2.size) (fun k hk => by injection hk with hk; rw [← hk]; exact Kd.R_base H9.out.1 _ (by simp [Value.ownBlock]))
  obtain ⟨W8, hW8⟩ : ∃ W, W = w9.setCells g (n1 * 2) [.int .i64 0, .slice none 0 0] := ⟨_, rfl⟩
  rw [← hW8] at K1 hbb hcl
  have H8 := Lib.hid (show Kd.C rawK W8 (some ⟨g, 0, none⟩) n1 (rs.eraseIdx k) ∧ Below base w W8 from ⟨by have h := Kd.R_reads' K1; rw [← h.1] at h; exact h.2.2, hbb⟩)
  clear hW8 K1 K2 K3 hbb
  go_wp2
  all_goals go_ret
  all_goals rw [← HN.out]
  all_goals exact ⟨rfl, H8.out⟩
end Go.Proofs.YtcgenmogedndjaaDoor
