/- The walk of a law: WsockWritesWalk. -/
import Derived.Test.YtcfbfmgckaehdaaDoorH01
import Derived.Test.YtcfbfmgckaehdaaDoorH11
import Derived.Test.YtcfbfmgckaehdaaDoorH13
import Derived.Test.YtcfbfmgckaehdaaDoorH15
namespace Go.Proofs.YtcfbfmgckaehdaaDoor
open Go.RowKit Go.Proofs.YtcfbfmgckaehdaaDoorW.PrintWords
/-- What stands behind the first copies: the frame, its copy, the mask's copy. -/
def GivenAt (w W : World) (gf g9 : Nat) (fin : Bool) (op : Int) (A : Option Addr) (n c : Nat) (A9 : Option Addr) (c9 : Nat) (Ak : Option Addr) (m ck : Nat) (mk : List Int) : Prop :=
  Below w.heap.size w W ∧ Whole W gf 26 #[.bool fin, .int .i64 op, .slice A n c] ∧ Whole W g9 26 #[.bool fin, .int .i64 op, .slice A9 n c9] ∧ Own w W (.slice Ak m ck) mk ∧ some g9 ≠ (Value.slice Ak m ck).ownBlock ∧ w.heap.size ≤ g9 ∧ g9 ≠ gf ∧ m ≤ ck
theorem GivenAt.below {w W W' : World} {gf g9 : Nat} {fin : Bool} {op : Int} {A : Option Addr} {n c : Nat} {A9 : Option Addr} {c9 : Nat} {Ak : Option Addr} {m ck : Nat} {mk : List Int} (h : GivenAt w W gf g9 fin op A n c A9 c9 Ak m ck mk) (hb : Below W.heap.size W W') : GivenAt w W' gf g9 fin op A n c A9 c9 Ak m ck mk :=
  ⟨below_step h.1 hb, h.2.1.below hb h.2.1.lt, h.2.2.1.below hb h.2.2.1.lt, h.2.2.2.1.below hb, h.2.2.2.2⟩
theorem GivenAt.row {w W : World} {gf g9 : Nat} {fin : Bool} {op : Int} {A : Option Addr} {n c : Nat} {A9 : Option Addr} {c9 : Nat} {Ak : Option Addr} {m ck : Nat} {mk : List Int} (h : GivenAt w W gf g9 fin op A n c A9 c9 Ak m ck mk) : Rd W Ak m mk := by
  have h1 := Kd.R_reads' h.2.2.2.1
  rw [← h1.1] at h1
  exact h1.2.2
theorem rel_A {w W0 w1 : World} {gf : Nat} {fin : Bool} {op : Int} {A : Option Addr} {n c : Nat} {Ak : Option Addr} {m ck : Nat} {mk : List Int} (hb0 : Below w.heap.size w W0) (hk0 : Whole W0 gf 26 #[.bool fin, .int .i64 op, .slice A n c]) (hb : Below W0.drew.heap.size W0.drew w1) (ho : Own W0.drew w1 (.slice Ak m ck) mk) (hck : m ≤ ck) :
    GivenAt w (w1.alloc (.cells #[.bool fin, .int .i64 op, .slice A n c] 26)) gf w1.heap.size fin op A n c A c Ak m ck mk := by
  have hb1 : Below W0.heap.size W0 w1 := below_step (below_drew (Below.refl _ _)) hb
  have hw1 : Below w.heap.size w w1 := below_step hb0 hb1
  have hk1 := hk0.below hb1 hk0.lt
  have hba : Below w1.heap.size w1 (w1.alloc (.cells #[.bool fin, .int .i64 op, .slice A n c] 26)) := below_alloc (Below.refl _ _) _
  exact ⟨below_step hw1 hba, hk1.below hba hk1.lt, Whole.new w1 _ _, (ho.below hba).lower hb0.size, fun e => by have h := ho.lt _ e.symm; omega, hw1.size, by have := hk1.lt; omega, hck⟩
theorem rel_B {w W0 w1 : World} {gf : Nat} {fin : Bool} {op : Int} {A : Option Addr} {n c : Nat} {Ak : Option Addr} {m ck : Nat} {mk : List Int} {o : Obj} (hb0 : Below w.heap.size w W0) (hk0 : Whole W0 gf 26 #[.bool fin, .int .i64 op, .slice A n c]) (hb : Below (W0.alloc o).drew.heap.size (W0.alloc o).drew w1) (ho : Own (W0.alloc o).drew w1 (.slice Ak m ck) mk) (hck : m ≤ ck) (hz : Whole w1 W0.heap.size 26 #[.bool false, .int .i64 0, .slice none 0 0]) :
    GivenAt w (((w1.setCell ⟨W0.heap.size, 0, none⟩ (.bool fin)).setCell ⟨W0.heap.size, 1, none⟩ (.int .i64 op)).setCell ⟨W0.heap.size, 2, none⟩ (.slice A n c)) gf W0.heap.size fin op A n c A c Ak m ck mk := by
  have hb1 : Below W0.heap.size W0 w1 := below_step (below_drew (below_alloc (Below.refl _ _) _)) hb
  have hw1 : Below w.heap.size w w1 := below_step hb0 hb1
  have hk1 := hk0.below hb1 hk0.lt
  have hne : W0.heap.size ≠ gf := by have := hk0.lt; omega
  have hs : (W0.alloc o).drew.heap.size = W0.heap.size + 1 := size_alloc W0 o
  have hno : some W0.heap.size ≠ (Value.slice Ak m ck).ownBlock := fun e => by have h := ho.ge _ e.symm; omega
  exact ⟨((hw1.setCell hb0.size _).setCell hb0.size _).setCell hb0.size _, ((hk1.other hne _).other hne _).other hne _, ((hz.set 0 _).set 1 _).set 2 _, (((ho.lower (by have := hb0.size; omega)).far hno _).far hno _).far hno _, hno, hb0.size, hne, hck⟩
theorem tx_Bytes (code : Int) (s : ByteArray) : Bytes (if txE code s = 0 then txL code s else []) := by
  split
  · rename_i h
    have hm : mayB code = true := by
      unfold txE at h
      split at h
      · cases h
      · rename_i hn; simpa using hn
    have hc : 0 ≤ code ∧ code ≤ 4999 := by have := of_decide_eq_true (show decide (1000 ≤ code ∧ code ≤ 1003 ∨ 1007 ≤ code ∧ code ≤ 1011 ∨ 3000 ≤ code ∧ code ≤ 4999) = true from hm); omega
    unfold txL
    exact Bytes.app (Bytes.con (by omega) (by omega) (Bytes.con (by omega) (by omega) Bytes.nil)) (Bytes_bytesOf s)
  · exact Bytes.nil
set_option maxRecDepth 20000 in
set_option maxHeartbeats 6400000 in
theorem WsockWrites_walk (fin : Bool) (op : Int) (A : Option Addr) (c : Nat) (l : List Int) (A1 : Option Addr) (c1 : Nat) (mk : List Int) (code : Int) (s : ByteArray) (w : World) (hr : Rd w A l.length l) (hc : l.length ≤ c) (hb : Bytes l) (_hop : -9223372036854775808 ≤ op ∧ op ≤ 9223372036854775807)
    (hr1 : Rd w A1 mk.length mk) (hc1 : mk.length ≤ c1) (_hs1 : mk.length ≤ 140737488351232) (hb1 : Bytes mk) (_hk : (Lit.int .i64 code).wf = true) (_hs : s.size ≤ 140737488351232) :
    Calls Tryd.prog 6 #[.agg #[.bool fin, .int .i64 op, .slice A l.length c], .slice A1 mk.length c1, .int .i64 code, .string s] w fun e w' => e = .returned (.bool true) ∧ Below w.heap.size w w' := by
  obtain ⟨m, hm⟩ : ∃ m, m = mk.length := ⟨_, rfl⟩
  rw [← hm] at hr1 hc1 ⊢
  obtain ⟨gf, hgf⟩ : ∃ g, g = w.heap.size := ⟨_, rfl⟩
  obtain ⟨W0, hW0⟩ : ∃ W0, W0 = w.alloc (.cells #[.bool fin, .int .i64 op, .slice A l.length c] 26) := ⟨_, rfl⟩
  have hb0 : Below w.heap.size w W0 := by rw [hW0]; exact below_alloc (Below.refl _ _) _
  have hk0 : Whole W0 gf 26 #[.bool fin, .int .i64 op, .slice A l.length c] := by rw [hW0, hgf]; exact Whole.new w _ _
  have HS := Lib.hid (show gf = w.heap.size ∧ W0 = w.alloc _ from ⟨hgf, hW0⟩)
  have HM := Lib.hid (show Below w.heap.size w W0 ∧ Whole W0 gf 26 #[.bool fin, .int .i64 op, .slice A l.length c] from ⟨hb0, hk0⟩)
  have HI := Lib.hid (show Rd w A l.length l ∧ l.length ≤ c ∧ Bytes l ∧ Rd w A1 m mk ∧ m ≤ c1 ∧ Bytes mk ∧ mk.length = m from ⟨hr, hc, hb, hr1, hc1, hb1, hm.symm⟩)
  clear hb0 hk0 hgf hW0 hr hc hb hr1 hc1 hb1 hm
  have x0 := HM.out.2.cell 0 _ rfl
  have x1 := HM.out.2.cell 1 _ rfl
  have x2 := HM.out.2.cell 2 _ rfl
  by_cases hbig : 262144 < l.length ∨ 262144 < s.size ∨ 262144 < m
  · by_cases hl : 262144 < l.length
    · have d1 : decide (262144 < (l.length : Int)) = true := decide_eq_true (by omega)
      have d1' : decide (262144 < l.length) = true := decide_eq_true (by omega)
      clear hbig hl
      go_enter Tryd.func6, Tryd.ntmps6
      go_upto_region 1 with (fail)
      rw [← HS.out.1, ← HS.out.2]
      go_wp2_with fail
      refine (wsAwake_calls _).mono ?_
      rintro e w1 ⟨rfl, hb1⟩
      have HB := Lib.hid (below_step HM.out.1 hb1)
      clear hb1
      go_wp2
      go_ret
      exact ⟨rfl, HB.out⟩
    · have d1 : decide (262144 < (l.length : Int)) = false := decide_eq_false (by omega)
      have d1' : decide (262144 < l.length) = false := decide_eq_false (by omega)
      by_cases hq : 262144 < s.size
      · have d2 : decide (262144 < (s.size : Int)) = true := decide_eq_true (by omega)
        have d2' : decide (262144 < s.size) = true := decide_eq_true (by omega)
        clear hbig hl hq
        go_enter Tryd.func6, Tryd.ntmps6
        go_upto_region 1 with (fail)
        rw [← HS.out.1, ← HS.out.2]
        go_wp2_with fail
        refine (wsAwake_calls _).mono ?_
        rintro e w1 ⟨rfl, hb1⟩
        have HB := Lib.hid (below_step HM.out.1 hb1)
        clear hb1
        go_wp2
        go_ret
        exact ⟨rfl, HB.out⟩
      · have d2 : decide (262144 < (s.size : Int)) = false := decide_eq_false (by omega)
        have d2' : decide (262144 < s.size) = false := decide_eq_false (by omega)
        have d3 : decide (262144 < (m : Int)) = true := decide_eq_true (by omega)
        have d3' : decide (262144 < m) = true := decide_eq_true (by omega)
        clear hbig hl hq
        go_enter Tryd.func6, Tryd.ntmps6
        go_upto_region 1 with (fail)
        rw [← HS.out.1, ← HS.out.2]
        go_wp2_with fail
        refine (wsAwake_calls _).mono ?_
        rintro e w1 ⟨rfl, hb1⟩
        have HB := Lib.hid (below_step HM.out.1 hb1)
        clear hb1
        go_wp2
        go_ret
        exact ⟨rfl, HB.out⟩
  · have HL := Lib.hid (show l.length ≤ 262144 ∧ s.size ≤ 262144 ∧ m ≤ 262144 from ⟨by omega, by omega, by omega⟩)
    have d1 : decide (262144 < (l.length : Int)) = false := decide_eq_false (by omega)
    have d1' : decide (262144 < l.length) = false := decide_eq_false (by omega)
    have d2 : decide (262144 < (s.size : Int)) = false := decide_eq_false (by omega)
    have d2' : decide (262144 < s.size) = false := decide_eq_false (by omega)
    have d3 : decide (262144 < (m : Int)) = false := decide_eq_false (by omega)
    have d3' : decide (262144 < m) = false := decide_eq_false (by omega)
    clear hbig
    have HCL := Lib.hid (show ∀ W, Below W0.heap.size W0 W → Calls Tryd.prog 14 #[.slice A1 m c1] W (fun e w1 => ∃ Ak ck, e = .returned (.slice Ak m ck) ∧ Own W w1 (.slice Ak m ck) mk ∧ Below W.heap.size W w1 ∧ m ≤ ck) from fun W hW => by
      have h := bytes_Clone.calls A1 c1 mk mk W (by rw [HI.out.2.2.2.2.2.2]; exact Kd.C_below HI.out.2.2.2.1 (below_step HM.out.1 hW)) (by rw [HI.out.2.2.2.2.2.2]; exact HI.out.2.2.2.2.1) (if_pos (by rw [HI.out.2.2.2.2.2.2]; have := HL.out; omega))
      rw [HI.out.2.2.2.2.2.2] at h
      refine h.mono ?_
      rintro e w1 ⟨v, rfl, ho, hbw⟩
      obtain ⟨Ak, ck, rfl, hck, _⟩ := Own.reads ho
      rw [HI.out.2.2.2.2.2.2] at ho hck ⊢
      exact ⟨Ak, ck, rfl, ho, hbw, hck⟩)
    go_enter Tryd.func6, Tryd.ntmps6
    go_upto_region 1 with (fail)
    rw [← HS.out.1, ← HS.out.2]
    go_upto_region 3 with (fail)
    go_cut [9, 10] (fun v9 v10 wc => ∃ (g9 : Nat) (Ak : Option Addr) (ck : Nat), v9 = .pointer (some ⟨g9, 0, none⟩) ∧ v10 = .slice Ak m ck ∧ Hid (GivenAt w wc gf g9 fin op A l.length c A c Ak m ck mk))
    case first =>
      have hbd : Below W0.heap.size W0 W0.drew := below_drew (Below.refl _ _)
      have HBD := Lib.hid hbd
      clear hbd
      go_region_held3 (fun w' => w'.cell? ⟨gf, 0, none⟩ = some (.bool fin) ∧ w'.cell? ⟨gf, 1, none⟩ = some (.int .i64 op) ∧ w'.cell? ⟨gf, 2, none⟩ = some (.slice A l.length c)) (first | exact ⟨x0, x1, x2⟩ | exact ⟨HA.out.2.2.2.cell 0 _ rfl, HA.out.2.2.2.cell 1 _ rfl, HA.out.2.2.2.cell 2 _ rfl⟩ | exact ⟨HB.out.2.2.2.cell 0 _ rfl, HB.out.2.2.2.cell 1 _ rfl, HB.out.2.2.2.cell 2 _ rfl⟩ | exact ⟨HC.out.2.2.2.cell 0 _ rfl, HC.out.2.2.2.cell 1 _ rfl, HC.out.2.2.2.cell 2 _ rfl⟩ | exact ⟨(HM.out.2.below (below_drew (below_alloc (Below.refl _ _) _)) HM.out.2.lt).cell 0 _ rfl, (HM.out.2.below (below_drew (below_alloc (Below.refl _ _) _)) HM.out.2.lt).cell 1 _ rfl, (HM.out.2.below (below_drew (below_alloc (Below.refl _ _) _)) HM.out.2.lt).cell 2 _ rfl⟩ | exact ⟨(HA.out.2.2.2.below (below_alloc (Below.refl _ _) _) HA.out.2.2.2.lt).cell 0 _ rfl, (HA.out.2.2.2.below (below_alloc (Below.refl _ _) _) HA.out.2.2.2.lt).cell 1 _ rfl, (HA.out.2.2.2.below (below_alloc (Below.refl _ _) _) HA.out.2.2.2.lt).cell 2 _ rfl⟩ | exact ⟨(((HB.out.2.2.2.other (by have := HM.out.2.lt; exact Nat.ne_of_gt this) _).other (by have := HM.out.2.lt; exact Nat.ne_of_gt this) _).other (by have := HM.out.2.lt; exact Nat.ne_of_gt this) _).cell 0 _ rfl, (((HB.out.2.2.2.other (by have := HM.out.2.lt; exact Nat.ne_of_gt this) _).other (by have := HM.out.2.lt; exact Nat.ne_of_gt this) _).other (by have := HM.out.2.lt; exact Nat.ne_of_gt this) _).cell 1 _ rfl, (((HB.out.2.2.2.other (by have := HM.out.2.lt; exact Nat.ne_of_gt this) _).other (by have := HM.out.2.lt; exact Nat.ne_of_gt this) _).other (by have := HM.out.2.lt; exact Nat.ne_of_gt this) _).cell 2 _ rfl⟩) (first | (go_at_call 14; (with_reducible refine (HCL.out ((W0.alloc (.cells #[.bool false, .int .i64 0, .slice none 0 0] 26)).drew) (below_drew (below_alloc (Below.refl _ _) _))).mono ?_); rintro e w1 ⟨Ak, ck, rfl, ho, hbw, hck⟩; have HB := Lib.hid (show Below ((W0.alloc (.cells #[.bool false, .int .i64 0, .slice none 0 0] 26)).drew).heap.size ((W0.alloc (.cells #[.bool false, .int .i64 0, .slice none 0 0] 26)).drew) w1 ∧ Own ((W0.alloc (.cells #[.bool false, .int .i64 0, .slice none 0 0] 26)).drew) w1 (.slice Ak m ck) mk ∧ m ≤ ck ∧ Whole w1 gf 26 #[.bool fin, .int .i64 op, .slice A l.length c] from ⟨hbw, ho, hck, (HM.out.2.below (below_step (below_drew (below_alloc (Below.refl _ _) _)) hbw) HM.out.2.lt)⟩); have hy := (Whole.new W0 26 #[.bool false, .int .i64 0, .slice none 0 0]).below (below_drew (Below.refl _ _)) (Whole.new W0 26 #[.bool false, .int .i64 0, .slice none 0 0]).lt; have hz := hy.below hbw hy.lt; clear hy; have HZ := Lib.hid hz; have f0 := hz.free 0; have f1 := hz.free 1; have f2 := hz.free 2; have y0 := hz.cell 0 _ rfl; have y1 := hz.cell 1 _ rfl; have y2 := hz.cell 2 _ rfl; clear hz; clear ho hbw hck) | (go_at_call 14; (with_reducible refine (HCL.out ((W0.alloc (.cells #[.bool fin, .int .i64 op, .slice A l.length c] 26)).drew) (below_drew (below_alloc (Below.refl _ _) _))).mono ?_); rintro e w1 ⟨Ak, ck, rfl, ho, hbw, hck⟩; have HC := Lib.hid (show Below ((W0.alloc (.cells #[.bool fin, .int .i64 op, .slice A l.length c] 26)).drew).heap.size ((W0.alloc (.cells #[.bool fin, .int .i64 op, .slice A l.length c] 26)).drew) w1 ∧ Own ((W0.alloc (.cells #[.bool fin, .int .i64 op, .slice A l.length c] 26)).drew) w1 (.slice Ak m ck) mk ∧ m ≤ ck ∧ Whole w1 gf 26 #[.bool fin, .int .i64 op, .slice A l.length c] from ⟨hbw, ho, hck, (HM.out.2.below (below_step (below_drew (below_alloc (Below.refl _ _) _)) hbw) HM.out.2.lt)⟩); have hy := (Whole.new W0 26 #[.bool fin, .int .i64 op, .slice A l.length c]).below (below_drew (Below.refl _ _)) (Whole.new W0 26 #[.bool fin, .int .i64 op, .slice A l.length c]).lt; have hz := hy.below hbw hy.lt; clear hy; have HZC := Lib.hid hz; clear hz; clear ho hbw hck) | (go_at_call 14; (with_reducible refine (HCL.out (W0.drew) (HBD.out)).mono ?_); rintro e w1 ⟨Ak, ck, rfl, ho, hbw, hck⟩; have HA := Lib.hid (show Below (W0.drew).heap.size (W0.drew) w1 ∧ Own (W0.drew) w1 (.slice Ak m ck) mk ∧ m ≤ ck ∧ Whole w1 gf 26 #[.bool fin, .int .i64 op, .slice A l.length c] from ⟨hbw, ho, hck, (HM.out.2.below (below_step (HBD.out) hbw) HM.out.2.lt)⟩); clear ho hbw hck) | (fail))
      all_goals
        go_wp2
        go_meet
        case rel =>
          first
            | exact ⟨w1.heap.size, Ak, ck, rfl, rfl, Lib.hid (rel_A HM.out.1 HM.out.2 HA.out.1 HA.out.2.1 HA.out.2.2.1)⟩
            | exact ⟨W0.heap.size, Ak, ck, rfl, rfl, Lib.hid (rel_B HM.out.1 HM.out.2 HB.out.1 HB.out.2.1 HB.out.2.2.1 HZ.out)⟩
    case rest =>
      obtain ⟨g9, Ak, ck, rfl, rfl, HG⟩ := hcut
      clear x0 x1 x2
      have x2 := HG.out.2.1.cell 2 _ rfl
      go_wp2_with fail
      refine (bytes_Clone.calls A c l l _ (Kd.C_below HI.out.1 HG.out.1) HI.out.2.1 (if_pos (by have := HL.out; omega))).mono ?_
      rintro e w4 ⟨v4, rfl, ho4, hb4⟩
      obtain ⟨Ag, cg, rfl, hcg, _⟩ := Own.reads ho4
      have hng : some g9 ≠ (Value.slice Ag l.length cg).ownBlock := fun e => by have h1 := Own.ge ho4 g9 e.symm; have h2 := HG.out.2.2.1.lt; omega
      have H4 := Lib.hid (show GivenAt w w4 gf g9 fin op A l.length c A c Ak m ck mk ∧ Own _ w4 (.slice Ag l.length cg) l ∧ l.length ≤ cg ∧ some g9 ≠ (Value.slice Ag l.length cg).ownBlock from ⟨HG.out.below hb4, ho4, hcg, hng⟩)
      clear ho4 hb4 hcg hng x2
      have f2 := H4.out.1.2.2.1.free 2
      have y2 := H4.out.1.2.2.1.cell 2 _ rfl
      go_upto_region 5 with (fail)
      have H5 := Lib.hid (show GivenAt w (w4.setCell ⟨g9, 2, none⟩ (.slice Ag l.length cg)) gf g9 fin op A l.length c Ag cg Ak m ck mk ∧ Rd (w4.setCell ⟨g9, 2, none⟩ (.slice Ag l.length cg)) Ag l.length l ∧ l.length ≤ cg from
        ⟨⟨H4.out.1.1.setCell (p := ⟨g9, 2, none⟩) H4.out.1.2.2.2.2.2.1 _, H4.out.1.2.1.other (p := ⟨g9, 2, none⟩) H4.out.1.2.2.2.2.2.2.1 _, H4.out.1.2.2.1.set 2 _, H4.out.1.2.2.2.1.far (p := ⟨g9, 2, none⟩) H4.out.1.2.2.2.2.1 _, H4.out.1.2.2.2.2⟩, (Kd.R_reads' (Own.far H4.out.2.1 (p := ⟨g9, 2, none⟩) H4.out.2.2.2 _)).2.2, H4.out.2.2.1⟩)
      generalize w4.setCell ⟨g9, 2, none⟩ (.slice Ag l.length cg) = W5 at H5 ⊢
      clear f2 y2 H4 HG
      have x0 := H5.out.1.2.2.1.cell 0 _ rfl
      have x1 := H5.out.1.2.2.1.cell 1 _ rfl
      have x2 := H5.out.1.2.2.1.cell 2 _ rfl
      go_wp2_with fail
      refine (WsWrite_calls fin op Ag cg l Ak ck mk _ H5.out.2.1 H5.out.2.2 HI.out.2.2.1 (by have := HL.out; omega) H5.out.1.row H5.out.1.2.2.2.2.2.2.2).mono ?_
      rintro e w6 ⟨v6, rfl, ho6, hb6⟩
      obtain ⟨E, hE⟩ : ∃ E, E = wrE ⟨fin, op, l⟩ mk.length := ⟨_, rfl⟩
      obtain ⟨R, hR⟩ : ∃ R, R = (if wrE ⟨fin, op, l⟩ mk.length = 0 then wrL ⟨fin, op, l⟩ mk else []) := ⟨_, rfl⟩
      have hRb : Bytes R := by rw [hR]; split; · exact wrL_Bytes ‹_› HI.out.2.2.1 HI.out.2.2.2.2.2.1
                               · exact Bytes.nil
      rw [← hR] at ho6
      obtain ⟨A6, c6, rfl, _, hr6⟩ := ho6.reads
      have H6 := Lib.hid (show GivenAt w w6 gf g9 fin op A l.length c Ag cg Ak m ck mk ∧ Rd w6 Ag l.length l ∧ Rd w6 A6 R.length R ∧ Bytes R from ⟨H5.out.1.below hb6, Kd.C_below H5.out.2.1 hb6, hr6, hRb⟩)
      have HRR := Lib.hid (And.intro hE hR)
      rw [← hE]
      clear ho6 hb6 hr6 hRb hE hR x0 x1 x2
      have x0 := H6.out.1.2.1.cell 0 _ rfl
      have x1 := H6.out.1.2.1.cell 1 _ rfl
      have x2 := H6.out.1.2.1.cell 2 _ rfl
      go_wp2_with fail
      refine (WsWriteRef_calls fin op A c l A1 c1 mk _ (Kd.C_below HI.out.1 H6.out.1.1) HI.out.2.1 HI.out.2.2.1 (by have := HL.out; omega) (Kd.C_below HI.out.2.2.2.1 H6.out.1.1) HI.out.2.2.2.2.1).mono ?_
      rintro e w7 ⟨v7, rfl, ho7, hb7⟩
      rw [← HRR.out.1]
      rw [← HRR.out.2] at ho7
      obtain ⟨A7, c7, rfl, _, hr7⟩ := ho7.reads
      have H7 := Lib.hid (show GivenAt w w7 gf g9 fin op A l.length c Ag cg Ak m ck mk ∧ Rd w7 Ag l.length l ∧ Rd w7 A6 R.length R ∧ Rd w7 A7 R.length R from ⟨H6.out.1.below hb7, Kd.C_below H6.out.2.1 hb7, Kd.C_below H6.out.2.2.1 hb7, hr7⟩)
      clear ho7 hb7 hr7 x0 x1 x2
      go_wp2_with fail
      refine (WsText_calls code s _ (by have := HL.out; omega)).mono ?_
      rintro e w8 ⟨v8, rfl, ho8, hb8⟩
      obtain ⟨G, hG⟩ : ∃ G, G = txE code s := ⟨_, rfl⟩
      obtain ⟨T, hT⟩ : ∃ T, T = (if txE code s = 0 then txL code s else []) := ⟨_, rfl⟩
      have hTb : Bytes T := by rw [hT]; exact tx_Bytes code s
      rw [← hT] at ho8
      obtain ⟨A8, c8, rfl, _, hr8⟩ := ho8.reads
      have H8 := Lib.hid (show GivenAt w w8 gf g9 fin op A l.length c Ag cg Ak m ck mk ∧ Rd w8 Ag l.length l ∧ Rd w8 A6 R.length R ∧ Rd w8 A7 R.length R ∧ Rd w8 A8 T.length T ∧ Bytes T from ⟨H7.out.1.below hb8, Kd.C_below H7.out.2.1 hb8, Kd.C_below H7.out.2.2.1 hb8, Kd.C_below H7.out.2.2.2 hb8, hr8, hTb⟩)
      have HTT := Lib.hid (And.intro hG hT)
      rw [← hG]
      clear ho8 hb8 hr8 hTb hG hT
      go_wp2_with fail
      refine (WsTextRef_calls code s _ (by have := HL.out; omega)).mono ?_
      rintro e w9 ⟨v9, rfl, ho9, hb9⟩
      rw [← HTT.out.1]
      rw [← HTT.out.2] at ho9
      obtain ⟨A9, c9, rfl, _, hr9⟩ := ho9.reads
      have H9 := Lib.hid (show GivenAt w w9 gf g9 fin op A l.length c Ag cg Ak m ck mk ∧ Rd w9 Ag l.length l ∧ Rd w9 A6 R.length R ∧ Rd w9 A7 R.length R ∧ Rd w9 A8 T.length T ∧ Rd w9 A9 T.length T from ⟨H8.out.1.below hb9, Kd.C_below H8.out.2.1 hb9, Kd.C_below H8.out.2.2.1 hb9, Kd.C_below H8.out.2.2.2.1 hb9, Kd.C_below H8.out.2.2.2.2.1 hb9, hr9⟩)
      clear ho9 hb9 hr9
      have eE : (E == E) = true := by simp
      have eG : (G == G) = true := by simp
      go_wp2_with fail
      refine (Equal_true A6 c6 R A7 c7 R _ H9.out.2.2.1 H9.out.2.2.2.1 H6.out.2.2.2 rfl).mono ?_
      rintro e wa ⟨rfl, hda⟩
      have HA := Lib.hid (show GivenAt w wa gf g9 fin op A l.length c Ag cg Ak m ck mk ∧ Rd wa Ag l.length l ∧ Rd wa A8 T.length T ∧ Rd wa A9 T.length T from ⟨H9.out.1.below hda.below, Kd.C_below H9.out.2.1 hda.below, Kd.C_below H9.out.2.2.2.2.1 hda.below, Kd.C_below H9.out.2.2.2.2.2 hda.below⟩)
      clear hda
      go_wp2_with fail
      refine (Equal_true A8 c8 T A9 c9 T _ HA.out.2.2.1 HA.out.2.2.2 H8.out.2.2.2.2.2 rfl).mono ?_
      rintro e wb ⟨rfl, hdb⟩
      have HB := Lib.hid (show GivenAt w wb gf g9 fin op A l.length c Ag cg Ak m ck mk ∧ Rd wb Ag l.length l from ⟨HA.out.1.below hdb.below, Kd.C_below HA.out.2.1 hdb.below⟩)
      clear hdb
      have x0 := HB.out.1.2.1.cell 0 _ rfl
      have x1 := HB.out.1.2.1.cell 1 _ rfl
      have x2 := HB.out.1.2.1.cell 2 _ rfl
      have y0 := HB.out.1.2.2.1.cell 0 _ rfl
      have y1 := HB.out.1.2.2.1.cell 1 _ rfl
      have y2 := HB.out.1.2.2.1.cell 2 _ rfl
      go_wp2_with fail
      refine (SameFrame_true fin op Ag cg l A c _ HB.out.2 (Kd.C_below HI.out.1 HB.out.1.1)).mono ?_
      rintro e wd ⟨rfl, hbd⟩
      have HD := Lib.hid (HB.out.1.below hbd)
      clear hbd x0 x1 x2 y0 y1 y2
      go_wp2_with fail
      refine (Equal_true Ak ck mk A1 c1 mk _ HD.out.row (Kd.C_below HI.out.2.2.2.1 HD.out.1) HI.out.2.2.2.2.2.1 rfl).mono ?_
      rintro e we ⟨rfl, hde⟩
      have HE := Lib.hid (below_step HD.out.1 hde.below)
      clear hde
      go_wp2_with fail
      refine (wsAwake_calls _).mono ?_
      rintro e wf ⟨rfl, hbf⟩
      have HF := Lib.hid (below_step HE.out hbf)
      clear hbf
      go_wp2
      go_ret
      exact ⟨rfl, HF.out⟩
end Go.Proofs.YtcfbfmgckaehdaaDoor
