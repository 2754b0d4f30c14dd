/- The texts AuthCheckRef, BlocksLaw in one. -/
import Derived.Test.YtcgenmogedndjaaDoorG01
import Derived.Test.YtcgenmogedndjaaDoorG02
import Derived.Test.YtcgenmogedndjaaDoorG14
namespace Go.Proofs.YtcgenmogedndjaaDoor
open Go.RowKit Go.Proofs.YtcgenmogedndjaaDoorW.PrintWords
/-- The ID ahead of place k. -/
def prevId (L : List Sec) (k : Nat) : Int := if k = 0 then -1 else (L.getD (k - 1) Sec.none).id
set_option maxHeartbeats 1600000 in
theorem CheckRef_calls {n : Nat} (A0 : Option Addr) (c0 : Nat) (L : List Sec) (w : World) (hr0 : RdS w A0 n L) :
    Calls Tryd.prog 19 #[.slice A0 n c0] w fun e w' => e = .returned (.int .i64 (checkE L)) ∧ Below w.heap.size w w' := by
  have hlen : L.length = n := Kd.C_len hr0
  have hmax := Kd.C_max hr0
  obtain ⟨R, hR⟩ : ∃ R, R = checkE L := ⟨_, rfl⟩
  rw [← hR]
  have HRR := Lib.hid hR
  have HR := Lib.hid hr0
  have HL := Lib.hid hlen
  clear hR hr0
  by_cases h0 : n = 0
  · have HE := Lib.hid (show R = 102 by rw [HRR.out]; exact checkB_long (by omega))
    have d0 : decide ((n : Int) < 1) = true := decide_eq_true (by omega)
    have d0' : decide (n < 1) = true := decide_eq_true (by omega)
    clear hlen h0
    go_enter Tryd.func19, Tryd.ntmps19
    go_wp2
    go_ret
    exact ⟨by rw [HE.out]; rfl, Below.refl _ _⟩
  by_cases h8 : 8 < n
  · have HE := Lib.hid (show R = 102 by rw [HRR.out]; exact checkB_long (by omega))
    have d0 : decide ((n : Int) < 1) = false := decide_eq_false (by omega)
    have d0' : decide (n < 1) = false := decide_eq_false (by omega)
    have d8 : decide (8 < (n : Int)) = true := decide_eq_true (by omega)
    have d8' : decide (8 < n) = true := decide_eq_true (by omega)
    clear hlen h0 h8
    go_enter Tryd.func19, Tryd.ntmps19
    go_wp2
    go_ret
    exact ⟨by rw [HE.out]; rfl, Below.refl _ _⟩
  have d0 : decide ((n : Int) < 1) = false := decide_eq_false (by omega)
  have d0' : decide (n < 1) = false := decide_eq_false (by omega)
  have d8 : decide (8 < (n : Int)) = false := decide_eq_false (by omega)
  have d8' : decide (8 < n) = false := decide_eq_false (by omega)
  have HN := Lib.hid (show 1 ≤ L.length ∧ L.length ≤ 8 by omega)
  have hn8 : n ≤ 8 := by omega
  have hn1 : 1 ≤ n := by omega
  clear h0 h8 hlen hmax
  go_enter Tryd.func19, Tryd.ntmps19
  go_wp2
  clear d0 d0' d8 d8'
  go_loopw [15] (fun i wr => ∃ (k : Nat), i = .int .i64 k ∧ k ≤ n ∧ Hid (rise (prevId L k) (L.drop k) = rise (-1) L ∧ Below w.heap.size w wr ∧ -1 ≤ prevId L k)) (fun i _ => n - (intOf i).toNat)
  case atStart => exact ⟨0, rfl, by omega, Lib.hid ⟨rfl, Below.refl _ _, by show (-1 : Int) ≤ -1; omega⟩⟩
  case round =>
    obtain ⟨k, rfl, hk, HS⟩ := hrel
    by_cases hkn : k < n
    · have dkn : decide ((k : Int) < n) = true := decide_eq_true (by omega)
      have ikn : (k : Int) < n := by omega
      have hr1 := Kd.C_below HR.out HS.out.2.1
      obtain ⟨ad, Ai, ci, rfl, x0, x1, hci, hrd⟩ := RdS.at hr1 k hkn
      have HBAD := Lib.hid (fun h => rise_bad (L := L) (k := k) (last := prevId L k) (by rw [HL.out]; exact hkn) h)
      have HGOOD := Lib.hid (fun h => rise_good (L := L) (k := k) (last := prevId L k) (by rw [HL.out]; exact hkn) h)
      have HPV := Lib.hid (show (L.getD k Sec.none).id = prevId L (k + 1) from rfl)
      obtain ⟨sid, hsid⟩ : ∃ sid, sid = (L.getD k Sec.none).id := ⟨_, rfl⟩
      obtain ⟨sk, hsk⟩ : ∃ sk, sk = (L.getD k Sec.none).key := ⟨_, rfl⟩
      rw [← hsid, ← hsk] at HBAD HGOOD
      rw [← hsid] at x0 HPV
      rw [← hsk] at x1
      clear hsid hsk hci hrd
      obtain ⟨kl, hkl⟩ : ∃ kl, kl = sk.length := ⟨_, rfl⟩
      rw [← hkl] at HBAD HGOOD x1
      clear hkl sk
      obtain ⟨pv, hpv⟩ : ∃ pv, pv = prevId L k := ⟨_, rfl⟩
      rw [← hpv] at HBAD HGOOD
      have hpv1 : -1 ≤ pv := by rw [hpv]; exact HS.out.2.2
      have hk0 : k = 0 → pv = -1 := by rintro rfl; exact hpv
      have hkk : 0 < k → wr.cell? (ad.add ((k - 1) * 2)) = some (.int .i64 pv) := fun h => by
        obtain ⟨ad', _, _, e, z0, _⟩ := RdS.at hr1 (k - 1) (by omega)
        cases e
        rw [hpv]; unfold prevId; rw [if_neg (by omega)]; exact z0
      have HPP := Lib.hid hpv
      clear hpv hr1
      obtain ⟨W2, hW2⟩ : ∃ W, W = wr.alloc (.cells #[.int .i64 sid, .slice Ai kl ci] 42) := ⟨_, rfl⟩
      obtain ⟨g2, hg2⟩ : ∃ g, g = wr.heap.size := ⟨_, rfl⟩
      have hb2 : Below wr.heap.size wr W2 := by rw [hW2]; exact below_alloc (Below.refl _ _) _
      have hw2 : W2.heap[g2]? = some (.cells #[.int .i64 sid, .slice Ai kl ci] 42) := by rw [hW2, hg2]; exact heap_alloc_new wr _
      have y0 : W2.cell? ⟨g2, 0, none⟩ = some (.int .i64 sid) := by simp [World.cell?, hw2]
      have y1 : W2.cell? ⟨g2, 1, none⟩ = some (.slice Ai kl ci) := by simp [World.cell?, hw2]
      have HB2 := Lib.hid (below_step HS.out.2.1 hb2)
      have HS2 := Lib.hid (show g2 = wr.heap.size ∧ W2 = wr.alloc _ from ⟨hg2, hW2⟩)
      have hkk2 : 0 < k → W2.cell? (ad.add ((k - 1) * 2)) = some (.int .i64 pv) := fun h => pw_cell_below hb2 (hkk h)
      clear hkk hb2 hw2 hg2 hW2
      go_upto_region 6 with (fail)
      rw [← HS2.out.1, ← HS2.out.2]
      clear x0 x1
      by_cases hz : k = 0
      · obtain rfl := hk0 hz
        have dp : decide (0 < (k : Int)) = false := decide_eq_false (by omega)
        have dp' : decide (0 < k) = false := decide_eq_false (by omega)
        clear hkk2 hk0 hpv1 hz
        by_cases c1 : sid < 0
        · have c1d : decide (sid < 0) = true := decide_eq_true (by omega)
          have HE := Lib.hid (show R = 102 by rw [HRR.out]; exact checkE_bad HN.out (by rw [← HS.out.1, ← HPP.out]; exact HBAD.out (by omega)))
          clear c1
          go_quiet (fail)
          go_wp2
          go_ret
          exact ⟨by rw [HE.out]; rfl, below_drewN HB2.out _⟩
        have c1d : decide (sid < 0) = false := decide_eq_false (by omega)
        by_cases c2 : 1099511627776 < sid
        · have c2d : decide (1099511627776 < sid) = true := decide_eq_true (by omega)
          have HE := Lib.hid (show R = 102 by rw [HRR.out]; exact checkE_bad HN.out (by rw [← HS.out.1, ← HPP.out]; exact HBAD.out (by omega)))
          clear c2 c1
          go_quiet (fail)
          go_wp2
          go_ret
          exact ⟨by rw [HE.out]; rfl, below_drewN HB2.out _⟩
        have c2d : decide (1099511627776 < sid) = false := decide_eq_false (by omega)
        by_cases c4 : kl < 16
        · have c4d : decide ((kl : Int) < 16) = true := decide_eq_true (by omega)
          have c4d' : decide (kl < 16) = true := decide_eq_true (by omega)
          have HE := Lib.hid (show R = 102 by rw [HRR.out]; exact checkE_bad HN.out (by rw [← HS.out.1, ← HPP.out]; exact HBAD.out (by omega)))
          clear c4 c1 c2
          go_quiet (fail)
          go_wp2
          go_ret
          exact ⟨by rw [HE.out]; rfl, below_drewN HB2.out _⟩
        have c4d : decide ((kl : Int) < 16) = false := decide_eq_false (by omega)
        have c4d' : decide (kl < 16) = false := decide_eq_false (by omega)
        by_cases c5 : 64 < kl
        · have c5d : decide (64 < (kl : Int)) = true := decide_eq_true (by omega)
          have c5d' : decide (64 < kl) = true := decide_eq_true (by omega)
          have HE := Lib.hid (show R = 102 by rw [HRR.out]; exact checkE_bad HN.out (by rw [← HS.out.1, ← HPP.out]; exact HBAD.out (by omega)))
          clear c5 c1 c2 c4
          go_quiet (fail)
          go_wp2
          go_ret
          exact ⟨by rw [HE.out]; rfl, below_drewN HB2.out _⟩
        have c5d : decide (64 < (kl : Int)) = false := decide_eq_false (by omega)
        have c5d' : decide (64 < kl) = false := decide_eq_false (by omega)
        have HS3 := Lib.hid (show rise (prevId L (k + 1)) (L.drop (k + 1)) = rise (-1) L ∧ -1 ≤ prevId L (k + 1) from ⟨by rw [← HPV.out, ← HS.out.1, ← HPP.out, HGOOD.out (by omega)], by rw [← HPV.out]; omega⟩)
        clear c1 c2 c4 c5
        have wk : IntKind.i64.wrap ((k : Int) + 1) = k + 1 := wrap_id (by omega) (by omega)
        go_quiet (fail)
        have HB3 := Lib.hid (below_drewN HB2.out nq)
        go_wp2
        go_roundw
        case rel => exact ⟨k + 1, by go_num, by omega, Lib.hid ⟨HS3.out.1, HB3.out, HS3.out.2⟩⟩
        case measure => simp [intOf]; omega
      · have hx := hkk2 (by omega)
        have dp : decide (0 < (k : Int)) = true := decide_eq_true (by omega)
        have dp' : decide (0 < k) = true := decide_eq_true (by omega)
        have w1' : IntKind.i64.wrap ((k : Int) - 1) = k - 1 := by rw [wrap_id (by omega) (by omega)]
        have t1' : ((k : Int) - 1).toNat = k - 1 := by omega
        have l1 : (0 : Int) ≤ (k : Int) - 1 := by omega
        have l1' : (1 : Int) ≤ k := by omega
        have u1' : (k : Int) - 1 < n := by omega
        clear hkk2 hk0 hz
        by_cases c1 : sid < 0
        · have c1d : decide (sid < 0) = true := decide_eq_true (by omega)
          have HE := Lib.hid (show R = 102 by rw [HRR.out]; exact checkE_bad HN.out (by rw [← HS.out.1, ← HPP.out]; exact HBAD.out (by omega)))
          clear c1
          go_quiet (fail)
          go_wp2
          go_ret
          exact ⟨by rw [HE.out]; rfl, below_drewN HB2.out _⟩
        have c1d : decide (sid < 0) = false := decide_eq_false (by omega)
        by_cases c2 : 1099511627776 < sid
        · have c2d : decide (1099511627776 < sid) = true := decide_eq_true (by omega)
          have HE := Lib.hid (show R = 102 by rw [HRR.out]; exact checkE_bad HN.out (by rw [← HS.out.1, ← HPP.out]; exact HBAD.out (by omega)))
          clear c2 c1
          go_quiet (fail)
          go_wp2
          go_ret
          exact ⟨by rw [HE.out]; rfl, below_drewN HB2.out _⟩
        have c2d : decide (1099511627776 < sid) = false := decide_eq_false (by omega)
        by_cases c3 : sid ≤ pv
        · have c3d : decide (sid ≤ pv) = true := decide_eq_true (by omega)
          have HE := Lib.hid (show R = 102 by rw [HRR.out]; exact checkE_bad HN.out (by rw [← HS.out.1, ← HPP.out]; exact HBAD.out (by omega)))
          clear c3 c1 c2
          go_quiet (fail)
          go_wp2
          go_ret
          exact ⟨by rw [HE.out]; rfl, below_drewN HB2.out _⟩
        have c3d : decide (sid ≤ pv) = false := decide_eq_false (by omega)
        by_cases c4 : kl < 16
        · have c4d : decide ((kl : Int) < 16) = true := decide_eq_true (by omega)
          have c4d' : decide (kl < 16) = true := decide_eq_true (by omega)
          have HE := Lib.hid (show R = 102 by rw [HRR.out]; exact checkE_bad HN.out (by rw [← HS.out.1, ← HPP.out]; exact HBAD.out (by omega)))
          clear c4 c1 c2 c3
          go_quiet (fail)
          go_wp2
          go_ret
          exact ⟨by rw [HE.out]; rfl, below_drewN HB2.out _⟩
        have c4d : decide ((kl : Int) < 16) = false := decide_eq_false (by omega)
        have c4d' : decide (kl < 16) = false := decide_eq_false (by omega)
        by_cases c5 : 64 < kl
        · have c5d : decide (64 < (kl : Int)) = true := decide_eq_true (by omega)
          have c5d' : decide (64 < kl) = true := decide_eq_true (by omega)
          have HE := Lib.hid (show R = 102 by rw [HRR.out]; exact checkE_bad HN.out (by rw [← HS.out.1, ← HPP.out]; exact HBAD.out (by omega)))
          clear c5 c1 c2 c3 c4
          go_quiet (fail)
          go_wp2
          go_ret
          exact ⟨by rw [HE.out]; rfl, below_drewN HB2.out _⟩
        have c5d : decide (64 < (kl : Int)) = false := decide_eq_false (by omega)
        have c5d' : decide (64 < kl) = false := decide_eq_false (by omega)
        have HS3 := Lib.hid (show rise (prevId L (k + 1)) (L.drop (k + 1)) = rise (-1) L ∧ -1 ≤ prevId L (k + 1) from ⟨by rw [← HPV.out, ← HS.out.1, ← HPP.out, HGOOD.out (by omega)], by rw [← HPV.out]; omega⟩)
        clear c1 c2 c3 c4 c5
        have wk : IntKind.i64.wrap ((k : Int) + 1) = k + 1 := wrap_id (by omega) (by omega)
        go_quiet (fail)
        have HB3 := Lib.hid (below_drewN HB2.out nq)
        go_wp2
        go_roundw
        case rel => exact ⟨k + 1, by go_num, by omega, Lib.hid ⟨HS3.out.1, HB3.out, HS3.out.2⟩⟩
        case measure => simp [intOf]; omega
    · obtain rfl : k = n := by omega
      have dkn : decide ((k : Int) < k) = false := decide_eq_false (by omega)
      have HE := Lib.hid (show R = 0 by rw [HRR.out]; exact checkE_ok HN.out (by rw [← HS.out.1, List.drop_of_length_le (by rw [HL.out]; exact Nat.le_refl _)]; rfl))
      go_wp2
      go_ret
      exact ⟨by rw [HE.out]; rfl, HS.out.2.1⟩
end Go.Proofs.YtcgenmogedndjaaDoor
namespace Go.Proofs.YtcgenmogedndjaaDoor
open Go.RowKit Go.Proofs.YtcgenmogedndjaaDoorW.PrintWords
abbrev KW : Kd (List Int) := Kd.slice 103 (Kd.int .u32)
theorem info_words : (Tryd.prog.info? 105).map (fun i => (i.zero, i.size, i.bytes)) = some (some (.slice none 0 0), 1, 24) := by kernel_rfl
abbrev OwnLW (w0 w : World) (v : Value) (ls : List (List Int)) : Prop := Kd.S KW 105 w w0.heap.size (fun _ => True) v ls
abbrev RdLW (w : World) (A : Option Addr) (n : Nat) (ls : List (List Int)) : Prop := Kd.C KW w A n ls
theorem OwnLW.cast {w0 w : World} {v : Value} {l m : List (List Int)} (h : OwnLW w0 w v l) (he : l = m) : OwnLW w0 w v m := he ▸ h
theorem OwnLW.nil (w0 w : World) : OwnLW w0 w (.slice none 0 0) [] := Kd.S_nil _ _ _ _ _
theorem OwnLW.reads {w0 w : World} {v : Value} {ls : List (List Int)} (h : OwnLW w0 w v ls) : ∃ A c, v = .slice A ls.length c ∧ ls.length ≤ c ∧ RdLW w A ls.length ls := Kd.S_reads h
theorem OwnLW.below {w0 w w1 : World} {v : Value} {l : List (List Int)} (h : OwnLW w0 w v l) (hb : Below w.heap.size w w1) : OwnLW w0 w1 v l := Kd.S_below h hb
theorem OwnLW.lower {w0 w1 w : World} {v : Value} {l : List (List Int)} (h : OwnLW w1 w v l) (hs : w0.heap.size ≤ w1.heap.size) : OwnLW w0 w v l := Kd.S_lower h hs
theorem RdLW.at {w : World} {A : Option Addr} {n : Nat} {ls : List (List Int)} (h : RdLW w A n ls) (i : Nat) (hi : i < n) : ∃ ad Ai ci, A = some ad ∧ w.cell? (ad.add i) = some (.slice Ai (ls.getD i []).length ci) ∧ (ls.getD i []).length ≤ ci ∧ RdW w Ai (ls.getD i []).length (ls.getD i []) := by
  obtain ⟨ad, c, e, hcl, ⟨Ai, ci, rfl, hle, hr⟩, hc⟩ := ReadsRow.get_ h [] (i : Int) (by omega) (by omega)
  simp only [Int.toNat_natCast] at hle hr hc
  refine ⟨ad, Ai, ci, e, ?_, hle, hr⟩
  have := hc 0 _ rfl
  rwa [show i * KW.sz + 0 = i from Nat.mul_one i] at this
theorem frozen_same {w w' : World} {g i : Nat} (h : w'.heap[g]? = w.heap[g]?) : w'.frozen? ⟨g, i, none⟩ = w.frozen? ⟨g, i, none⟩ := by
  unfold World.frozen?
  simp only [h]
section
variable {ops : Array Oper} {rest : List Oper} {o : Oper} {a : Act} {Q : Exit → Act → World → Prop} {w0 w1 W : World} {s x : Operand} {v pv : Value} {ls : List (List Int)} {l p : List Int}
theorem applw_one (h0 : w0.heap.size ≤ w1.heap.size) (hO : OwnLW w0 w1 v ls) (hW : Below w1.heap.size w1 W) (hp : OwnW w1 W pv p) (hB : Below w0.heap.size w0 W) (hL : ls.length + 1 ≤ 5864062014805)
    (hgd : o.guard = none) (hop : o.op = .call { callee := .builtin .append, args := #[s, x], argTypes := #[117, 117] }) (hv : a.eval s = v) (hx : a.eval x = .slice (some ⟨W.heap.size, 0, none⟩) 1 1)
    (K : ∀ v1 w2, OwnLW w0 w2 v1 (ls ++ [p]) → Below w0.heap.size w0 w2 → wpList Tryd.prog ops Q rest (a.put o.dst v1) w2) : wpList Tryd.prog ops Q (o :: rest) a (W.alloc (.cells #[pv] 105)) := by
  have hlt : ∀ k, v.ownBlock = some k → k < w1.heap.size := Kd.S_lt hO
  have h1 : Kd.S KW 105 W w0.heap.size (fun k => True ∧ ¬ w1.heap.size ≤ k) v ls :=
    Kd.S_below (Kd.S_mono (Kd.S_bound hO) (fun k hk => ⟨trivial, by omega⟩)) hW |> fun h => h
  have hM : KW.M W w0.heap.size (fun k => w1.heap.size ≤ k) p [pv] :=
    ⟨pv, rfl, Kd.R_lower (Kd.R_mono (Kd.R_bound hp) (fun k hk => hk.2.1)) h0⟩
  exact Kd.S_append KW (w0 := w0) w0.heap.size hgd s x 117 105 (.slice none 0 0) 24 hop Tryd.underlying117 info_words rfl (by decide) (by omega) v ls p [pv] (fun _ => True) (fun k => w1.heap.size ≤ k) hv hx hM (fun k hk => ⟨trivial, fun he => by have := hlt k he.symm; omega⟩) (fun _ _ => trivial) h1 hB hB.size (by omega) (fun v1 w2 h1 h2 _ _ => K v1 w2 h1 h2)
theorem appw_oneR {y : Int} {base : Nat} {ok : Nat → Prop} (hO : (Kd.int .u32).R 103 W base ok v l) (hfresh : ∀ k, W.heap.size ≤ k → ok k) (hB : Below base w0 W) (hbase : base ≤ W.heap.size) (hL : l.length + 1 ≤ 35184372088832)
    (hgd : o.guard = none) (hop : o.op = .call { callee := .builtin .append, args := #[s, x], argTypes := #[105, 105] }) (hv : a.eval s = v) (hx : a.eval x = .slice (some ⟨W.heap.size, 0, none⟩) 1 1)
    (K : ∀ v1 w1, (Kd.int .u32).R 103 w1 base ok v1 (l ++ [y]) → Below base w0 w1 → W.grownBy w1 v.ownBlock → (v1.ownBlock = v.ownBlock ∨ ∃ b, v1.ownBlock = some b ∧ W.heap.size ≤ b) → wpList Tryd.prog ops Q rest (a.put o.dst v1) w1) : wpList Tryd.prog ops Q (o :: rest) a (W.alloc (.cells #[.int .u32 y] 103)) :=
  Kd.R_append (Kd.int .u32) (w0 := w0) base hgd s x 105 103 (.int .u32 0) 4 hop Tryd.underlying105 info_u32 rfl (by decide) (by omega) v l y [.int .u32 y] ok (fun _ => False) hv hx rfl (fun _ hk => hk.elim) hfresh hO hB hbase (by omega) K
end
/-- The first j words in rows of sixteen, m rows. -/
def rowF (Wd : List Int) (j t : Nat) : List Int := ((Wd.take j).drop (16 * t)).take 16
def rowsF (Wd : List Int) (j m : Nat) : List (List Int) := (List.range m).map (rowF Wd j)
theorem rowsF_length (Wd : List Int) (j m : Nat) : (rowsF Wd j m).length = m := by simp [rowsF]
theorem rowF_eq (Wd : List Int) (j t : Nat) : rowF Wd j t = (Wd.drop (16 * t)).take (min 16 (j - 16 * t)) := by
  unfold rowF
  rw [List.drop_take, List.take_take]
theorem rowsF_new (Wd : List Int) (j : Nat) (hj : j % 16 = 0) : rowsF Wd j (j / 16) ++ [[]] = rowsF Wd j (j / 16 + 1) := by
  unfold rowsF
  rw [List.range_succ, List.map_append]
  congr 1
  have : rowF Wd j (j / 16) = [] := by rw [rowF_eq, show j - 16 * (j / 16) = 0 by omega]; simp
  simp [this]
theorem rowsF_getD (Wd : List Int) (j m t : Nat) (h : t < m) : (rowsF Wd j m).getD t [] = rowF Wd j t := by
  unfold rowsF
  rw [List.getD_eq_getElem?_getD, List.getElem?_map, List.getElem?_range h]
  rfl
theorem rowF_next (Wd : List Int) (j : Nat) (hj : j < Wd.length) : rowF Wd j (j / 16) ++ [rd Wd j] = rowF Wd (j + 1) (j / 16) := by
  rw [rowF_eq, rowF_eq, show min 16 (j - 16 * (j / 16)) = j - 16 * (j / 16) by omega, show min 16 (j + 1 - 16 * (j / 16)) = j - 16 * (j / 16) + 1 by omega,
    List.take_succ_eq_append_getElem (by rw [List.length_drop]; omega), rd_get Wd j hj]
  congr 2
  rw [List.getElem_drop]
  congr 1
  omega
theorem rowsF_set (Wd : List Int) (j : Nat) (hj : j < Wd.length) : (rowsF Wd j (j / 16 + 1)).set (j / 16) (rowF Wd j (j / 16) ++ [rd Wd j]) = rowsF Wd (j + 1) (j / 16 + 1) := by
  rw [rowF_next Wd j hj]
  apply List.ext_getElem
  · simp [rowsF]
  · intro t h1 h2
    have ht : t < j / 16 + 1 := by rw [rowsF_length] at h2; exact h2
    rw [List.getElem_set]
    split
    · rename_i he
      subst he
      simp [rowsF]
    · rename_i he
      simp only [rowsF, List.getElem_map, List.getElem_range]
      rw [rowF_eq, rowF_eq]
      congr 1
      omega
theorem w32_drop : ∀ (i : Nat) (l : List Int), w32 (l.drop (4 * i)) = (w32 l).drop i
  | 0, l => rfl
  | i + 1, a :: b :: c :: d :: t => by
    rw [show 4 * (i + 1) = 4 * i + 1 + 1 + 1 + 1 by omega]
    simp only [List.drop_succ_cons, w32]
    exact w32_drop i t
  | i + 1, [] => by simp [w32]
  | i + 1, [_] => by rw [List.drop_of_length_le (by simp; omega)]; simp [w32]
  | i + 1, [_, _] => by rw [List.drop_of_length_le (by simp; omega)]; simp [w32]
  | i + 1, [_, _, _] => by rw [List.drop_of_length_le (by simp; omega)]; simp [w32]
theorem w32_take : ∀ (i : Nat) (l : List Int), w32 (l.take (4 * i)) = (w32 l).take i
  | 0, l => by simp [w32]
  | i + 1, a :: b :: c :: d :: t => by
    rw [show 4 * (i + 1) = 4 * i + 1 + 1 + 1 + 1 by omega]
    simp only [List.take_succ_cons, w32]
    rw [w32_take i t]
  | i + 1, [] => by simp [w32]
  | i + 1, [_] => by rw [List.take_of_length_le (by simp; omega)]; simp [w32]
  | i + 1, [_, _] => by rw [List.take_of_length_le (by simp; omega)]; simp [w32]
  | i + 1, [_, _, _] => by rw [List.take_of_length_le (by simp; omega)]; simp [w32]
theorem w32_at : ∀ (j : Nat) (l : List Int), 4 * j + 4 ≤ l.length → rd (w32 l) (j : Int) = 16777216 * rd l ((4 * j : Nat) : Int) + 65536 * rd l ((4 * j + 1 : Nat) : Int) + 256 * rd l ((4 * j + 2 : Nat) : Int) + rd l ((4 * j + 3 : Nat) : Int)
  | 0, a :: b :: c :: d :: t, _ => rfl
  | j + 1, a :: b :: c :: d :: t, h => by
    have ih := w32_at j t (by simp at h; omega)
    have e : rd (w32 (a :: b :: c :: d :: t)) ((j + 1 : Nat) : Int) = rd (w32 t) (j : Int) := rfl
    have e4 : ∀ k : Nat, rd (a :: b :: c :: d :: t) ((4 * (j + 1) + k : Nat) : Int) = rd t ((4 * j + k : Nat) : Int) := by
      intro k
      unfold rd
      simp only [Int.toNat_natCast]
      rw [show 4 * (j + 1) + k = (4 * j + k) + 1 + 1 + 1 + 1 by omega]
      rfl
    have h0 := e4 0
    rw [Nat.add_zero, Nat.add_zero] at h0
    rw [e, ih, h0, e4 1, e4 2, e4 3]
    try simp only [Nat.add_zero]
/-- Row t of a message's blocks: the words of its t-th block. -/
theorem rowF_block (P : List Int) (K t : Nat) (ht : t < K) : rowF (w32 P) (16 * K) t = w32 ((P.drop (64 * t)).take 64) := by
  rw [rowF_eq, show min 16 (16 * K - 16 * t) = 16 by omega, show 64 * t = 4 * (16 * t) by omega, show (64 : Nat) = 4 * 16 from rfl, w32_take, w32_drop]
end Go.Proofs.YtcgenmogedndjaaDoor
