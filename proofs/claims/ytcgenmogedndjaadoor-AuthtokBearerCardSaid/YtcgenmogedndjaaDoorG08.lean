/- The texts AuthSigned, AuthCheck, AuthName, AuthMake, FormRef, CursorText, ReadForm, CursorAll, CursorRef, Whole, AuthParse, BackLaw, AuthLaw, IndexByte in one. -/
import Derived.Test.YtcgenmogedndjaaDoorG01
import Derived.Test.YtcgenmogedndjaaDoorG02
import Derived.Test.YtcgenmogedndjaaDoorG07
import Derived.StillTailTactics
import Derived.Laws.Rows
import Derived.Lib.Bytealg
import Derived.Lib.IndexBytes
namespace Go.Proofs.YtcgenmogedndjaaDoor
open Go.RowKit Go.Proofs.YtcgenmogedndjaaDoorW.PrintWords
def tokS (s : Sec) (c : Clm) : ByteArray := strOfNums (sp3 (payL s.id c)) ++ ⟨#[46]⟩ ++ strOfNums (sp3 (mac s.key (payL s.id c)))
theorem strOf_size (l : List Int) : (strOfNums l).size = l.length := by
  have h := congrArg List.length (strOfNums_data l)
  rw [List.length_map, Array.length_toList] at h
  exact h
theorem run_add_ (P : Program) (a b : ByteArray) (w : World) (h : a.size + b.size ≤ 9223372036854775807) : (Op.stringOp .add a b).run P w = .ok (.string (a ++ b)) w := run_string_add_sum w a b h
theorem mac_length (k b : List Int) : (mac k b).length = 32 := rfl
theorem mac_Bytes (k b : List Int) : Bytes (mac k b) := sha2_Bytes _
set_option maxRecDepth 20000 in
set_option maxHeartbeats 1600000 in
theorem signed_calls {n : Nat} (id : Int) (A : Option Addr) (cA : Nat) (key : List Int) (a b : ByteArray) (u : Int) (w : World) (hr : Rd w A n key) (hk : Bytes key) (hcA : n ≤ cA) (hn : n ≤ 1099511627776) (hi : -9223372036854775808 ≤ id ∧ id ≤ 9223372036854775807) (ha : a.size ≤ 65536) (hb : b.size ≤ 65536) (hu : -9223372036854775808 ≤ u ∧ u ≤ 9223372036854775807) (hG : Laid w) :
    Calls Tryd.prog 28 #[.agg #[.int .i64 id, .slice A n cA], .agg #[.string a, .string b, .int .i64 u]] w fun e w' => e = .returned (.string (tokS ⟨id, key⟩ ⟨a, b, u⟩)) ∧ Below w.heap.size w w' := by
  obtain ⟨g1, hg1⟩ : ∃ g, g = w.heap.size := ⟨_, rfl⟩
  obtain ⟨g2, hg2⟩ : ∃ g, g = g1 + 1 := ⟨_, rfl⟩
  obtain ⟨W0, hW0⟩ : ∃ W0, W0 = w.alloc (.cells #[.int .i64 id, .slice A n cA] 42) := ⟨_, rfl⟩
  obtain ⟨W1, hW1⟩ : ∃ W1, W1 = W0.alloc (.cells #[.string a, .string b, .int .i64 u] 24) := ⟨_, rfl⟩
  have hz0 : W0.heap.size = g2 := by rw [hW0, size_alloc, hg2, hg1]
  have hb0 : Below w.heap.size w W0 := by rw [hW0]; exact below_alloc (Below.refl _ _) _
  have hb01 : Below W0.heap.size W0 W1 := by rw [hW1]; exact below_alloc (Below.refl _ _) _
  have hb1 := below_step hb0 hb01
  have hp0 : W0.heap[g1]? = some (.cells #[.int .i64 id, .slice A n cA] 42) := by rw [hW0, hg1]; exact heap_alloc_new w _
  have hp1 : W1.heap[g2]? = some (.cells #[.string a, .string b, .int .i64 u] 24) := by rw [hW1, ← hz0]; exact heap_alloc_new W0 _
  have x0 : W1.cell? ⟨g1, 0, none⟩ = some (.int .i64 id) := pw_cell_below hb01 (by simp [World.cell?, hp0])
  have x1 : W1.cell? ⟨g1, 1, none⟩ = some (.slice A n cA) := pw_cell_below hb01 (by simp [World.cell?, hp0])
  have y0 : W1.cell? ⟨g2, 0, none⟩ = some (.string a) := by simp [World.cell?, hp1]
  have y1 : W1.cell? ⟨g2, 1, none⟩ = some (.string b) := by simp [World.cell?, hp1]
  have y2 : W1.cell? ⟨g2, 2, none⟩ = some (.int .i64 u) := by simp [World.cell?, hp1]
  have HB1 := Lib.hid hb1
  have HS := Lib.hid (show g1 = w.heap.size ∧ g2 = g1 + 1 ∧ W0 = w.alloc _ ∧ W1 = W0.alloc _ from ⟨hg1, hg2, hW0, hW1⟩)
  have HX := Lib.hid x1
  obtain ⟨P, hP⟩ : ∃ P, P = payL id ⟨a, b, u⟩ := ⟨_, rfl⟩
  have hPl := payL_length id ⟨a, b, u⟩
  rw [← hP] at hPl
  obtain ⟨M, hM⟩ : ∃ M, M = mac key P := ⟨_, rfl⟩
  have HI := Lib.hid (show Rd W1 A n key ∧ Bytes key ∧ n ≤ cA ∧ n ≤ 1099511627776 ∧ Laid W1 ∧ P.length ≤ 131108 ∧ Bytes P from ⟨Kd.C_below hr hb1, hk, hcA, hn, hG.below hb1 hG.lt, by simp at hPl; omega, by rw [hP]; exact payL_Bytes _ _⟩)
  have HP := Lib.hid (show payL id ⟨a, b, u⟩ = P from hP.symm)
  have HM := Lib.hid (show mac key P = M ∧ M.length = 32 ∧ Bytes M from ⟨hM.symm, by rw [hM]; exact mac_length _ _, by rw [hM]; exact mac_Bytes _ _⟩)
  have HU := Lib.hid (show (-9223372036854775808 ≤ id ∧ id ≤ 9223372036854775807) ∧ a.size ≤ 1099511627776 ∧ b.size ≤ 1099511627776 ∧ (-9223372036854775808 ≤ u ∧ u ≤ 9223372036854775807) from ⟨hi, by omega, by omega, hu⟩)
  obtain ⟨S1, hS1⟩ : ∃ S, S = strOfNums (sp3 P) := ⟨_, rfl⟩
  obtain ⟨S2, hS2⟩ : ∃ S, S = strOfNums (sp3 M) := ⟨_, rfl⟩
  obtain ⟨S3, hS3⟩ : ∃ S, S = S1 ++ (⟨#[46]⟩ : ByteArray) := ⟨_, rfl⟩
  have z1 : S1.size ≤ 174812 := by rw [hS1, strOf_size, sp3_length]; simp at hPl; omega
  have z2 : S2.size ≤ 43 := by rw [hS2, strOf_size, sp3_length, HM.out.2.1]; decide
  have z3 : S3.size = S1.size + 1 := by rw [hS3, ByteArray.size_append]; rfl
  have add1 : ∀ W, (Op.stringOp .add S1 ⟨#[46]⟩).run Tryd.prog W = .ok (.string S3) W := fun W => by rw [hS3]; exact run_add_ _ _ _ _ (by show S1.size + 1 ≤ _; omega)
  have add2 : ∀ W, (Op.stringOp .add S3 S2).run Tryd.prog W = .ok (.string (S3 ++ S2)) W := fun W => run_add_ _ _ _ _ (by omega)
  have HSS := Lib.hid (show strOfNums (sp3 P) = S1 ∧ strOfNums (sp3 M) = S2 ∧ S3 ++ S2 = tokS ⟨id, key⟩ ⟨a, b, u⟩ from ⟨hS1.symm, hS2.symm, by rw [hS3, hS1, hS2, hM, hP]; rfl⟩)
  clear hS1 hS2 hS3 z1 z2 z3
  clear hr hk hcA hn hi ha hb hu hG hg1 hg2 hz0 hb0 hb01 hb1 hp0 hp1 hW0 hW1 hP hM hPl
  go_enter Tryd.func28, Tryd.ntmps28
  go_wp2_with fail
  rw [← HS.out.1, ← HS.out.2.2.1, ← HS.out.2.2.2, ← HS.out.2.1]
  refine (payload_calls id a b u _ HU.out.1 HU.out.2.1 HU.out.2.2.1 HU.out.2.2.2).mono ?_
  rintro e w2 ⟨v2, rfl, ho2, hb2⟩
  replace ho2 := ho2.cast HP.out
  obtain ⟨A2, c2, rfl, hc2, hr2⟩ := ho2.reads
  have HR2 := Lib.hid (show Rd w2 A2 P.length P ∧ Below w.heap.size w w2 ∧ Laid w2 ∧ Rd w2 A n key from ⟨hr2, below_step HB1.out hb2, HI.out.2.2.2.2.1.below hb2 HI.out.2.2.2.2.1.lt, Kd.C_below HI.out.1 hb2⟩)
  have z1 := pw_cell_below hb2 HX.out
  clear x0 x1 y0 y1 y2 ho2 hc2 hr2 hb2
  go_wp2_with fail
  refine (Mac_calls _ _ _ _ _ _ _ HR2.out.2.2.2 HI.out.2.1 HI.out.2.2.1 HI.out.2.2.2.1 HR2.out.1 HI.out.2.2.2.2.2.2 (by have := HI.out; omega) HR2.out.2.2.1).mono ?_
  rintro e w3 ⟨rfl, hb3⟩
  rw [HM.out.1]
  obtain ⟨g6, hg6⟩ : ∃ g6, g6 = w3.heap.size := ⟨_, rfl⟩
  obtain ⟨W4, hW4⟩ : ∃ W4, W4 = w3.alloc (.cells #[.int .u8 0, .int .u8 0, .int .u8 0, .int .u8 0, .int .u8 0, .int .u8 0, .int .u8 0, .int .u8 0, .int .u8 0, .int .u8 0, .int .u8 0, .int .u8 0, .int .u8 0, .int .u8 0, .int .u8 0, .int .u8 0, .int .u8 0, .int .u8 0, .int .u8 0, .int .u8 0, .int .u8 0, .int .u8 0, .int .u8 0, .int .u8 0, .int .u8 0, .int .u8 0, .int .u8 0, .int .u8 0, .int .u8 0, .int .u8 0, .int .u8 0, .int .u8 0] 66) := ⟨_, rfl⟩
  have hB4 : Below g6 w3 W4 := by rw [hW4, hg6]; exact below_alloc (Below.refl _ _) _
  have HL := Lib.hid (show Blk W4 g6 66 .u8 (List.replicate 32 0) ∧ Below w2.heap.size w2 W4 ∧ w2.heap.size ≤ g6 from ⟨by rw [hW4, hg6]; exact Blk.new w3 66 .u8 (List.replicate 32 0), hb3.trans (hB4.mono (by rw [hg6]; exact hb3.size)), by rw [hg6]; exact hb3.size⟩)
  have HS2 := Lib.hid (show g6 = w3.heap.size ∧ W4 = w3.alloc _ from ⟨hg6, hW4⟩)
  clear hB4 hg6 hW4 hb3 z1
  go_upto_region 3 with (refine gate_ (.store 66 (.tmp 6) (.tmp 14)) rfl ?_; rw [← HS2.out.1, ← HS2.out.2]; refine store_blk2 (m := M) rfl rfl rfl rfl rfl HL.out.1 (by rw [HM.out.2.1]; rfl) (by rw [HM.out.2.1]; kernel_rfl) ?_; intro w5 hk5 hb5 hf5; have HF := Lib.hid (show Rd w5.drew (some ⟨g6, 0, none⟩) 32 M ∧ Below w.heap.size w w5.drew ∧ Rd w5.drew A2 P.length P from ⟨Kd.C_below (by have hr := hk5.row (by rw [HM.out.2.1]; decide); rw [HM.out.2.1] at hr; exact hr) (below_drew (Below.refl _ _)), below_drew (below_step HR2.out.2.1 (hb5 _ _ HL.out.2.1 HL.out.2.2)), Kd.C_below HR2.out.1 (below_drew (hb5 _ _ HL.out.2.1 HL.out.2.2))⟩); clear hk5 hb5 hf5)
  go_region_with (first
    | (go_at_call 46; with_reducible refine (Spell_calls _ _ _ _ HR6.out.1 HM.out.2.2 (by decide)).mono ?_; rintro e w7 ⟨rfl, hb7⟩; rw [HSS.out.2.1]; have HB7 := Lib.hid (below_step HR6.out.2 hb7); clear hb7)
    | (go_at_call 46; with_reducible refine (Spell_calls _ _ _ _ HF.out.2.2 HI.out.2.2.2.2.2.2 (by have := HI.out; omega)).mono ?_; rintro e w6 ⟨rfl, hb6⟩; rw [HSS.out.1]; have HR6 := Lib.hid (show Rd w6 (some ⟨g6, 0, none⟩) 32 M ∧ Below w.heap.size w w6 from ⟨Kd.C_below HF.out.1 hb6, below_step HF.out.2.1 hb6⟩); clear hb6))
  all_goals
    go_wp2
    go_ret
    exact ⟨by rw [HSS.out.2.2]; rfl, HB7.out⟩
end Go.Proofs.YtcgenmogedndjaaDoor
namespace Go.Proofs.YtcgenmogedndjaaDoor
open Go.RowKit Go.Proofs.YtcgenmogedndjaaDoorW.PrintWords
theorem checkE_bad {L : List Sec} (h : 1 ≤ L.length ∧ L.length ≤ 8) (h2 : rise (-1) L = false) : checkE L = 102 := by
  unfold checkE
  rw [checkB_eq h, h2]
  rfl
theorem checkE_ok {L : List Sec} (h : 1 ≤ L.length ∧ L.length ≤ 8) (h2 : rise (-1) L = true) : checkE L = 0 := by
  unfold checkE
  rw [checkB_eq h, h2]
  rfl
theorem rise_bad {L : List Sec} {k : Nat} {last : Int} (h : k < L.length) (h2 : (L.getD k Sec.none).id ≤ last ∨ 1099511627776 < (L.getD k Sec.none).id ∨ (L.getD k Sec.none).key.length < 16 ∨ 64 < (L.getD k Sec.none).key.length) : rise last (L.drop k) = false := by
  rw [rise_step L k h, decide_eq_false (by omega), Bool.false_and]
theorem rise_good {L : List Sec} {k : Nat} {last : Int} (h : k < L.length) (h2 : ¬ ((L.getD k Sec.none).id ≤ last ∨ 1099511627776 < (L.getD k Sec.none).id ∨ (L.getD k Sec.none).key.length < 16 ∨ 64 < (L.getD k Sec.none).key.length)) : rise last (L.drop k) = rise (L.getD k Sec.none).id (L.drop (k + 1)) := by
  rw [rise_step L k h, decide_eq_true (by omega), Bool.true_and]
set_option maxHeartbeats 1600000 in
theorem Check_calls {n : Nat} (A0 : Option Addr) (c0 : Nat) (L : List Sec) (w : World) (hr0 : RdS w A0 n L) :
    Calls Tryd.prog 15 #[.slice A0 n c0] w fun e w' => e = .returned (.int .i64 (checkE L)) ∧ Below w.heap.size w w' := by
  have hlen : L.length = n := Kd.C_len hr0
  have hmax := Kd.C_max hr0
  obtain ⟨R, hR⟩ : ∃ R, R = checkE L := ⟨_, rfl⟩
  rw [← hR]
  have HRR := Lib.hid hR
  have HR := Lib.hid hr0
  have HL := Lib.hid hlen
  clear hR hr0
  by_cases h0 : n = 0
  · have HE := Lib.hid (show R = 102 by rw [HRR.out]; exact checkB_long (by omega))
    subst h0
    clear hlen
    go_enter Tryd.func15, Tryd.ntmps15
    go_wp2
    go_ret
    exact ⟨by rw [HE.out]; rfl, Below.refl _ _⟩
  by_cases h8 : 8 < n
  · have HE := Lib.hid (show R = 102 by rw [HRR.out]; exact checkB_long (by omega))
    have d0 : ((n : Int) == 0) = false := beq_eq_false_iff_ne.2 (by omega)
    have d8 : decide (8 < (n : Int)) = true := decide_eq_true (by omega)
    have d8' : decide (8 < n) = true := decide_eq_true (by omega)
    clear hlen h0 h8
    go_enter Tryd.func15, Tryd.ntmps15
    go_wp2
    go_ret
    exact ⟨by rw [HE.out]; rfl, Below.refl _ _⟩
  have d0 : ((n : Int) == 0) = false := beq_eq_false_iff_ne.2 (by omega)
  have d8 : decide (8 < (n : Int)) = false := decide_eq_false (by omega)
  have d8' : decide (8 < n) = false := decide_eq_false (by omega)
  have HN := Lib.hid (show 1 ≤ L.length ∧ L.length ≤ 8 by omega)
  have hn8 : n ≤ 8 := by omega
  have hn1 : 1 ≤ n := by omega
  clear h0 h8 hlen hmax
  go_enter Tryd.func15, Tryd.ntmps15
  go_wp2
  clear d0 d8 d8'
  go_loopw [3, 16] (fun l i wr => ∃ (k : Nat) (last : Int), i = .int .i64 k ∧ l = .int .i64 last ∧ k ≤ n ∧ Hid (rise last (L.drop k) = rise (-1) L) ∧ Hid (Below w.heap.size w wr)) (fun _ i _ => n - (intOf i).toNat)
  case atStart => exact ⟨0, -1, rfl, rfl, by omega, Lib.hid rfl, Lib.hid (Below.refl _ _)⟩
  case round =>
    obtain ⟨k, last, rfl, rfl, hk, HS, HB⟩ := hrel
    by_cases hkn : k < n
    · have dkn : decide ((k : Int) < n) = true := decide_eq_true (by omega)
      have ikn : (k : Int) < n := by omega
      obtain ⟨ad, Ai, ci, rfl, x0, x1, hci, hrd⟩ := RdS.at (Kd.C_below HR.out HB.out) k hkn
      have HBAD := Lib.hid (fun h => rise_bad (L := L) (k := k) (last := last) (by rw [HL.out]; exact hkn) h)
      have HGOOD := Lib.hid (fun h => rise_good (L := L) (k := k) (last := last) (by rw [HL.out]; exact hkn) h)
      obtain ⟨sid, hsid⟩ : ∃ sid, sid = (L.getD k Sec.none).id := ⟨_, rfl⟩
      obtain ⟨sk, hsk⟩ : ∃ sk, sk = (L.getD k Sec.none).key := ⟨_, rfl⟩
      rw [← hsid, ← hsk] at HBAD HGOOD
      rw [← hsid] at x0
      rw [← hsk] at x1
      clear hsid hsk hci hrd
      obtain ⟨kl, hkl⟩ : ∃ kl, kl = sk.length := ⟨_, rfl⟩
      rw [← hkl] at HBAD HGOOD x1
      clear hkl sk
      by_cases c1 : sid ≤ last
      · have c1d : decide (sid ≤ last) = true := decide_eq_true (by omega)
        have HE := Lib.hid (show R = 102 by rw [HRR.out]; exact checkE_bad HN.out (by rw [← HS.out]; exact HBAD.out (by omega)))
        clear c1
        go_wp2
        go_ret
        exact ⟨by rw [HE.out]; rfl, below_alloc HB.out _⟩
      have c1d : decide (sid ≤ last) = false := decide_eq_false (by omega)
      by_cases c2 : 1099511627776 < sid
      · have c2d : decide (1099511627776 < sid) = true := decide_eq_true (by omega)
        have HE := Lib.hid (show R = 102 by rw [HRR.out]; exact checkE_bad HN.out (by rw [← HS.out]; exact HBAD.out (by omega)))
        clear c2 c1
        go_wp2
        go_ret
        exact ⟨by rw [HE.out]; rfl, below_alloc HB.out _⟩
      have c2d : decide (1099511627776 < sid) = false := decide_eq_false (by omega)
      by_cases c3 : kl < 16
      · have c3d : decide ((kl : Int) < 16) = true := decide_eq_true (by omega)
        have c3e : decide (kl < 16) = true := decide_eq_true (by omega)
        have HE := Lib.hid (show R = 102 by rw [HRR.out]; exact checkE_bad HN.out (by rw [← HS.out]; exact HBAD.out (by omega)))
        clear c3 c1 c2
        go_wp2
        go_ret
        exact ⟨by rw [HE.out]; rfl, below_alloc HB.out _⟩
      have c3d : decide ((kl : Int) < 16) = false := decide_eq_false (by omega)
      have c3e : decide (kl < 16) = false := decide_eq_false (by omega)
      by_cases c4 : 64 < kl
      · have c4d : decide (64 < (kl : Int)) = true := decide_eq_true (by omega)
        have c4e : decide (64 < kl) = true := decide_eq_true (by omega)
        have HE := Lib.hid (show R = 102 by rw [HRR.out]; exact checkE_bad HN.out (by rw [← HS.out]; exact HBAD.out (by omega)))
        clear c4 c1 c2 c3
        go_wp2
        go_ret
        exact ⟨by rw [HE.out]; rfl, below_alloc HB.out _⟩
      have c4d : decide (64 < (kl : Int)) = false := decide_eq_false (by omega)
      have c4e : decide (64 < kl) = false := decide_eq_false (by omega)
      have HS2 := Lib.hid (show rise sid (L.drop (k + 1)) = rise (-1) L by rw [← HS.out, HGOOD.out (by omega)])
      clear c1 c2 c3 c4
      have HB2 := Lib.hid (below_alloc HB.out (.cells #[.int .i64 sid, .slice Ai kl ci] 42))
      go_wp2
      go_roundw
      case rel => exact ⟨k + 1, sid, by go_num, rfl, by omega, HS2, HB2⟩
      case measure => simp [intOf]; omega
    · obtain rfl : k = n := by omega
      have dkn : decide ((k : Int) < k) = false := decide_eq_false (by omega)
      have HE := Lib.hid (show R = 0 by rw [HRR.out]; exact checkE_ok HN.out (by rw [← HS.out, List.drop_of_length_le (by rw [HL.out]; exact Nat.le_refl _)]; rfl))
      go_wp2
      go_ret
      exact ⟨by rw [HE.out]; rfl, HB.out⟩
end Go.Proofs.YtcgenmogedndjaaDoor
namespace Go.Proofs.YtcgenmogedndjaaDoor
open Go.RowKit Go.Proofs.YtcgenmogedndjaaDoorW.PrintWords
theorem nameCh_iff (x : Int) : nameCh x = true ↔ (x = 46 ∨ x = 45 ∨ x = 95 ∨ (48 ≤ x ∧ x ≤ 57) ∨ (97 ≤ x ∧ x ≤ 122) ∨ (65 ≤ x ∧ x ≤ 90)) := by
  unfold nameCh
  rw [decide_eq_true_eq]
theorem nameB_yes {s : ByteArray} (h : ∀ k, k < s.size → nameCh (rd (bytesOf s) (k : Nat)) = true) (h1 : 1 ≤ s.size) (h2 : s.size ≤ 24) : nameB s = true := by
  rw [nameB_all h, decide_eq_true_eq]
  exact ⟨h1, h2⟩
theorem nameB_no {s : ByteArray} (h : s.size < 1 ∨ 24 < s.size) : nameB s = false := by
  unfold nameB
  rw [Bool.and_eq_false_iff, decide_eq_false_iff_not]
  right
  omega
set_option maxHeartbeats 1600000 in
theorem Name_calls (s : ByteArray) (w : World) (hs : s.size ≤ 35184372088832) :
    Calls Tryd.prog 20 #[.string s] w fun e w' => e = .returned (.bool (nameB s)) ∧ Below w.heap.size w w' := by
  obtain ⟨R, hR⟩ : ∃ R, R = nameB s := ⟨_, rfl⟩
  rw [← hR]
  have HRR := Lib.hid hR
  have HY := Lib.hid (Bytes_bytesOf s)
  have HL := Lib.hid (bytesOf_length s)
  clear hR
  have kb := fun W => print_bytes (P := Tryd.prog) 9 34 5 Tryd.underlying9 Tryd.underlying34 Tryd.underlying5 s W
  go_enter Tryd.func20, Tryd.ntmps20
  go_wp2
  have hr0 := str_reads w s (by omega)
  have hb0 : Below w.heap.size w (Lib.bytesWorld w 5 s) := bytes_below (Below.refl _ _) (Nat.le_refl _) _ _
  obtain ⟨c0, hc0⟩ : ∃ c0, c0 = grownCap w s.size 0 5 := ⟨_, rfl⟩
  rw [← hc0]
  obtain ⟨w0, hw0⟩ : ∃ w0, w0 = Lib.bytesWorld w 5 s := ⟨_, rfl⟩
  rw [← hw0] at hr0 hb0 ⊢
  have HR := Lib.hid hr0
  have HB0 := Lib.hid hb0
  obtain ⟨ad, had⟩ : ∃ ad : Addr, ad = ⟨w.heap.size, 0, none⟩ := ⟨_, rfl⟩
  rw [← had] at HR ⊢
  clear hc0 hr0 hb0 kb had hw0
  go_loop [8] (fun i => ∃ k : Nat, i = .int .i64 k ∧ k ≤ s.size ∧ Hid (∀ j, j < k → nameCh (rd (bytesOf s) (j : Nat)) = true)) (fun i => s.size - (intOf i).toNat)
  case atStart => exact ⟨0, rfl, by omega, Lib.hid (fun j hj => by omega)⟩
  case round =>
    obtain ⟨k, rfl, hk, HA⟩ := hrel
    by_cases hkn : k < s.size
    · have dkn : decide ((k : Int) < s.size) = true := decide_eq_true (by omega)
      obtain ⟨x, hx⟩ : ∃ x, x = rd (bytesOf s) k := ⟨_, rfl⟩
      obtain ⟨x0, x1⟩ := bytes_rd HY.out k (by rw [HL.out]; exact hkn)
      rw [← hx] at x0 x1
      obtain ⟨ad', e, hcell⟩ := Rd.cells HR.out (by omega)
      cases e
      have hxc := hcell k hkn
      rw [← hx] at hxc
      have HX := Lib.hid hx
      clear hcell hx
      by_cases hch : nameCh x = true
      · have HA2 := Lib.hid (show ∀ j, j < k + 1 → nameCh (rd (bytesOf s) (j : Nat)) = true from fun j hj => by
          rcases Nat.lt_or_ge j k with h | h
          · exact HA.out j h
          · obtain rfl : j = k := by omega
            rw [← HX.out]; exact hch)
        rcases (nameCh_iff x).1 hch with h | h | h | h | h | h
        · clear hch
          subst h
          go_wp2
          go_round
          case rel => exact ⟨k + 1, by go_num, by omega, HA2⟩
          case measure => simp [intOf]; omega
        · clear hch
          subst h
          go_wp2
          go_round
          case rel => exact ⟨k + 1, by go_num, by omega, HA2⟩
          case measure => simp [intOf]; omega
        · clear hch
          subst h
          go_wp2
          go_round
          case rel => exact ⟨k + 1, by go_num, by omega, HA2⟩
          case measure => simp [intOf]; omega
        · clear hch
          obtain ⟨l0, l1⟩ := h
          have f0 : decide (x < 48) = false := decide_eq_false (by omega)
          have f1 : decide (x < 97) = true := decide_eq_true (by omega)
          have f2 : decide (x < 65) = true := decide_eq_true (by omega)
          have f3 : decide (57 < x) = false := decide_eq_false (by omega)
          have f4 : decide (122 < x) = false := decide_eq_false (by omega)
          have f5 : decide (90 < x) = false := decide_eq_false (by omega)
          have f6 : (x == 46) = false := beq_eq_false_iff_ne.2 (by omega)
          have f7 : (x != 46) = true := bne_iff_ne.2 (by omega)
          have f8 : (x == 45) = false := beq_eq_false_iff_ne.2 (by omega)
          have f9 : (x != 45) = true := bne_iff_ne.2 (by omega)
          have f10 : (x == 95) = false := beq_eq_false_iff_ne.2 (by omega)
          have f11 : (x != 95) = true := bne_iff_ne.2 (by omega)
          clear l0 l1
          go_wp2
          go_round
          case rel => exact ⟨k + 1, by go_num, by omega, HA2⟩
          case measure => simp [intOf]; omega
        · clear hch
          obtain ⟨l0, l1⟩ := h
          have f0 : decide (x < 48) = false := decide_eq_false (by omega)
          have f1 : decide (x < 97) = false := decide_eq_false (by omega)
          have f2 : decide (x < 65) = false := decide_eq_false (by omega)
          have f3 : decide (57 < x) = true := decide_eq_true (by omega)
          have f4 : decide (122 < x) = false := decide_eq_false (by omega)
          have f5 : decide (90 < x) = true := decide_eq_true (by omega)
          have f6 : (x == 46) = false := beq_eq_false_iff_ne.2 (by omega)
          have f7 : (x != 46) = true := bne_iff_ne.2 (by omega)
          have f8 : (x == 45) = false := beq_eq_false_iff_ne.2 (by omega)
          have f9 : (x != 45) = true := bne_iff_ne.2 (by omega)
          have f10 : (x == 95) = false := beq_eq_false_iff_ne.2 (by omega)
          have f11 : (x != 95) = true := bne_iff_ne.2 (by omega)
          clear l0 l1
          go_wp2
          go_round
          case rel => exact ⟨k + 1, by go_num, by omega, HA2⟩
          case measure => simp [intOf]; omega
        · clear hch
          obtain ⟨l0, l1⟩ := h
          have f0 : decide (x < 48) = false := decide_eq_false (by omega)
          have f1 : decide (x < 97) = true := decide_eq_true (by omega)
          have f2 : decide (x < 65) = false := decide_eq_false (by omega)
          have f3 : decide (57 < x) = true := decide_eq_true (by omega)
          have f4 : decide (122 < x) = false := decide_eq_false (by omega)
          have f5 : decide (90 < x) = false := decide_eq_false (by omega)
          have f6 : (x == 46) = false := beq_eq_false_iff_ne.2 (by omega)
          have f7 : (x != 46) = true := bne_iff_ne.2 (by omega)
          have f8 : (x == 45) = false := beq_eq_false_iff_ne.2 (by omega)
          have f9 : (x != 45) = true := bne_iff_ne.2 (by omega)
          have f10 : (x == 95) = false := beq_eq_false_iff_ne.2 (by omega)
          have f11 : (x != 95) = true := bne_iff_ne.2 (by omega)
          clear l0 l1
          go_wp2
          go_round
          case rel => exact ⟨k + 1, by go_num, by omega, HA2⟩
          case measure => simp [intOf]; omega
      · have hno := mt (nameCh_iff x).2 hch
        have HE := Lib.hid (show R = false by rw [HRR.out]; exact nameB_bad k hkn (by rw [← HX.out]; exact Bool.eq_false_iff.2 hch))
        have hr : x ≤ 44 ∨ x = 47 ∨ (58 ≤ x ∧ x ≤ 64) ∨ (91 ≤ x ∧ x ≤ 94) ∨ x = 96 ∨ 123 ≤ x := by omega
        clear hch hno
        rcases hr with h | h | h | h | h | h
        · have f0 : decide (x < 48) = true := decide_eq_true (by omega)
          have f1 : decide (x < 97) = true := decide_eq_true (by omega)
          have f2 : decide (x < 65) = true := decide_eq_true (by omega)
          have f3 : decide (57 < x) = false := decide_eq_false (by omega)
          have f4 : decide (122 < x) = false := decide_eq_false (by omega)
          have f5 : decide (90 < x) = false := decide_eq_false (by omega)
          have f6 : (x == 46) = false := beq_eq_false_iff_ne.2 (by omega)
          have f7 : (x != 46) = true := bne_iff_ne.2 (by omega)
          have f8 : (x == 45) = false := beq_eq_false_iff_ne.2 (by omega)
          have f9 : (x != 45) = true := bne_iff_ne.2 (by omega)
          have f10 : (x == 95) = false := beq_eq_false_iff_ne.2 (by omega)
          have f11 : (x != 95) = true := bne_iff_ne.2 (by omega)
          clear h
          go_wp2
          go_ret
          exact ⟨by rw [HE.out]; rfl, HB0.out⟩
        · subst h
          go_wp2
          go_ret
          exact ⟨by rw [HE.out]; rfl, HB0.out⟩
        · have f0 : decide (x < 48) = false := decide_eq_false (by omega)
          have f1 : decide (x < 97) = true := decide_eq_true (by omega)
          have f2 : decide (x < 65) = true := decide_eq_true (by omega)
          have f3 : decide (57 < x) = true := decide_eq_true (by omega)
          have f4 : decide (122 < x) = false := decide_eq_false (by omega)
          have f5 : decide (90 < x) = false := decide_eq_false (by omega)
          have f6 : (x == 46) = false := beq_eq_false_iff_ne.2 (by omega)
          have f7 : (x != 46) = true := bne_iff_ne.2 (by omega)
          have f8 : (x == 45) = false := beq_eq_false_iff_ne.2 (by omega)
          have f9 : (x != 45) = true := bne_iff_ne.2 (by omega)
          have f10 : (x == 95) = false := beq_eq_false_iff_ne.2 (by omega)
          have f11 : (x != 95) = true := bne_iff_ne.2 (by omega)
          clear h
          go_wp2
          go_ret
          exact ⟨by rw [HE.out]; rfl, HB0.out⟩
        · have f0 : decide (x < 48) = false := decide_eq_false (by omega)
          have f1 : decide (x < 97) = true := decide_eq_true (by omega)
          have f2 : decide (x < 65) = false := decide_eq_false (by omega)
          have f3 : decide (57 < x) = true := decide_eq_true (by omega)
          have f4 : decide (122 < x) = false := decide_eq_false (by omega)
          have f5 : decide (90 < x) = true := decide_eq_true (by omega)
          have f6 : (x == 46) = false := beq_eq_false_iff_ne.2 (by omega)
          have f7 : (x != 46) = true := bne_iff_ne.2 (by omega)
          have f8 : (x == 45) = false := beq_eq_false_iff_ne.2 (by omega)
          have f9 : (x != 45) = true := bne_iff_ne.2 (by omega)
          have f10 : (x == 95) = false := beq_eq_false_iff_ne.2 (by omega)
          have f11 : (x != 95) = true := bne_iff_ne.2 (by omega)
          clear h
          go_wp2
          go_ret
          exact ⟨by rw [HE.out]; rfl, HB0.out⟩
        · subst h
          go_wp2
          go_ret
          exact ⟨by rw [HE.out]; rfl, HB0.out⟩
        · have f0 : decide (x < 48) = false := decide_eq_false (by omega)
          have f1 : decide (x < 97) = false := decide_eq_false (by omega)
          have f2 : decide (x < 65) = false := decide_eq_false (by omega)
          have f3 : decide (57 < x) = true := decide_eq_true (by omega)
          have f4 : decide (122 < x) = true := decide_eq_true (by omega)
          have f5 : decide (90 < x) = true := decide_eq_true (by omega)
          have f6 : (x == 46) = false := beq_eq_false_iff_ne.2 (by omega)
          have f7 : (x != 46) = true := bne_iff_ne.2 (by omega)
          have f8 : (x == 45) = false := beq_eq_false_iff_ne.2 (by omega)
          have f9 : (x != 45) = true := bne_iff_ne.2 (by omega)
          have f10 : (x == 95) = false := beq_eq_false_iff_ne.2 (by omega)
          have f11 : (x != 95) = true := bne_iff_ne.2 (by omega)
          clear h
          go_wp2
          go_ret
          exact ⟨by rw [HE.out]; rfl, HB0.out⟩
    · obtain rfl : k = s.size := by omega
      have dkn : decide ((s.size : Int) < s.size) = false := decide_eq_false (by omega)
      by_cases h0 : s.size = 0
      · have HE := Lib.hid (show R = false by rw [HRR.out]; exact nameB_no (by omega))
        have hz : s = ByteArray.empty := bytesOf_inj (List.eq_nil_of_length_eq_zero (by rw [HL.out]; exact h0) |>.trans rfl)
        have e1 : s.toList = [] := by rw [hz, ByteArray.toList_eq]; rfl
        have e2 : (!s.toList.isEmpty) = false := by rw [e1]; rfl
        clear h0 hz
        go_wp2
        go_ret
        exact ⟨by rw [HE.out]; rfl, HB0.out⟩
      · have hne : s.toList ≠ [] := fun h => h0 (by
          have := congrArg List.length h
          rw [ByteArray.toList_eq] at this
          simpa using this)
        have e1 : s.toList.isEmpty = false := by cases h : s.toList with | nil => exact absurd h hne | cons => rfl
        have e2 : (!s.toList.isEmpty) = true := by rw [e1]; rfl
        by_cases h24 : s.size ≤ 24
        · have HE := Lib.hid (show R = true by rw [HRR.out]; exact nameB_yes HA.out (by omega) h24)
          have d24 : decide ((s.size : Int) ≤ 24) = true := decide_eq_true (by omega)
          go_wp2
          go_ret
          exact ⟨by rw [HE.out]; rfl, HB0.out⟩
        · have HE := Lib.hid (show R = false by rw [HRR.out]; exact nameB_no (by omega))
          have d24 : decide ((s.size : Int) ≤ 24) = false := decide_eq_false (by omega)
          go_wp2
          go_ret
          exact ⟨by rw [HE.out]; rfl, HB0.out⟩
end Go.Proofs.YtcgenmogedndjaaDoor
namespace Go.Proofs.YtcgenmogedndjaaDoor
open Go.RowKit Go.Proofs.YtcgenmogedndjaaDoorW.PrintWords
/-- A claim's error. -/
def clmE (c : Clm) : Int := if nameB c.client = false ∨ nameB c.group = false then 6 else if c.upto < 0 ∨ 1099511627776 < c.upto then 1 else 0
def newest (L : List Sec) : Sec := L.getD (L.length - 1) Sec.none
def makeR (L : List Sec) (c : Clm) : ByteArray × Int :=
  if checkB L = false then (ByteArray.empty, 102) else if clmE c ≠ 0 then (ByteArray.empty, clmE c) else (tokS (newest L) c, 0)
theorem makeR_bad {L : List Sec} {c : Clm} (h : checkB L = false) : makeR L c = (ByteArray.empty, 102) := if_pos h
theorem makeR_clm {L : List Sec} {c : Clm} {e : Int} (h : checkB L = true) (he : clmE c = e) (h0 : e ≠ 0) : makeR L c = (ByteArray.empty, e) := by
  unfold makeR
  rw [if_neg (by rw [h]; decide), he, if_pos h0]
theorem makeR_ok {L : List Sec} {c : Clm} (h : checkB L = true) (he : clmE c = 0) : makeR L c = (tokS (newest L) c, 0) := by
  unfold makeR
  rw [if_neg (by rw [h]; decide), he, if_neg (by simp)]
theorem clmE_name1 {a b : ByteArray} {u : Int} (h : nameB a = false) : clmE ⟨a, b, u⟩ = 6 := if_pos (.inl h)
theorem clmE_name2 {a b : ByteArray} {u : Int} (h : nameB b = false) : clmE ⟨a, b, u⟩ = 6 := if_pos (.inr h)
theorem clmE_time {a b : ByteArray} {u : Int} (h1 : nameB a = true) (h2 : nameB b = true) (h : u < 0 ∨ 1099511627776 < u) : clmE ⟨a, b, u⟩ = 1 := by
  unfold clmE
  rw [if_neg (by simp [h1, h2]), if_pos h]
theorem clmE_ok {a b : ByteArray} {u : Int} (h1 : nameB a = true) (h2 : nameB b = true) (h : 0 ≤ u ∧ u ≤ 1099511627776) : clmE ⟨a, b, u⟩ = 0 := by
  unfold clmE
  rw [if_neg (by simp [h1, h2]), if_neg (by simp only; omega)]
theorem checkE_no {L : List Sec} (h : checkB L = false) : checkE L = 102 := by unfold checkE; rw [h]; rfl
theorem checkE_yes {L : List Sec} (h : checkB L = true) : checkE L = 0 := if_pos h
theorem checkB_len {L : List Sec} (h : checkB L = true) : 1 ≤ L.length ∧ L.length ≤ 8 := by
  unfold checkB at h
  rw [Bool.and_eq_true, decide_eq_true_eq] at h
  exact h.1
theorem rise_all : ∀ (L : List Sec) (last : Int), rise last L = true → ∀ s ∈ L, last < s.id ∧ s.id ≤ 1099511627776 ∧ 16 ≤ s.key.length ∧ s.key.length ≤ 64
  | [], _, _ => fun _ h => by cases h
  | a :: t, last, h => by
    rw [rise, Bool.and_eq_true, decide_eq_true_eq] at h
    intro s hs
    rcases List.mem_cons.1 hs with rfl | hs
    · exact h.1
    · have := rise_all t a.id h.2 s hs
      omega
theorem checkB_all {L : List Sec} (h : checkB L = true) : ∀ s ∈ L, 0 ≤ s.id ∧ s.id ≤ 1099511627776 ∧ 16 ≤ s.key.length ∧ s.key.length ≤ 64 := by
  intro s hs
  have h2 := h
  rw [checkB_eq (checkB_len h)] at h2
  have := rise_all L (-1) h2 s hs
  omega
theorem newest_mem {L : List Sec} (h : 1 ≤ L.length) : newest L ∈ L := by
  unfold newest
  rw [List.getD_eq_getElem?_getD, List.getElem?_eq_getElem (by omega)]
  exact List.getElem_mem _
set_option maxHeartbeats 3200000 in
theorem Make_calls {n : Nat} (A0 : Option Addr) (c0 : Nat) (L : List Sec) (a b : ByteArray) (u : Int) (w : World) (hr0 : RdS w A0 n L) (hok : SecOk L) (ha : a.size ≤ 65536) (hb : b.size ≤ 65536) (hu : -9223372036854775808 ≤ u ∧ u ≤ 9223372036854775807) (hG : Laid w) :
    Calls Tryd.prog 12 #[.slice A0 n c0, .agg #[.string a, .string b, .int .i64 u]] w fun e w' => e = .returned (.tuple #[.string (makeR L ⟨a, b, u⟩).1, .int .i64 (makeR L ⟨a, b, u⟩).2]) ∧ Below w.heap.size w w' := by
  have hlen : L.length = n := Kd.C_len hr0
  have hmax := Kd.C_max hr0
  obtain ⟨R, hR⟩ : ∃ R, R = makeR L ⟨a, b, u⟩ := ⟨_, rfl⟩
  rw [← hR]
  have HRR := Lib.hid hR
  obtain ⟨g, hg⟩ : ∃ g, g = w.heap.size := ⟨_, rfl⟩
  obtain ⟨W0, hW0⟩ : ∃ W0, W0 = w.alloc (.cells #[.string a, .string b, .int .i64 u] 24) := ⟨_, rfl⟩
  have hbw : Below w.heap.size w W0 := by rw [hW0]; exact below_alloc (Below.refl _ _) _
  have hhp : W0.heap[g]? = some (.cells #[.string a, .string b, .int .i64 u] 24) := by rw [hW0, hg]; exact heap_alloc_new w _
  have x0 : W0.cell? ⟨g, 0, none⟩ = some (.string a) := by simp [World.cell?, hhp]
  have x1 : W0.cell? ⟨g, 1, none⟩ = some (.string b) := by simp [World.cell?, hhp]
  have x2 : W0.cell? ⟨g, 2, none⟩ = some (.int .i64 u) := by simp [World.cell?, hhp]
  have HX := Lib.hid (And.intro x0 (And.intro x1 x2))
  have HS := Lib.hid (show g = w.heap.size ∧ W0 = w.alloc _ from ⟨hg, hW0⟩)
  have HI := Lib.hid (show RdS W0 A0 n L ∧ SecOk L ∧ Below w.heap.size w W0 ∧ L.length = n ∧ Laid W0 from ⟨Kd.C_below hr0 hbw, hok, hbw, hlen, hG.below hbw hG.lt⟩)
  have HU := Lib.hid (show a.size ≤ 65536 ∧ b.size ≤ 65536 ∧ (-9223372036854775808 ≤ u ∧ u ≤ 9223372036854775807) from ⟨ha, hb, hu⟩)
  clear x0 x1 x2 hR hg hW0 hbw hhp hr0 hok ha hb hu hG hlen hmax
  cases hc : checkB L with
  | false =>
    have HE := Lib.hid (show R = (ByteArray.empty, 102) by rw [HRR.out]; exact makeR_bad hc)
    have HC := Lib.hid (checkE_no hc)
    clear hc
    go_enter Tryd.func12, Tryd.ntmps12
    go_wp2_with fail
    rw [← HS.out.1, ← HS.out.2]
    refine (Check_calls _ _ _ _ HI.out.1).mono ?_
    rintro e w1 ⟨rfl, hb1⟩
    have HB1 := Lib.hid hb1
    have y0 := pw_cell_below hb1 HX.out.1
    have y1 := pw_cell_below hb1 HX.out.2.1
    have y2 := pw_cell_below hb1 HX.out.2.2
    rw [HC.out]
    clear hb1
    go_wp2
    go_ret2
    exact ⟨by rw [HE.out]; rfl, below_step HI.out.2.2.1 HB1.out⟩
  | true =>
    have HC := Lib.hid (checkE_yes hc)
    have HCB := Lib.hid hc
    cases h1 : nameB a with
    | false =>
      have HE := Lib.hid (show R = (ByteArray.empty, 6) by rw [HRR.out]; exact makeR_clm hc (clmE_name1 h1) (by decide))
      have HN1 := Lib.hid h1
      clear hc h1
      go_enter Tryd.func12, Tryd.ntmps12
      go_wp2_with fail
      rw [← HS.out.1, ← HS.out.2]
      refine (Check_calls _ _ _ _ HI.out.1).mono ?_
      rintro e w1 ⟨rfl, hb1⟩
      have HB1 := Lib.hid hb1
      have y0 := pw_cell_below hb1 HX.out.1
      have y1 := pw_cell_below hb1 HX.out.2.1
      have y2 := pw_cell_below hb1 HX.out.2.2
      rw [HC.out]
      clear hb1
      go_wp2_with fail
      refine (Name_calls a _ (by have := HU.out; omega)).mono ?_
      rintro e w2 ⟨rfl, hb2⟩
      have HB2 := Lib.hid (below_step HB1.out hb2)
      have z0 := pw_cell_below hb2 y0
      have z1 := pw_cell_below hb2 y1
      have z2 := pw_cell_below hb2 y2
      clear y0 y1 y2 hb2
      rw [HN1.out]
      go_wp2
      go_ret2
      exact ⟨by rw [HE.out]; rfl, below_step HI.out.2.2.1 HB2.out⟩
    | true =>
      have HN1 := Lib.hid h1
      cases h2 : nameB b with
      | false =>
        have HE := Lib.hid (show R = (ByteArray.empty, 6) by rw [HRR.out]; exact makeR_clm hc (clmE_name2 h2) (by decide))
        have HN2 := Lib.hid h2
        clear hc h1 h2
        go_enter Tryd.func12, Tryd.ntmps12
        go_wp2_with fail
        rw [← HS.out.1, ← HS.out.2]
        refine (Check_calls _ _ _ _ HI.out.1).mono ?_
        rintro e w1 ⟨rfl, hb1⟩
        have HB1 := Lib.hid hb1
        have y0 := pw_cell_below hb1 HX.out.1
        have y1 := pw_cell_below hb1 HX.out.2.1
        have y2 := pw_cell_below hb1 HX.out.2.2
        rw [HC.out]
        clear hb1
        go_wp2_with fail
        refine (Name_calls a _ (by have := HU.out; omega)).mono ?_
        rintro e w2 ⟨rfl, hb2⟩
        have HB2 := Lib.hid (below_step HB1.out hb2)
        have z0 := pw_cell_below hb2 y0
        have z1 := pw_cell_below hb2 y1
        have z2 := pw_cell_below hb2 y2
        clear y0 y1 y2 hb2
        rw [HN1.out]
        go_wp2_with fail
        refine (Name_calls b _ (by have := HU.out; omega)).mono ?_
        rintro e w3 ⟨rfl, hb3⟩
        have HB3 := Lib.hid (below_step HB2.out hb3)
        have t0 := pw_cell_below hb3 z0
        have t1 := pw_cell_below hb3 z1
        have t2 := pw_cell_below hb3 z2
        clear z0 z1 z2 hb3
        rw [HN2.out]
        go_wp2
        go_ret2
        exact ⟨by rw [HE.out]; rfl, below_step HI.out.2.2.1 HB3.out⟩
      | true =>
        have HN2 := Lib.hid h2
        by_cases hlo : u < 0
        · have HE := Lib.hid (show R = (ByteArray.empty, 1) by rw [HRR.out]; exact makeR_clm hc (clmE_time h1 h2 (by omega)) (by decide))
          have d1 : decide (u < 0) = true := decide_eq_true hlo
          clear hc h1 h2 hlo
          go_enter Tryd.func12, Tryd.ntmps12
          go_wp2_with fail
          rw [← HS.out.1, ← HS.out.2]
          refine (Check_calls _ _ _ _ HI.out.1).mono ?_
          rintro e w1 ⟨rfl, hb1⟩
          have HB1 := Lib.hid hb1
          have y0 := pw_cell_below hb1 HX.out.1
          have y1 := pw_cell_below hb1 HX.out.2.1
          have y2 := pw_cell_below hb1 HX.out.2.2
          rw [HC.out]
          clear hb1
          go_wp2_with fail
          refine (Name_calls a _ (by have := HU.out; omega)).mono ?_
          rintro e w2 ⟨rfl, hb2⟩
          have HB2 := Lib.hid (below_step HB1.out hb2)
          have z0 := pw_cell_below hb2 y0
          have z1 := pw_cell_below hb2 y1
          have z2 := pw_cell_below hb2 y2
          clear y0 y1 y2 hb2
          rw [HN1.out]
          go_wp2_with fail
          refine (Name_calls b _ (by have := HU.out; omega)).mono ?_
          rintro e w3 ⟨rfl, hb3⟩
          have HB3 := Lib.hid (below_step HB2.out hb3)
          have t0 := pw_cell_below hb3 z0
          have t1 := pw_cell_below hb3 z1
          have t2 := pw_cell_below hb3 z2
          clear z0 z1 z2 hb3
          rw [HN2.out]
          go_wp2
          go_ret2
          exact ⟨by rw [HE.out]; rfl, below_step HI.out.2.2.1 HB3.out⟩
        have hlo1 := hlo
        clear hlo
        by_cases hlo : 1099511627776 < u
        · have HE := Lib.hid (show R = (ByteArray.empty, 1) by rw [HRR.out]; exact makeR_clm hc (clmE_time h1 h2 (by omega)) (by decide))
          have d1 : decide (u < 0) = false := decide_eq_false (by omega)
          have d2 : decide (1099511627776 < u) = true := decide_eq_true hlo
          clear hc h1 h2 hlo
          go_enter Tryd.func12, Tryd.ntmps12
          go_wp2_with fail
          rw [← HS.out.1, ← HS.out.2]
          refine (Check_calls _ _ _ _ HI.out.1).mono ?_
          rintro e w1 ⟨rfl, hb1⟩
          have HB1 := Lib.hid hb1
          have y0 := pw_cell_below hb1 HX.out.1
          have y1 := pw_cell_below hb1 HX.out.2.1
          have y2 := pw_cell_below hb1 HX.out.2.2
          rw [HC.out]
          clear hb1
          go_wp2_with fail
          refine (Name_calls a _ (by have := HU.out; omega)).mono ?_
          rintro e w2 ⟨rfl, hb2⟩
          have HB2 := Lib.hid (below_step HB1.out hb2)
          have z0 := pw_cell_below hb2 y0
          have z1 := pw_cell_below hb2 y1
          have z2 := pw_cell_below hb2 y2
          clear y0 y1 y2 hb2
          rw [HN1.out]
          go_wp2_with fail
          refine (Name_calls b _ (by have := HU.out; omega)).mono ?_
          rintro e w3 ⟨rfl, hb3⟩
          have HB3 := Lib.hid (below_step HB2.out hb3)
          have t0 := pw_cell_below hb3 z0
          have t1 := pw_cell_below hb3 z1
          have t2 := pw_cell_below hb3 z2
          clear z0 z1 z2 hb3
          rw [HN2.out]
          go_wp2
          go_ret2
          exact ⟨by rw [HE.out]; rfl, below_step HI.out.2.2.1 HB3.out⟩
        have hlo2 := hlo
        clear hlo
        have d1 : decide (u < 0) = false := decide_eq_false hlo1
        have d2 : decide (1099511627776 < u) = false := decide_eq_false hlo2
        have HE := Lib.hid (show R = (tokS (newest L) ⟨a, b, u⟩, 0) by rw [HRR.out]; exact makeR_ok hc (clmE_ok h1 h2 (by omega)))
        have hlen := checkB_len hc
        have HLN := Lib.hid hlen
        have hall := checkB_all hc (newest L) (newest_mem hlen.1)
        have hoks := HI.out.2.1 (newest L) (newest_mem hlen.1)
        have hnl : L.length = n := HI.out.2.2.2.1
        obtain ⟨k, hk⟩ : ∃ k, k = newest L := ⟨_, rfl⟩
        rw [← hk] at hall hoks
        have hget : L.getD (n - 1) Sec.none = k := by rw [hk]; unfold newest; rw [hnl]
        have HK := Lib.hid (show newest L = k ∧ Bytes k.key ∧ k.key.length ≤ 64 ∧ (-9223372036854775808 ≤ k.id ∧ k.id ≤ 9223372036854775807) from ⟨hk.symm, hoks.1, hall.2.2.2, hoks.2⟩)
        have HGET := Lib.hid hget
        have w1' : IntKind.i64.wrap ((n : Int) - 1) = n - 1 := by rw [wrap_id (by omega) (by omega)]
        have t1' : ((n : Int) - 1).toNat = n - 1 := by omega
        have l1 : (0 : Int) ≤ (n : Int) - 1 := by omega
        have l1' : (1 : Int) ≤ n := by omega
        have u1' : (n : Int) - 1 < n := by omega
        clear hc h1 h2 hlo1 hlo2 hlen hall hoks hget hk hnl
        go_enter Tryd.func12, Tryd.ntmps12
        go_wp2_with fail
        rw [← HS.out.1, ← HS.out.2]
        refine (Check_calls _ _ _ _ HI.out.1).mono ?_
        rintro e w1 ⟨rfl, hb1⟩
        have HB1 := Lib.hid hb1
        have y0 := pw_cell_below hb1 HX.out.1
        have y1 := pw_cell_below hb1 HX.out.2.1
        have y2 := pw_cell_below hb1 HX.out.2.2
        rw [HC.out]
        clear hb1
        go_wp2_with fail
        refine (Name_calls a _ (by have := HU.out; omega)).mono ?_
        rintro e w2 ⟨rfl, hb2⟩
        have HB2 := Lib.hid (below_step HB1.out hb2)
        have z0 := pw_cell_below hb2 y0
        have z1 := pw_cell_below hb2 y1
        have z2 := pw_cell_below hb2 y2
        clear y0 y1 y2 hb2
        rw [HN1.out]
        go_wp2_with fail
        refine (Name_calls b _ (by have := HU.out; omega)).mono ?_
        rintro e w3 ⟨rfl, hb3⟩
        have HB3 := Lib.hid (below_step HB2.out hb3)
        have t0 := pw_cell_below hb3 z0
        have t1 := pw_cell_below hb3 z1
        have t2 := pw_cell_below hb3 z2
        clear z0 z1 z2 hb3
        rw [HN2.out]
        go_wp2_with fail
        obtain ⟨ad, Ai, ci, rfl, q0, q1, hci, hrd⟩ := RdS.at (Kd.C_below HI.out.1 HB3.out) (n - 1) (by omega)
        rw [HGET.out] at q0 q1 hci hrd
        have HRD := Lib.hid (And.intro hci hrd)
        clear hci hrd
        obtain ⟨kid, kkey⟩ := k
        simp only at q0 q1 HRD HK
        go_region_with (go_at_call 28; refine (signed_calls kid _ _ kkey a b u _ (Kd.C_below HRD.out.2 (below_drew (Below.refl _ _))) HK.out.2.1 HRD.out.1 (by have := HK.out.2.2.1; omega) HK.out.2.2.2 HU.out.1 HU.out.2.1 HU.out.2.2 ((HI.out.2.2.2.2.below HB3.out HI.out.2.2.2.2.lt).below (below_drew (Below.refl _ _)) (HI.out.2.2.2.2.below HB3.out HI.out.2.2.2.2.lt).lt)).mono ?_; rintro e w4 ⟨rfl, hb4⟩; have HB4 := Lib.hid (below_step HB3.out (below_step (below_drew (Below.refl _ _)) hb4)); clear hb4)
        all_goals
          go_wp2
          go_ret2
          exact ⟨by rw [HE.out, HK.out.1]; rfl, below_step HI.out.2.2.1 HB4.out⟩
end Go.Proofs.YtcgenmogedndjaaDoor
namespace Go.Proofs.YtcgenmogedndjaaDoor
open Go.RowKit Go.Proofs.YtcgenmogedndjaaDoorW.PrintWords Go.Proofs.YtcgenmogedndjaaDoorW.PrintMore
theorem beBytes_succ (k : Nat) (x : Int) : beBytes (k + 1) x = beBytes k (x / 256) ++ [x % 256] := by
  unfold beBytes
  rw [List.range_succ, List.map_append]
  congr 1
  · refine List.map_congr_left fun t ht => ?_
    rw [List.mem_range] at ht
    rw [show k + 1 - 1 - t = (k - 1 - t) + 1 by omega, Int.pow_succ, Int.mul_comm, ← Int.ediv_ediv_of_nonneg (by omega)]
  · simp
end Go.Proofs.YtcgenmogedndjaaDoor
namespace Go.Proofs.YtcgenmogedndjaaDoor
open Go.RowKit Go.Proofs.YtcgenmogedndjaaDoorW.PrintWords Go.Proofs.YtcgenmogedndjaaDoorW.PrintMore
attribute [local go_sem] max2_int max_two
set_option maxHeartbeats 400000 in
theorem CNumber_bad {g p : Nat} {A : Option Addr} {n c : Nat} {l : List Int} {a : Nat} (w : World) (h : Cur w g p A n c l a) (hb : Bytes l) (E : Int) (hE : E ≠ 0) (hr : readNum (l.drop a) = (0, 0, E)) :
    Calls Tryd.prog 50 #[.pointer (some ⟨g, 0, none⟩)] w fun e w' => e = .returned (.tuple #[.int .i64 0, .int .i64 E]) ∧ Drawn0 w w' := by
  have H := Lib.hid h
  have HY := Lib.hid hb
  have hd : (E == 0) = false := beq_eq_false_iff_ne.2 hE
  have HR := Lib.hid hr
  clear h hb hr
  go_enter Tryd.func50, Tryd.ntmps50
  go_wp2_with fail
  refine (peek_calls _ H.out HY.out).mono ?_
  rw [HR.out]
  rintro e w1 ⟨rfl, hd1⟩
  have HD := Lib.hid hd1
  clear hd1
  go_wp2
  go_ret2
  exact ⟨rfl, HD.out⟩
set_option maxHeartbeats 400000 in
theorem CNumber_ok {g p : Nat} {A : Option Addr} {n c : Nat} {l : List Int} {a : Nat} (w : World) (h : Cur w g p A n c l a) (hb : Bytes l) (N : Int) (K : Nat) (hr : readNum (l.drop a) = (N, (K : Int), 0)) :
    Calls Tryd.prog 50 #[.pointer (some ⟨g, 0, none⟩)] w fun e w' => e = .returned (.tuple #[.int .i64 N, .int .i64 0]) ∧ Cur w' g p A n c l (a + K) ∧ w.grownBy w' (some p) := by
  have H := Lib.hid h
  have HY := Lib.hid hb
  have hk := readNum_ok _ (hb.dp a) (by rw [hr])
  rw [hr] at hk
  have hlen := Kd.C_len h.row
  have hm := Kd.C_max h.row
  have hle := h.le
  have hk1 : 1 ≤ (K : Int) := hk.1
  have hk2 : (K : Int) ≤ (l.drop a).length := hk.2.1
  rw [List.length_drop, hlen] at hk2
  have HR := Lib.hid hr
  have hw := wrap_id (x := (a : Int) + K) (by omega) (by omega)
  clear h hb hr hk hlen
  go_enter Tryd.func50, Tryd.ntmps50
  go_wp2_with fail
  refine (peek_calls _ H.out HY.out).mono ?_
  rw [HR.out]
  rintro e w1 ⟨rfl, hd1⟩
  have H2 := Lib.hid (H.out.below hd1.below)
  have HG := Lib.hid (Lib.grownBy_below (World.grownBy.refl w (some p)) hd1.below)
  have x0 := H2.out.x0
  have x1 := H2.out.x1
  have x2 := H2.out.x2
  have f2 := H2.out.f2
  clear hd1
  go_wp2
  go_ret2
  refine ⟨rfl, ?_, Lib.grownBy_setB HG.out 1 _⟩
  have := H2.out.set (a + K) (by omega)
  rwa [show ((a + K : Nat) : Int) = (a : Int) + K by omega] at this
set_option maxHeartbeats 400000 in
theorem CText_bad {g p : Nat} {A : Option Addr} {n c : Nat} {l : List Int} {a : Nat} (most : Int) (w : World) (h : Cur w g p A n c l a) (hb : Bytes l) (E : Int) (hE : E ≠ 0) (hr : readNum (l.drop a) = (0, 0, E)) :
    Calls Tryd.prog 51 #[.pointer (some ⟨g, 0, none⟩), .int .i64 most] w fun e w' => e = .returned (.tuple #[.string ByteArray.empty, .int .i64 E]) ∧ Drawn0 w w' := by
  have H := Lib.hid h
  have HY := Lib.hid hb
  have hd : (E == 0) = false := beq_eq_false_iff_ne.2 hE
  have hd2 : (E != 0) = true := by rw [bne, hd]; rfl
  have HR := Lib.hid hr
  clear h hb hr
  go_enter Tryd.func51, Tryd.ntmps51
  go_wp2_with fail
  refine (peek_calls _ H.out HY.out).mono ?_
  rw [HR.out]
  rintro e w1 ⟨rfl, hd1⟩
  have HD := Lib.hid hd1
  clear hd1
  go_wp2
  go_ret2
  exact ⟨rfl, HD.out⟩
set_option maxHeartbeats 400000 in
theorem CText_long {g p : Nat} {A : Option Addr} {n c : Nat} {l : List Int} {a : Nat} (most : Int) (w : World) (h : Cur w g p A n c l a) (hb : Bytes l) (N : Int) (K : Nat) (hr : readNum (l.drop a) = (N, (K : Int), 0)) (hbig : max most 0 < N) :
    Calls Tryd.prog 51 #[.pointer (some ⟨g, 0, none⟩), .int .i64 most] w fun e w' => e = .returned (.tuple #[.string ByteArray.empty, .int .i64 4]) ∧ Drawn0 w w' := by
  have H := Lib.hid h
  have HY := Lib.hid hb
  have HR := Lib.hid hr
  clear h hb hr
  by_cases hs : most < 0
  case' pos => have hd : decide (0 < N) = true := decide_eq_true (by omega)
  case' neg => have hd : decide (most < N) = true := decide_eq_true (by omega)
  all_goals
    clear hbig
    go_enter Tryd.func51, Tryd.ntmps51
    go_wp2_with fail
    refine (peek_calls _ H.out HY.out).mono ?_
    rw [HR.out]
    rintro e w1 ⟨rfl, hd1⟩
    have HD := Lib.hid hd1
    clear hd1
    go_wp2
    go_ret2
    exact ⟨rfl, HD.out⟩
set_option maxHeartbeats 800000 in
theorem CText_short {g p : Nat} {A : Option Addr} {n c : Nat} {l : List Int} {a : Nat} (most : Int) (w : World) (h : Cur w g p A n c l a) (hb : Bytes l) (N : Int) (K : Nat) (hr : readNum (l.drop a) = (N, (K : Int), 0)) (hsm : ¬ max most 0 < N) (hsh : (n : Int) - a - K < N) :
    Calls Tryd.prog 51 #[.pointer (some ⟨g, 0, none⟩), .int .i64 most] w fun e w' => e = .returned (.tuple #[.string ByteArray.empty, .int .i64 2]) ∧ Drawn0 w w' := by
  have H := Lib.hid h
  have HY := Lib.hid hb
  have HR := Lib.hid hr
  have hk := readNum_ok _ (hb.dp a) (by rw [hr])
  rw [hr] at hk
  have hlen := Kd.C_len h.row
  have hm := Kd.C_max h.row
  have hle := h.le
  have hk1 : 1 ≤ (K : Int) := hk.1
  have hk2 : (K : Int) ≤ (l.drop a).length := hk.2.1
  rw [List.length_drop, hlen] at hk2
  have hw := wrap_id (x := (n : Int) - a - K) (by omega) (by omega)
  have hq : decide ((n : Int) - a - K < N) = true := decide_eq_true hsh
  clear h hb hr hk hlen
  by_cases hs : most < 0
  case' pos => have hd : decide (0 < N) = false := decide_eq_false (by omega)
  case' neg => have hd : decide (most < N) = false := decide_eq_false (by omega)
  all_goals
    clear hsm
    go_enter Tryd.func51, Tryd.ntmps51
    go_wp2_with fail
    refine (peek_calls _ H.out HY.out).mono ?_
    rw [HR.out]
    rintro e w1 ⟨rfl, hd1⟩
    have HD := Lib.hid hd1
    have H2 := Lib.hid (H.out.below hd1.below)
    have x0 := H2.out.x0
    clear hd1
    go_wp2_with fail
    refine (left_calls _ H2.out).mono ?_
    rintro e w2 ⟨rfl, hd2⟩
    have HD2 := Lib.hid (Drawn0.trans HD.out hd2)
    clear hd2
    go_wp2
    go_ret2
    exact ⟨rfl, HD2.out⟩
set_option maxHeartbeats 1600000 in
theorem CText_ok {g p : Nat} {A : Option Addr} {n c : Nat} {l : List Int} {a : Nat} (most : Int) (w : World) (h : Cur w g p A n c l a) (hb : Bytes l) (N : Int) (K : Nat) (hr : readNum (l.drop a) = (N, (K : Int), 0)) (M : Nat) (hM : N = M) (hsm : ¬ max most 0 < N) (hsh : a + K + M ≤ n) :
    Calls Tryd.prog 51 #[.pointer (some ⟨g, 0, none⟩), .int .i64 most] w fun e w' => e = .returned (.tuple #[.string (strOfNums ((l.take (a + (K + M))).drop (a + K))), .int .i64 0]) ∧ Cur w' g p A n c l (a + (K + M)) ∧ w.grownBy w' (some p) := by
  subst hM
  have H := Lib.hid h
  have HY := Lib.hid hb
  have HR := Lib.hid hr
  have hk := readNum_ok _ (hb.dp a) (by rw [hr])
  rw [hr] at hk
  have hlen := Kd.C_len h.row
  have hm := Kd.C_max h.row
  have hle := h.le
  have hk1 : 1 ≤ (K : Int) := hk.1
  have hk2 : (K : Int) ≤ (l.drop a).length := hk.2.1
  have hcap := h.cap
  rw [List.length_drop, hlen] at hk2
  have hw := wrap_id (x := (n : Int) - a - K) (by omega) (by omega)
  have hq : decide ((n : Int) - a - K < M) = false := decide_eq_false (by omega)
  have hw2 := wrap_id (x := (K : Int) + M) (by omega) (by omega)
  have hw3 := wrap_id (x := (a : Int) + ((K : Int) + M)) (by omega) (by omega)
  have e1 : ((a + (K + M) : Nat) : Int) = (a : Int) + ((K : Int) + M) := by omega
  have HE1 := Lib.hid e1
  obtain ⟨ad, rfl, _⟩ := Rd.cells h.row (by omega)
  clear h hb hr hk hlen e1
  by_cases hs : most < 0
  case' pos => have hd : decide (0 < M) = false := decide_eq_false (by omega)
  case' neg => have hd : decide (most < (M : Int)) = false := decide_eq_false (by omega)
  all_goals
    clear hsm
    go_enter Tryd.func51, Tryd.ntmps51
    go_wp2_with fail
    refine (peek_calls _ H.out HY.out).mono ?_
    rw [HR.out]
    rintro e w1 ⟨rfl, hd1⟩
    have HD := Lib.hid hd1
    have H2 := Lib.hid (H.out.below hd1.below)
    have x0 := H2.out.x0
    clear hd1
    go_wp2_with fail
    refine (left_calls _ H2.out).mono ?_
    rintro e w2 ⟨rfl, hd2⟩
    have HD2 := Lib.hid (Drawn0.trans HD.out hd2)
    have H3 := Lib.hid (H2.out.below hd2.below)
    clear hd2 x0
    have x0 := H3.out.x0
    have x1 := H3.out.x1
    have x2 := H3.out.x2
    have f2 := H3.out.f2
    go_wp2_with fail
    have H4 : Cur (w2.setCell ⟨p, 1, none⟩ (.int .i64 ((a : Int) + ((K : Int) + M)))) g p (some ad) n c l (a + (K + M)) := by
      have := H3.out.set (a + (K + M)) (by omega)
      rwa [HE1.out] at this
    have hg4 : w.grownBy (w2.setCell ⟨p, 1, none⟩ (.int .i64 ((a : Int) + ((K : Int) + M)))) (some p) := Lib.grownBy_setB (Lib.grownBy_below (World.grownBy.refl w (some p)) HD2.out.below) 1 _
    obtain ⟨w4, hw4⟩ : ∃ w4, w4 = w2.setCell ⟨p, 1, none⟩ (.int .i64 ((a : Int) + ((K : Int) + M))) := ⟨_, rfl⟩
    rw [← hw4] at H4 hg4 ⊢
    clear hw4 x0 x1 x2 f2
    have x0 := H4.x0
    have x1 := H4.x1
    have x2 := H4.x2
    rw [HE1.out] at x2
    have H5 := Lib.hid H4
    have HG5 := Lib.hid hg4
    clear H4 hg4
    have g1 : IntKind.i64.wrap ((a : Int) + ((K : Int) + M) - M) = (a : Int) + K := by rw [wrap_id (by omega) (by omega)]; omega
    have g3 : (0 : Int) ≤ (a : Int) + K := by omega
    have g4 : (0 : Int) ≤ (a : Int) + ((K : Int) + M) := by omega
    have g5 : (a : Int) + K ≤ c := by omega
    have g6 : (a : Int) + ((K : Int) + M) ≤ c := by omega
    have g7 : (a : Int) + K ≤ (a : Int) + ((K : Int) + M) := by omega
    have g8 : ((a : Int) + K).toNat = a + K := by omega
    have g9 : ((a : Int) + ((K : Int) + M)).toNat = a + (K + M) := by omega
    have g11 : a + (K + M) - (a + K) = M := by omega
    have HT := Lib.hid (show ∀ W, Below w4.heap.size w4 W → Rd W (some (ad.add (a + K))) M ((l.take (a + (K + M))).drop (a + K)) from fun W hb => by
      have hq := Rd.mid (x := ad.add (a + K)) (Kd.C_below H5.out.row hb) (a + K) (a + (K + M)) (by omega) (by omega) (fun _ => rfl)
      rwa [show a + (K + M) - (a + K) = M by omega] at hq)
    have k0 := fun i => Kd.C_string (P := Tryd.prog) (src := 34) (dst := 9) (e := 5) Tryd.underlying34 Tryd.underlying5 Tryd.underlying9 (c := c - (a + K)) (HT.out (w4.drewN i) (pw_below_drewN (Below.refl _ _) _))
    by_cases hc : c = a + K
    · obtain rfl : M = 0 := by omega
      subst hc
      clear g1 g3 g4 g5 g6 g7 g8 g9 g11 hw2 hw3 hw
      have g1 : IntKind.i64.wrap ((a : Int) + K) = a + K := wrap_id (by omega) (by omega)
      have g3 : (0 : Int) ≤ (a : Int) + K := by omega
      have g8 : ((a : Int) + K).toNat = a + K := by omega
      have k1 := fun i => Kd.C_string (P := Tryd.prog) (src := 34) (dst := 9) (e := 5) Tryd.underlying34 Tryd.underlying5 Tryd.underlying9 (c := 0) (Rd.empty (w4.drewN i) (some ad))
      clear k0
      have HNL := Lib.hid (show (l.take (a + (K + 0))).drop (a + K) = [] from List.drop_eq_nil_of_le (by rw [List.length_take]; omega))
      go_quiet (fail)
      go_wp2
      go_ret2
      exact ⟨by rw [HNL.out]; rfl, H5.out.below (pw_below_drewN (Below.refl _ _) _), Lib.grownBy_below HG5.out (pw_below_drewN (Below.refl _ _) _)⟩
    · go_quiet (fail)
      go_wp2
      go_ret2
      exact ⟨rfl, H5.out.below (pw_below_drewN (Below.refl _ _) _), Lib.grownBy_below HG5.out (pw_below_drewN (Below.refl _ _) _)⟩
end Go.Proofs.YtcgenmogedndjaaDoor
namespace Go.Proofs.YtcgenmogedndjaaDoor
open Go.RowKit Go.Proofs.YtcgenmogedndjaaDoorW.PrintWords
theorem beBytes_valOf : ∀ (m : Nat) (t : List Int), t.length = m → Bytes t → beBytes m (valOf t) = t
  | 0, t, h, _ => by rw [List.eq_nil_of_length_eq_zero h]; rfl
  | m + 1, t, h, hb => by
    rcases List.eq_nil_or_concat t with rfl | ⟨l, d, rfl⟩
    · simp at h
    · rw [List.concat_eq_append] at h hb ⊢
      have hd := hb d (by simp)
      rw [valOf_snoc, beBytes_succ, show (256 * valOf l + d) / 256 = valOf l by omega, show (256 * valOf l + d) % 256 = d by omega, beBytes_valOf m l (by simpa using h) (fun x hx => hb x (by simp [hx]))]
theorem byteLen_of (m : Nat) (x : Int) (h1 : 1 ≤ m) (h8 : m ≤ 8) (hlo : 256 ^ (m - 1) ≤ x) (hhi : x < 256 ^ m) : byteLen x = m := by
  have hm : m = 1 ∨ m = 2 ∨ m = 3 ∨ m = 4 ∨ m = 5 ∨ m = 6 ∨ m = 7 ∨ m = 8 := by omega
  rcases hm with rfl | rfl | rfl | rfl | rfl | rfl | rfl | rfl
  all_goals
    simp at hlo hhi
    unfold byteLen
    repeat' split
    all_goals omega
theorem numForm_read (r : List Int) (hb : Bytes r) (N : Int) (K : Nat) (h : readNum r = (N, (K : Int), 0)) : numForm N = r.take K := by
  cases r with
  | nil => simp [readNum] at h
  | cons b t =>
    have hb0 := hb b (by simp)
    by_cases h1 : b ≤ 247
    · rw [readNum_small _ _ h1] at h
      simp only [Prod.mk.injEq] at h
      obtain ⟨rfl, hK, _⟩ := h
      rw [show K = 1 by omega]
      unfold numForm
      rw [if_pos h1, Int.max_eq_left hb0.1]
      rfl
    by_cases h2 : t.length < (b - 247).toNat
    · rw [readNum_short _ _ (by omega) h2] at h
      simp at h
    by_cases h3 : valOf (t.take (b - 247).toNat) ≤ 247 ∨ valOf (t.take (b - 247).toNat) / 256 ^ ((b - 247).toNat - 1) = 0
    · rw [readNum_form _ _ (by omega) h2 h3] at h
      simp at h
    by_cases h4 : 9223372036854775808 ≤ valOf (t.take (b - 247).toNat)
    · rw [readNum_big _ _ (by omega) h2 h3 h4] at h
      simp at h
    rw [readNum_long _ _ (by omega) h2 h3 h4] at h
    simp only [Prod.mk.injEq] at h
    obtain ⟨rfl, hK, _⟩ := h
    obtain ⟨m, hm⟩ : ∃ m, m = (b - 247).toNat := ⟨_, rfl⟩
    rw [← hm] at h2 h3 h4 ⊢
    have hbt : Bytes (t.take m) := fun x hx => hb x (by simp [List.mem_of_mem_take hx])
    have hr := valOf_range (t.take m) hbt
    have hl : (t.take m).length = m := by rw [List.length_take]; omega
    rw [hl] at hr
    have hlo : (256 : Int) ^ (m - 1) ≤ valOf (t.take m) := by
      have hp : (0 : Int) < 256 ^ (m - 1) := Int.pow_pos (by decide)
      rcases Int.lt_or_le (valOf (t.take m)) (256 ^ (m - 1)) with hlt | hge
      · exact absurd (.inr (Int.ediv_eq_zero_of_lt hr.1 hlt)) h3
      · exact hge
    have hbl := byteLen_of m _ (by omega) (by omega) hlo hr.2
    unfold numForm
    rw [if_neg (by omega), hbl, beBytes_valOf m _ hl hbt, show K = m + 1 by omega, List.take_succ_cons, show (247 : Int) + m = b by omega]
end Go.Proofs.YtcgenmogedndjaaDoor
namespace Go.Proofs.YtcgenmogedndjaaDoor
open Go.RowKit Go.Proofs.YtcgenmogedndjaaDoorW.PrintWords
/-- The text with which bytes begin, how many bytes its form has, or why there is none. -/
def readText (r : List Int) (most : Int) : List Int × Nat × Int :=
  if (readNum r).2.2 ≠ 0 then ([], 0, (readNum r).2.2)
  else if max most 0 < (readNum r).1 then ([], 0, 4)
  else if (r.length : Int) - (readNum r).2.1 < (readNum r).1 then ([], 0, 2)
  else ((r.take ((readNum r).2.1.toNat + (readNum r).1.toNat)).drop (readNum r).2.1.toNat, (readNum r).2.1.toNat + (readNum r).1.toNat, 0)
theorem CNumber_calls {g p : Nat} {A : Option Addr} {n c : Nat} {l : List Int} {a : Nat} (w : World) (h : Cur w g p A n c l a) (hb : Bytes l) :
    Calls Tryd.prog 50 #[.pointer (some ⟨g, 0, none⟩)] w fun e w' => e = .returned (.tuple #[.int .i64 (readNum (l.drop a)).1, .int .i64 (readNum (l.drop a)).2.2]) ∧ Cur w' g p A n c l (a + (readNum (l.drop a)).2.1.toNat) ∧ w.grownBy w' (some p) := by
  by_cases hE : (readNum (l.drop a)).2.2 = 0
  · have hk := readNum_ok _ (hb.dp a) hE
    have hr : readNum (l.drop a) = ((readNum (l.drop a)).1, ((readNum (l.drop a)).2.1.toNat : Int), 0) := by rw [← hE, Int.toNat_of_nonneg (by omega)]
    exact (CNumber_ok w h hb (readNum (l.drop a)).1 (readNum (l.drop a)).2.1.toNat hr).mono fun e w' ⟨h1, h2, h3⟩ => ⟨by rw [h1, hE], h2, h3⟩
  · have hk := readNum_bad _ hE
    refine (CNumber_bad w h hb (readNum (l.drop a)).2.2 hE (Prod.ext hk.1 (Prod.ext hk.2 rfl))).mono fun e w' ⟨h1, h2⟩ => ⟨by rw [h1, hk.1], ?_, Lib.grownBy_below (World.grownBy.refl w (some p)) h2.below⟩
    rw [hk.2]
    exact h.below h2.below
theorem CText_calls {g p : Nat} {A : Option Addr} {n c : Nat} {l : List Int} {a : Nat} (most : Int) (w : World) (h : Cur w g p A n c l a) (hb : Bytes l) :
    Calls Tryd.prog 51 #[.pointer (some ⟨g, 0, none⟩), .int .i64 most] w fun e w' => e = .returned (.tuple #[.string (strOfNums (readText (l.drop a) most).1), .int .i64 (readText (l.drop a) most).2.2]) ∧ Cur w' g p A n c l (a + (readText (l.drop a) most).2.1) ∧ w.grownBy w' (some p) := by
  have hlen := Kd.C_len h.row
  have hle := h.le
  unfold readText
  by_cases hE : (readNum (l.drop a)).2.2 = 0
  · have hk := readNum_ok _ (hb.dp a) hE
    have hr : readNum (l.drop a) = ((readNum (l.drop a)).1, ((readNum (l.drop a)).2.1.toNat : Int), 0) := by rw [← hE, Int.toNat_of_nonneg (by omega)]
    rw [if_neg (by simp [hE])]
    by_cases h1 : max most 0 < (readNum (l.drop a)).1
    · rw [if_pos h1]
      exact (CText_long most w h hb _ _ hr h1).mono fun e w' ⟨h1, h2⟩ => ⟨h1, h.below h2.below, Lib.grownBy_below (World.grownBy.refl w (some p)) h2.below⟩
    rw [if_neg h1]
    have hdl : (l.drop a).length = n - a := by rw [List.length_drop, hlen]
    by_cases h2 : ((l.drop a).length : Int) - (readNum (l.drop a)).2.1 < (readNum (l.drop a)).1
    · rw [if_pos h2]
      exact (CText_short most w h hb _ _ hr h1 (by omega)).mono fun e w' ⟨h1, h2⟩ => ⟨h1, h.below h2.below, Lib.grownBy_below (World.grownBy.refl w (some p)) h2.below⟩
    rw [if_neg h2]
    refine (CText_ok most w h hb _ _ hr (readNum (l.drop a)).1.toNat (by omega) h1 (by omega)).mono fun e w' ⟨h1, h2, h3⟩ => ⟨?_, h2, h3⟩
    rw [h1, List.take_drop, List.drop_drop, ← Nat.add_assoc]
  · have hk := readNum_bad _ hE
    rw [if_pos hE]
    exact (CText_bad most w h hb (readNum (l.drop a)).2.2 hE (Prod.ext hk.1 (Prod.ext hk.2 rfl))).mono fun e w' ⟨h1, h2⟩ => ⟨h1, h.below h2.below, Lib.grownBy_below (World.grownBy.refl w (some p)) h2.below⟩
end Go.Proofs.YtcgenmogedndjaaDoor
namespace Go.Proofs.YtcgenmogedndjaaDoor
open Go.RowKit Go.Proofs.YtcgenmogedndjaaDoorW.PrintWords
structure RCur (w : World) (g : Nat) (A : Option Addr) (n c : Nat) (l : List Int) (a : Nat) : Prop where
  own : w.heap[g]? = some (.cells #[.slice A n c, .int .i64 a] 73 (0, 0))
  row : Rd w A n l
  far : ∀ ad, A = some ad → 0 < n → ad.block ≠ g
  cap : n ≤ c
  le : a ≤ n
theorem Rd.grown0 {w w' : World} {row : Option Nat} {A : Option Addr} {n : Nat} {l : List Int} (h : Rd w A n l) (hg : w.grownBy w' row) (hf : ∀ ad, A = some ad → 0 < n → some ad.block ≠ row) : Rd w' A n l := by
  rcases Nat.eq_zero_or_pos n with h0 | h0
  · subst h0
    obtain rfl := List.eq_nil_of_length_eq_zero (Kd.C_len h)
    exact Rd.empty _ _
  · exact h.grown hg (fun ad he => hf ad he h0)
variable {w w' : World} {g : Nat} {A : Option Addr} {n c : Nat} {l : List Int} {a : Nat}
theorem RCur.x1 (h : RCur w g A n c l a) : w.cell? ⟨g, 0, none⟩ = some (.slice A n c) := by simp [World.cell?, h.own]
theorem RCur.x2 (h : RCur w g A n c l a) : w.cell? ⟨g, 1, none⟩ = some (.int .i64 a) := by simp [World.cell?, h.own]
theorem RCur.f2 (h : RCur w g A n c l a) : w.frozen? ⟨g, 1, none⟩ = false := by simp [World.frozen?, h.own]
theorem RCur.grown (h : RCur w g A n c l a) {row : Option Nat} (hg : w.grownBy w' row) (h1 : some g ≠ row) (h3 : ∀ ad, A = some ad → 0 < n → some ad.block ≠ row) : RCur w' g A n c l a :=
  ⟨(hg.block g (lt_of_heap h.own) h1).trans h.own, h.row.grown0 hg h3, h.far, h.cap, h.le⟩
theorem RCur.below (h : RCur w g A n c l a) (hb : Below w.heap.size w w') : RCur w' g A n c l a :=
  ⟨(hb.block g (lt_of_heap h.own)).trans h.own, Kd.C_below h.row hb, h.far, h.cap, h.le⟩
theorem RCur.set (h : RCur w g A n c l a) (b : Nat) (hb : b ≤ n) : RCur (w.setCell ⟨g, 1, none⟩ (.int .i64 b)) g A n c l b := by
  have hg := Lib.grownBy_setCell w g 1 (.int .i64 b)
  refine ⟨?_, h.row.grown0 hg (fun ad he hp e => h.far ad he hp (Option.some.inj e)), h.far, h.cap, hb⟩
  have hp := h.own
  simp [World.setCell, Array.getElem?_modify, hp]
end Go.Proofs.YtcgenmogedndjaaDoor
namespace Go.Proofs.YtcgenmogedndjaaDoor
open Go.RowKit Go.Proofs.YtcgenmogedndjaaDoorW.PrintWords
/-- Block g holds just these cells, and may be written. -/
def Whole (w : World) (g : Nat) (t : TypeId) (cs : Array Value) : Prop := w.heap[g]? = some (.cells cs t (0, 0))
theorem Whole.new (w : World) (t : TypeId) (cs : Array Value) : Whole (w.alloc (.cells cs t)) w.heap.size t cs := heap_alloc_new w _
theorem Whole.lt {w : World} {g t : Nat} {cs : Array Value} (h : Whole w g t cs) : g < w.heap.size := lt_of_heap h
theorem Whole.below {w w1 : World} {g t B : Nat} {cs : Array Value} (h : Whole w g t cs) (hb : Below B w w1) (hg : g < B) : Whole w1 g t cs := by
  unfold Whole at *
  rw [hb.block g hg, h]
theorem Whole.far {w : World} {g t : Nat} {cs : Array Value} (h : Whole w g t cs) {w1 : World} (hk : w1.heap[g]? = w.heap[g]?) : Whole w1 g t cs := hk.trans h
theorem Whole.grown {w w1 : World} {g t : Nat} {cs : Array Value} (h : Whole w g t cs) {row : Option Nat} (hg : w.grownBy w1 row) (hr : some g ≠ row) : Whole w1 g t cs := (hg.block g h.lt hr).trans h
theorem Whole.cell {w : World} {g t : Nat} {cs : Array Value} (h : Whole w g t cs) (i : Nat) (v : Value) (hi : cs[i]? = some v) : w.cell? ⟨g, i, none⟩ = some v := by
  simp [World.cell?, show w.heap[g]? = some (.cells cs t (0, 0)) from h, hi]
theorem Whole.free {w : World} {g t : Nat} {cs : Array Value} (h : Whole w g t cs) (i : Nat) : w.frozen? ⟨g, i, none⟩ = false := by
  simp [World.frozen?, show w.heap[g]? = some (.cells cs t (0, 0)) from h]
theorem Whole.set {w : World} {g t : Nat} {cs : Array Value} (h : Whole w g t cs) (i : Nat) (v : Value) : Whole (w.setCell ⟨g, i, none⟩ v) g t (cs.set! i v) := by
  have hp : w.heap[g]? = some (.cells cs t (0, 0)) := h
  unfold Whole
  simp [World.setCell, Array.getElem?_modify, hp]
section
variable {ops : Array Oper} {rest : List Oper} {o : Oper} {a : Act} {Q : Exit → Act → World → Prop} {w : World}
/-- A struct is stored whole. -/
theorem store_whole {g t : Nat} {cs ds : Array Value} {T : TypeId} {p x : Operand} (hgd : o.guard = none) (hN : o.dst = none) (ho : o.op = .store T p x) (hp : a.eval p = .pointer (some ⟨g, 0, none⟩)) (hx : a.eval x = .agg ds) (h : Whole w g t cs) (hl : ds.size = cs.size)
    (h1 : ∀ q ∈ ds.toList, q.oneCell' = true) (hd : (Value.agg ds).cells.toList = ds.toList) (ht : (Tryd.prog.info? T).map (·.size) = some ds.toList.length)
    (hK : ∀ w1, Whole w1 g t ds → (∀ B a0, Below B a0 w → B ≤ g → Below B a0 w1) → (∀ k, k ≠ g → w1.heap[k]? = w.heap[k]?) → w.grownBy w1 (some g) → wpList Tryd.prog ops Q rest a w1) : wpList Tryd.prog ops Q (o :: rest) a w := by
  have hrun := run_store_run (P := Tryd.prog) (w := w) (g := g) (o := 0) T (.agg ds) ds.toList h hd ht (by rw [Array.length_toList]; omega) h1
  obtain ⟨cur', h2, h3, h4⟩ := setCells_row ds.toList 0 w _ h (by rw [Array.length_toList]; omega)
  obtain ⟨s1, s2, s3, s4⟩ := setCells_same g ds.toList 0 w
  refine wpList_plain hgd fun K hK' => ?_
  unfold Oper.wp execOp
  simp only [ho, hp, hx, Sem.run_bind, Sem.run_pure, Result.andThen_ok, hrun]
  show K (a.put o.dst undef) _
  rw [hN]
  refine hK' a _ (hK _ ?_ ?_ ?_ ?_)
  · unfold Whole
    have : cur' = ds := Array.ext' (by rw [h4]; simp [hl])
    rw [h2, this]
  · intro B a0 hb hB
    exact hb.trans ⟨s1, s2, s3, by rw [s4]; exact Nat.le_refl _, fun j hj => setCells_far _ _ j (by omega)⟩
  · intro k hk
    exact setCells_far _ _ k hk
  · exact ⟨s1, s2, s3, by rw [s4]; exact Nat.le_refl _, fun j _ hj => setCells_far _ _ j (fun e => hj (by rw [e]))⟩
end
section
variable {P : Program}
theorem results_whole {fn : Func} {p : Tmp} {ty : TypeId} (h : fn.results = #[.cell p ty]) (tmps : Array Value) (w : World) (g : Nat) (t : TypeId) (cs : Array Value) (fr : Nat × Nat) (d : TypeDesc)
    (hp : tmps.getD p undef = .pointer (some ⟨g, 0, none⟩)) (hg : w.heap[g]? = some (.cells cs t fr))
    (hu : P.underlying ty = some d) (hd : (match d with | .struct _ | .array _ _ => true | _ => false) = true) (hi : (P.info? ty).map (·.size) = some cs.size) :
    (results fn tmps).run P w = .ok (.agg cs) w := by
  have hp' : tmps[p]?.getD undef = .pointer (some ⟨g, 0, none⟩) := by simpa using hp
  simp [results, h, hp', asAddr, run_loadVar_row w g t ty cs fr d hg hu hd hi]
theorem results_tct {fn : Func} {p u v : Tmp} {ty : TypeId} (h : fn.results = #[.tmp u, .cell p ty, .tmp v]) (tmps : Array Value) (w : World) (g : Nat) (t : TypeId) (cs : Array Value) (fr : Nat × Nat) (d : TypeDesc)
    (hp : tmps.getD p undef = .pointer (some ⟨g, 0, none⟩)) (hg : w.heap[g]? = some (.cells cs t fr))
    (hu : P.underlying ty = some d) (hd : (match d with | .struct _ | .array _ _ => true | _ => false) = true) (hi : (P.info? ty).map (·.size) = some cs.size) :
    (results fn tmps).run P w = .ok (.tuple #[tmps.getD u undef, .agg cs, tmps.getD v undef]) w := by
  have hp' : tmps[p]?.getD undef = .pointer (some ⟨g, 0, none⟩) := by simpa using hp
  simp [results, h, hp', asAddr, run_loadVar_row w g t ty cs fr d hg hu hd hi]
end
end Go.Proofs.YtcgenmogedndjaaDoor
namespace Go.Proofs.YtcgenmogedndjaaDoor
open Go.RowKit Go.Proofs.YtcgenmogedndjaaDoorW.PrintWords
theorem readText_max (r : List Int) : (readText r 24).1.length ≤ 24 := by
  unfold readText
  split
  · simp
  split
  · simp
  split
  · simp
  · rename_i h1 h2 h3
    simp only [List.length_drop, List.length_take]
    omega
/-- Where a payload's parts begin. -/
def at1 (l : List Int) : Nat := (readNum l).2.1.toNat
def at2 (l : List Int) : Nat := at1 l + (readText (l.drop (at1 l)) 24).2.1
def at3 (l : List Int) : Nat := at2 l + (readText (l.drop (at2 l)) 24).2.1
def at4 (l : List Int) : Nat := at3 l + (readNum (l.drop (at3 l))).2.1.toNat
def idOf (l : List Int) : Int := (readNum l).1
def clmOf (l : List Int) : Clm := ⟨strOfNums (readText (l.drop (at1 l)) 24).1, strOfNums (readText (l.drop (at2 l)) 24).1, (readNum (l.drop (at3 l))).1⟩
/-- Are the four parts right? -/
def fourB (l : List Int) : Bool := decide ((readNum l).2.2 = 0 ∧ (readText (l.drop (at1 l)) 24).2.2 = 0 ∧ (readText (l.drop (at2 l)) 24).2.2 = 0 ∧ (readNum (l.drop (at3 l))).2.2 = 0)
def parseB (l : List Int) : Bool := fourB l && decide (at4 l = l.length) && nameB (clmOf l).client && nameB (clmOf l).group && decide ((clmOf l).upto ≤ 1099511627776)
theorem parseB_four {l : List Int} (h : ¬ ((readNum l).2.2 = 0 ∧ (readText (l.drop (at1 l)) 24).2.2 = 0 ∧ (readText (l.drop (at2 l)) 24).2.2 = 0 ∧ (readNum (l.drop (at3 l))).2.2 = 0)) : parseB l = false := by
  unfold parseB fourB
  rw [decide_eq_false h]
  simp
theorem parseB_end {l : List Int} (h : at4 l ≠ l.length) : parseB l = false := by
  unfold parseB
  rw [decide_eq_false h]
  simp
theorem parseB_name {l : List Int} (h : nameB (clmOf l).client = false ∨ nameB (clmOf l).group = false) : parseB l = false := by
  unfold parseB
  rcases h with h | h <;> rw [h] <;> simp
theorem parseB_time {l : List Int} (h : 1099511627776 < (clmOf l).upto) : parseB l = false := by
  unfold parseB
  rw [decide_eq_false (show ¬ (clmOf l).upto ≤ 1099511627776 by omega)]
  simp
theorem parseB_ok {l : List Int} (h1 : (readNum l).2.2 = 0 ∧ (readText (l.drop (at1 l)) 24).2.2 = 0 ∧ (readText (l.drop (at2 l)) 24).2.2 = 0 ∧ (readNum (l.drop (at3 l))).2.2 = 0) (h2 : at4 l = l.length) (h3 : nameB (clmOf l).client = true) (h4 : nameB (clmOf l).group = true) (h5 : (clmOf l).upto ≤ 1099511627776) : parseB l = true := by
  unfold parseB fourB
  rw [decide_eq_true h1, decide_eq_true h2, h3, h4, decide_eq_true h5]
  rfl
set_option maxRecDepth 20000 in
set_option maxHeartbeats 6400000 in
theorem parse_calls {n : Nat} (A0 : Option Addr) (c0 : Nat) (l : List Int) (w : World) (hr0 : Rd w A0 n l) (hy : Bytes l) (hs : n ≤ 35184372088832) :
    Calls Tryd.prog 31 #[.slice A0 n c0] w fun e w' => e = .returned (.tuple #[.int .i64 (idOf l), .agg #[.string (clmOf l).client, .string (clmOf l).group, .int .i64 (clmOf l).upto], .bool (parseB l)]) ∧ Below w.heap.size w w' := by
  have hlen : l.length = n := Kd.C_len hr0
  obtain ⟨R, hR⟩ : ∃ R, R = parseB l := ⟨_, rfl⟩
  rw [← hR]
  have HRR := Lib.hid hR
  obtain ⟨g, hg⟩ : ∃ g, g = w.heap.size := ⟨_, rfl⟩
  obtain ⟨W0, hW0⟩ : ∃ W0, W0 = w.alloc (.cells #[.string ⟨#[]⟩, .string ⟨#[]⟩, .int .i64 0] 24) := ⟨_, rfl⟩
  have hbw : Below w.heap.size w W0 := by rw [hW0]; exact below_alloc (Below.refl _ _) _
  have hwh : Whole W0 g 24 #[.string ⟨#[]⟩, .string ⟨#[]⟩, .int .i64 0] := by rw [hW0, hg]; exact Whole.new w _ _
  have HS := Lib.hid (show g = w.heap.size ∧ W0 = w.alloc _ from ⟨hg, hW0⟩)
  have HI := Lib.hid (show Rd W0 A0 n l ∧ Bytes l ∧ n ≤ 35184372088832 ∧ Below w.heap.size w W0 ∧ Whole W0 g 24 #[.string ⟨#[]⟩, .string ⟨#[]⟩, .int .i64 0] ∧ l.length = n ∧ w.heap.size ≤ g from ⟨Kd.C_below hr0 hbw, hy, hs, hbw, hwh, hlen, by rw [hg]; exact Nat.le_refl _⟩)
  clear hlen hR hg hW0 hbw hwh hr0 hy hs
  obtain ⟨N1, hN1⟩ : ∃ N, N = (readNum l).1 := ⟨_, rfl⟩
  obtain ⟨E1, hE1⟩ : ∃ E, E = (readNum l).2.2 := ⟨_, rfl⟩
  obtain ⟨S1, hS1⟩ : ∃ S, S = strOfNums (readText (l.drop (at1 l)) 24).1 := ⟨_, rfl⟩
  obtain ⟨E2, hE2⟩ : ∃ E, E = (readText (l.drop (at1 l)) 24).2.2 := ⟨_, rfl⟩
  obtain ⟨S2, hS2⟩ : ∃ S, S = strOfNums (readText (l.drop (at2 l)) 24).1 := ⟨_, rfl⟩
  obtain ⟨E3, hE3⟩ : ∃ E, E = (readText (l.drop (at2 l)) 24).2.2 := ⟨_, rfl⟩
  obtain ⟨N2, hN2⟩ : ∃ N, N = (readNum (l.drop (at3 l))).1 := ⟨_, rfl⟩
  obtain ⟨E4, hE4⟩ : ∃ E, E = (readNum (l.drop (at3 l))).2.2 := ⟨_, rfl⟩
  have hsz1 : S1.size ≤ 24 := by rw [hS1, strOf_size]; exact readText_max _
  have hsz2 : S2.size ≤ 24 := by rw [hS2, strOf_size]; exact readText_max _
  have HZ := Lib.hid (And.intro hsz1 hsz2)
  have HE := Lib.hid (show E1 = (readNum l).2.2 ∧ E2 = (readText (l.drop (at1 l)) 24).2.2 ∧ E3 = (readText (l.drop (at2 l)) 24).2.2 ∧ E4 = (readNum (l.drop (at3 l))).2.2 from ⟨hE1, hE2, hE3, hE4⟩)
  have HCL := Lib.hid (show idOf l = N1 ∧ (clmOf l).client = S1 ∧ (clmOf l).group = S2 ∧ (clmOf l).upto = N2 from ⟨hN1.symm, hS1.symm, hS2.symm, hN2.symm⟩)
  have HNS := Lib.hid (show N1 = (readNum l).1 ∧ S1 = strOfNums (readText (l.drop (at1 l)) 24).1 ∧ S2 = strOfNums (readText (l.drop (at2 l)) 24).1 ∧ N2 = (readNum (l.drop (at3 l))).1 from ⟨hN1, hS1, hS2, hN2⟩)
  rw [HCL.out.1, HCL.out.2.1, HCL.out.2.2.1, HCL.out.2.2.2]
  clear hsz1 hsz2 hE1 hE2 hE3 hE4 hN1 hS1 hS2 hN2
  go_enter Tryd.func31, Tryd.ntmps31
  go_wp2_with fail
  rw [← HS.out.1, ← HS.out.2]
  refine (From_calls _ _ l _ HI.out.1 (by have := HI.out.2.2.1; omega)).mono ?_
  rintro e w1 ⟨gc, pc, A, c, rfl, hc1, hge, hpe, _, hb1⟩
  have HC1 := Lib.hid hc1
  have HN := Lib.hid (show g ≠ pc ∧ g < w1.heap.size ∧ w.heap.size ≤ pc from ⟨by have := HI.out.2.2.2.2.1.lt; omega, Nat.lt_of_lt_of_le HI.out.2.2.2.2.1.lt hb1.size, by have := HI.out.2.2.2.1.size; omega⟩)
  have HB1 := Lib.hid (show Below w.heap.size w w1 ∧ Whole w1 g 24 #[.string ⟨#[]⟩, .string ⟨#[]⟩, .int .i64 0] from ⟨below_step HI.out.2.2.2.1 hb1, HI.out.2.2.2.2.1.below hb1 HI.out.2.2.2.2.1.lt⟩)
  clear hc1 hge hpe hb1
  go_wp2_with fail
  refine (CNumber_calls _ HC1.out HI.out.2.1).mono ?_
  rintro e w2 ⟨rfl, hc2, hg2⟩
  rw [List.drop_zero] at hc2 ⊢
  rw [Nat.zero_add] at hc2
  rw [← HNS.out.1, ← HE.out.1]
  have HC2 := Lib.hid (show Cur w2 gc pc A n c l (at1 l) from hc2)
  have HG2 := Lib.hid hg2
  clear hc2 hg2
  go_wp2_with fail
  refine (CText_calls 24 _ HC2.out HI.out.2.1).mono ?_
  rintro e w3 ⟨rfl, hc3, hg3⟩
  rw [← HNS.out.2.1, ← HE.out.2.1]
  have HC3 := Lib.hid (show Cur w3 gc pc A n c l (at2 l) from hc3)
  have HG3 := Lib.hid (Lib.grownBy_trans HG2.out hg3)
  clear hc3 hg3
  go_wp2_with fail
  refine (CText_calls 24 _ HC3.out HI.out.2.1).mono ?_
  rintro e w4 ⟨rfl, hc4, hg4⟩
  rw [← HNS.out.2.2.1, ← HE.out.2.2.1]
  have HC4 := Lib.hid (show Cur w4 gc pc A n c l (at3 l) from hc4)
  have HG4 := Lib.hid (Lib.grownBy_trans HG3.out hg4)
  clear hc4 hg4
  go_wp2_with fail
  refine (CNumber_calls _ HC4.out HI.out.2.1).mono ?_
  rintro e w5 ⟨rfl, hc5, hg5⟩
  rw [← HNS.out.2.2.2, ← HE.out.2.2.2]
  have HC5 := Lib.hid (show Cur w5 gc pc A n c l (at4 l) from hc5)
  have hg5' := Lib.grownBy_trans HG4.out hg5
  have HB5 := Lib.hid (show Below w.heap.size w w5 ∧ Whole w5 g 24 #[.string ⟨#[]⟩, .string ⟨#[]⟩, .int .i64 0] from ⟨Below.grown HB1.out.1 hg5' HB1.out.1.size (fun k hk => by cases hk; exact HN.out.2.2), HB1.out.2.grown hg5' (by intro e; injection e with e; exact HN.out.1 e)⟩)
  have H4 := Lib.hid (show at4 l ≤ n from HC5.out.le)
  clear hc5 hg5 hg5'
  go_upto_region 6 with (fail)
  by_cases e1 : E1 = 0
  case' neg =>
    have f1 : (E1 == 0) = false := beq_eq_false_iff_ne.2 e1
    have HF := Lib.hid (show R = false by rw [HRR.out]; exact parseB_four (fun h => e1 (by have := HE.out; omega)))
    clear e1
    go_wp2_with (refine gate_ (.store 24 (.tmp 3) (.tmp 72)) rfl ?_; refine store_whole rfl rfl rfl rfl rfl HB5.out.2 rfl (by simp [Value.oneCell']) rfl (by kernel_rfl) ?_; intro w9 hk9 hb9 hf9 hg9)
    refine bodyPost_ret (results_tct rfl _ _ g _ _ _ _ rfl hk9 Tryd.underlying24 rfl (by kernel_rfl)) rfl ?_
    exact ⟨by rw [HF.out]; rfl, hb9 _ _ HB5.out.1 HI.out.2.2.2.2.2.2⟩
  have f1 : (E1 == 0) = true := beq_iff_eq.2 e1
  by_cases e2 : E2 = 0
  case' neg =>
    have f2 : (E2 == 0) = false := beq_eq_false_iff_ne.2 e2
    have HF := Lib.hid (show R = false by rw [HRR.out]; exact parseB_four (fun h => e2 (by have := HE.out; omega)))
    clear e1 e2
    go_wp2_with (refine gate_ (.store 24 (.tmp 3) (.tmp 72)) rfl ?_; refine store_whole rfl rfl rfl rfl rfl HB5.out.2 rfl (by simp [Value.oneCell']) rfl (by kernel_rfl) ?_; intro w9 hk9 hb9 hf9 hg9)
    refine bodyPost_ret (results_tct rfl _ _ g _ _ _ _ rfl hk9 Tryd.underlying24 rfl (by kernel_rfl)) rfl ?_
    exact ⟨by rw [HF.out]; rfl, hb9 _ _ HB5.out.1 HI.out.2.2.2.2.2.2⟩
  have f2 : (E2 == 0) = true := beq_iff_eq.2 e2
  by_cases e3 : E3 = 0
  case' neg =>
    have f3 : (E3 == 0) = false := beq_eq_false_iff_ne.2 e3
    have HF := Lib.hid (show R = false by rw [HRR.out]; exact parseB_four (fun h => e3 (by have := HE.out; omega)))
    clear e1 e2 e3
    go_wp2_with (refine gate_ (.store 24 (.tmp 3) (.tmp 72)) rfl ?_; refine store_whole rfl rfl rfl rfl rfl HB5.out.2 rfl (by simp [Value.oneCell']) rfl (by kernel_rfl) ?_; intro w9 hk9 hb9 hf9 hg9)
    refine bodyPost_ret (results_tct rfl _ _ g _ _ _ _ rfl hk9 Tryd.underlying24 rfl (by kernel_rfl)) rfl ?_
    exact ⟨by rw [HF.out]; rfl, hb9 _ _ HB5.out.1 HI.out.2.2.2.2.2.2⟩
  have f3 : (E3 == 0) = true := beq_iff_eq.2 e3
  by_cases e4 : E4 = 0
  case' neg =>
    have f4 : (E4 == 0) = false := beq_eq_false_iff_ne.2 e4
    have HF := Lib.hid (show R = false by rw [HRR.out]; exact parseB_four (fun h => e4 (by have := HE.out; omega)))
    clear e1 e2 e3 e4
    go_wp2_with (refine gate_ (.store 24 (.tmp 3) (.tmp 72)) rfl ?_; refine store_whole rfl rfl rfl rfl rfl HB5.out.2 rfl (by simp [Value.oneCell']) rfl (by kernel_rfl) ?_; intro w9 hk9 hb9 hf9 hg9)
    refine bodyPost_ret (results_tct rfl _ _ g _ _ _ _ rfl hk9 Tryd.underlying24 rfl (by kernel_rfl)) rfl ?_
    exact ⟨by rw [HF.out]; rfl, hb9 _ _ HB5.out.1 HI.out.2.2.2.2.2.2⟩
  have f4 : (E4 == 0) = true := beq_iff_eq.2 e4
  have H0 := Lib.hid (show (readNum l).2.2 = 0 ∧ (readText (l.drop (at1 l)) 24).2.2 = 0 ∧ (readText (l.drop (at2 l)) 24).2.2 = 0 ∧ (readNum (l.drop (at3 l))).2.2 = 0 by have := HE.out; omega)
  clear e1 e2 e3 e4
  by_cases h5 : at4 l = n
  case' neg =>
    have HF := Lib.hid (show R = false by rw [HRR.out]; exact parseB_end (by have := HI.out.2.2.2.2.2.1; omega))
    have H5 := Lib.hid (show at4 l < n by have := H4.out; omega)
    clear h5
    go_wp2_with fail
    refine (End_more _ HC5.out H5.out).mono ?_
    rintro e w6 ⟨rfl, hd6⟩
    have HB6 := Lib.hid (show Below w.heap.size w w6 ∧ Whole w6 g 24 #[.string ⟨#[]⟩, .string ⟨#[]⟩, .int .i64 0] from ⟨below_step HB5.out.1 hd6.below, HB5.out.2.below hd6.below HB5.out.2.lt⟩)
    clear hd6
    go_wp2_with (refine gate_ (.store 24 (.tmp 3) (.tmp 72)) rfl ?_; refine store_whole rfl rfl rfl rfl rfl HB6.out.2 rfl (by simp [Value.oneCell']) rfl (by kernel_rfl) ?_; intro w9 hk9 hb9 hf9 hg9)
    refine bodyPost_ret (results_tct rfl _ _ g _ _ _ _ rfl hk9 Tryd.underlying24 rfl (by kernel_rfl)) rfl ?_
    exact ⟨by rw [HF.out]; rfl, hb9 _ _ HB6.out.1 HI.out.2.2.2.2.2.2⟩
  have H5 := Lib.hid h5
  clear h5
  go_wp2_with fail
  refine (End_ok _ HC5.out H5.out).mono ?_
  rintro e w6 ⟨rfl, hd6⟩
  have HB6 := Lib.hid (show Below w.heap.size w w6 ∧ Whole w6 g 24 #[.string ⟨#[]⟩, .string ⟨#[]⟩, .int .i64 0] from ⟨below_step HB5.out.1 hd6.below, HB5.out.2.below hd6.below HB5.out.2.lt⟩)
  clear hd6
  go_wp2_with fail
  refine (Name_calls S1 _ (by have := HZ.out; omega)).mono ?_
  rintro e w7 ⟨rfl, hb7⟩
  have HB7 := Lib.hid (show Below w.heap.size w w7 ∧ Whole w7 g 24 #[.string ⟨#[]⟩, .string ⟨#[]⟩, .int .i64 0] from ⟨below_step HB6.out.1 hb7, HB6.out.2.below hb7 HB6.out.2.lt⟩)
  clear hb7
  cases n1 : nameB S1 with
  | false =>
    have HF := Lib.hid (show R = false by rw [HRR.out]; exact parseB_name (.inl (by rw [HCL.out.2.1]; exact n1)))
    clear n1
    go_wp2_with (refine gate_ (.store 24 (.tmp 3) (.tmp 72)) rfl ?_; refine store_whole rfl rfl rfl rfl rfl HB7.out.2 rfl (by simp [Value.oneCell']) rfl (by kernel_rfl) ?_; intro w9 hk9 hb9 hf9 hg9)
    refine bodyPost_ret (results_tct rfl _ _ g _ _ _ _ rfl hk9 Tryd.underlying24 rfl (by kernel_rfl)) rfl ?_
    exact ⟨by rw [HF.out]; rfl, hb9 _ _ HB7.out.1 HI.out.2.2.2.2.2.2⟩
  | true =>
    have HN1 := Lib.hid n1
    clear n1
    go_wp2_with fail
    refine (Name_calls S2 _ (by have := HZ.out; omega)).mono ?_
    rintro e w8 ⟨rfl, hb8⟩
    have HB8 := Lib.hid (show Below w.heap.size w w8 ∧ Whole w8 g 24 #[.string ⟨#[]⟩, .string ⟨#[]⟩, .int .i64 0] from ⟨below_step HB7.out.1 hb8, HB7.out.2.below hb8 HB7.out.2.lt⟩)
    clear hb8
    cases n2 : nameB S2 with
    | false =>
      have HF := Lib.hid (show R = false by rw [HRR.out]; exact parseB_name (.inr (by rw [HCL.out.2.2.1]; exact n2)))
      clear n2
      go_wp2_with (refine gate_ (.store 24 (.tmp 3) (.tmp 72)) rfl ?_; refine store_whole rfl rfl rfl rfl rfl HB8.out.2 rfl (by simp [Value.oneCell']) rfl (by kernel_rfl) ?_; intro w9 hk9 hb9 hf9 hg9)
      refine bodyPost_ret (results_tct rfl _ _ g _ _ _ _ rfl hk9 Tryd.underlying24 rfl (by kernel_rfl)) rfl ?_
      exact ⟨by rw [HF.out]; rfl, hb9 _ _ HB8.out.1 HI.out.2.2.2.2.2.2⟩
    | true =>
      have HN2 := Lib.hid n2
      clear n2
      by_cases h6 : N2 ≤ 1099511627776
      · have d6 : decide (N2 ≤ 1099511627776) = true := decide_eq_true h6
        have HF := Lib.hid (show R = true by rw [HRR.out]; exact parseB_ok H0.out (by rw [H5.out]; exact HI.out.2.2.2.2.2.1.symm) (by rw [HCL.out.2.1]; exact HN1.out) (by rw [HCL.out.2.2.1]; exact HN2.out) (by rw [HCL.out.2.2.2]; exact h6))
        clear h6
        go_wp2_with (refine gate_ (.store 24 (.tmp 3) (.tmp 72)) rfl ?_; refine store_whole rfl rfl rfl rfl rfl HB8.out.2 rfl (by simp [Value.oneCell']) rfl (by kernel_rfl) ?_; intro w9 hk9 hb9 hf9 hg9)
        refine bodyPost_ret (results_tct rfl _ _ g _ _ _ _ rfl hk9 Tryd.underlying24 rfl (by kernel_rfl)) rfl ?_
        exact ⟨by rw [HF.out]; rfl, hb9 _ _ HB8.out.1 HI.out.2.2.2.2.2.2⟩
      · have d6 : decide (N2 ≤ 1099511627776) = false := decide_eq_false h6
        have HF := Lib.hid (show R = false by rw [HRR.out]; exact parseB_time (by rw [HCL.out.2.2.2]; omega))
        clear h6
        go_wp2_with (refine gate_ (.store 24 (.tmp 3) (.tmp 72)) rfl ?_; refine store_whole rfl rfl rfl rfl rfl HB8.out.2 rfl (by simp [Value.oneCell']) rfl (by kernel_rfl) ?_; intro w9 hk9 hb9 hf9 hg9)
        refine bodyPost_ret (results_tct rfl _ _ g _ _ _ _ rfl hk9 Tryd.underlying24 rfl (by kernel_rfl)) rfl ?_
        exact ⟨by rw [HF.out]; rfl, hb9 _ _ HB8.out.1 HI.out.2.2.2.2.2.2⟩
end Go.Proofs.YtcgenmogedndjaaDoor
namespace Go.Proofs.YtcgenmogedndjaaDoor
open Go.RowKit Go.Proofs.YtcgenmogedndjaaDoorW.PrintWords
theorem valOf_beBytes : ∀ (m : Nat) (x : Int), 0 ≤ x → x < 256 ^ m → valOf (beBytes m x) = x
  | 0, x, h0, h1 => by
    have : x = 0 := by simp at h1; omega
    subst this
    rfl
  | m + 1, x, h0, h1 => by
    have h2 : x / 256 < 256 ^ m := Int.ediv_lt_of_lt_mul (by decide) (by rw [Int.pow_succ] at h1; exact h1)
    rw [beBytes_succ, valOf_snoc, valOf_beBytes m (x / 256) (by omega) h2]
    omega
theorem byteLen_pow (x : Int) (h0 : 1 ≤ x) (h1 : x < 9223372036854775808) : 256 ^ (byteLen x - 1) ≤ x ∧ x < 256 ^ byteLen x := by
  unfold byteLen
  repeat' split
  all_goals simp
  all_goals omega
theorem readNum_put (x : Int) (hx : x < 9223372036854775808) (t : List Int) : readNum (numForm x ++ t) = ((if x < 0 then 0 else x), ((numForm x).length : Int), 0) := by
  by_cases h1 : x ≤ 247
  · have e : numForm x = [max x 0] := by unfold numForm; rw [if_pos h1]
    rw [e, List.singleton_append, readNum_small _ _ (by omega)]
    have : max x 0 = if x < 0 then 0 else x := by split <;> omega
    rw [this]
    rfl
  · have e : numForm x = (247 + (byteLen x : Int)) :: beBytes (byteLen x) x := by unfold numForm; rw [if_neg h1]
    have hr := byteLen_range x
    have hp := byteLen_pow x (by omega) hx
    have hl := beBytes_length (byteLen x) x
    have hm : (247 + (byteLen x : Int) - 247).toNat = byteLen x := by omega
    have ht : (beBytes (byteLen x) x ++ t).take (247 + (byteLen x : Int) - 247).toNat = beBytes (byteLen x) x := by
      rw [hm]
      conv => lhs; rw [← hl]
      rw [hl, List.take_append_of_le_length (by omega), List.take_of_length_le (by omega)]
    have hv : valOf ((beBytes (byteLen x) x ++ t).take (247 + (byteLen x : Int) - 247).toNat) = x := by rw [ht, valOf_beBytes _ _ (by omega) hp.2]
    rw [e, List.cons_append, readNum_long _ _ (by omega) (by rw [List.length_append, hl, hm]; omega)
      (by
        rw [hv, hm]
        rintro (h | h)
        · omega
        · have hq : (0 : Int) < 256 ^ (byteLen x - 1) := Int.pow_pos (by decide)
          have : 1 ≤ x / 256 ^ (byteLen x - 1) := Int.le_ediv_of_mul_le hq (by omega)
          omega) (by rw [hv]; omega), hv, if_neg (by omega), List.length_cons, hl]
    simp
    omega
theorem readText_put (s : ByteArray) (hs : s.size < 9223372036854775808) (t : List Int) : readText (textForm s ++ t) s.size = (bytesOf s, (textForm s).length, 0) := by
  have hn := readNum_put s.size (by omega) (bytesOf s ++ t)
  rw [← List.append_assoc, if_neg (by omega)] at hn
  have e : textForm s = numForm s.size ++ bytesOf s := rfl
  unfold readText
  rw [e, hn]
  have hl := bytesOf_length s
  rw [if_neg (by simp), if_neg (by omega), if_neg (by simp only [List.length_append]; omega)]
  simp only [Int.toNat_natCast, List.length_append, hl]
  rw [List.append_assoc, List.take_append, List.take_of_length_le (by omega), Nat.add_sub_cancel_left, List.take_append_of_le_length (by omega), List.take_of_length_le (by omega), List.drop_left]
end Go.Proofs.YtcgenmogedndjaaDoor
namespace Go.Proofs.YtcgenmogedndjaaDoor
open Go.RowKit Go.Proofs.YtcgenmogedndjaaDoorW.PrintWords
/-! ### A text cut at its first point -/
def dotAt : List Int → Nat
  | [] => 0
  | x :: t => if x = 46 then 0 else dotAt t + 1
theorem dotAt_app : ∀ (a b : List Int), (∀ x ∈ a, x ≠ 46) → dotAt (a ++ 46 :: b) = a.length
  | [], _, _ => rfl
  | x :: t, b, h => by
    rw [List.cons_append, dotAt, if_neg (h x (by simp)), dotAt_app t b (fun y hy => h y (by simp [hy]))]
    rfl
theorem drop_dot : ∀ (l : List Int), dotAt l < l.length → l = l.take (dotAt l) ++ 46 :: l.drop (dotAt l + 1)
  | [], h => by simp [dotAt] at h
  | x :: t, h => by
    unfold dotAt at h ⊢
    by_cases hx : x = 46
    · simp [hx]
    · rw [if_neg hx] at h ⊢
      simp only [List.length_cons] at h
      have ih := drop_dot t (by omega)
      rw [List.take_succ_cons, List.drop_succ_cons, List.cons_append]
      congr 1
theorem bytesOf_app (a b : ByteArray) : bytesOf (a ++ b) = bytesOf a ++ bytesOf b := by
  unfold bytesOf
  rw [ByteArray.data_append, Array.toList_append, List.map_append]
theorem alpha_no_dot : ∀ n : Fin 64, alpha (n.val : Int) ≠ 46 := by decide +kernel
theorem alpha_no46 (n : Int) (h0 : 0 ≤ n) (h1 : n < 64) : alpha n ≠ 46 := by
  obtain ⟨k, rfl⟩ := Int.eq_ofNat_of_zero_le h0
  exact alpha_no_dot ⟨k, by omega⟩
theorem sp3_no46 : ∀ (l : List Int), Bytes l → ∀ x ∈ sp3 l, x ≠ 46
  | [], _, x, h => by simp [sp3] at h
  | [a], hb, x, h => by
    have ha := hb a (by simp)
    simp only [sp3, List.mem_cons, List.not_mem_nil, or_false] at h
    rcases h with rfl | rfl <;> exact alpha_no46 _ (by omega) (by omega)
  | [a, b], hb, x, h => by
    have ha := hb a (by simp)
    have hb' := hb b (by simp)
    simp only [sp3, List.mem_cons, List.not_mem_nil, or_false] at h
    rcases h with rfl | rfl | rfl <;> exact alpha_no46 _ (by omega) (by omega)
  | a :: b :: c :: t, hb, x, h => by
    have ha := hb a (by simp)
    have hb' := hb b (by simp)
    have hc := hb c (by simp)
    simp only [sp3, List.mem_cons] at h
    rcases h with rfl | rfl | rfl | rfl | h
    · exact alpha_no46 _ (by omega) (by omega)
    · exact alpha_no46 _ (by omega) (by omega)
    · exact alpha_no46 _ (by omega) (by omega)
    · exact alpha_no46 _ (by omega) (by omega)
    · exact sp3_no46 t (fun y hy => hb y (by simp [hy])) x h
/-! ### A payload -/
theorem readText_put24 (s : ByteArray) (hs : s.size ≤ 24) (t : List Int) : readText (textForm s ++ t) 24 = (bytesOf s, (textForm s).length, 0) := by
  have h := readText_put s (by omega) t
  have hn := readNum_put s.size (by omega) (bytesOf s ++ t)
  rw [← List.append_assoc, if_neg (by omega)] at hn
  have e : textForm s = numForm s.size ++ bytesOf s := rfl
  unfold readText at h ⊢
  rw [e, hn] at h ⊢
  rw [if_neg (by simp)] at h ⊢
  rw [if_neg (by omega)] at h ⊢
  exact h
/-- A claim that may be. -/
def ClmOk (c : Clm) : Prop := nameB c.client = true ∧ nameB c.group = true ∧ 0 ≤ c.upto ∧ c.upto ≤ 1099511627776
theorem clmE_iff (c : Clm) : clmE c = 0 ↔ ClmOk c := by
  unfold clmE ClmOk
  by_cases h1 : nameB c.client = false ∨ nameB c.group = false
  · rw [if_pos h1]
    constructor
    · intro h; omega
    · rintro ⟨h2, h3, _⟩
      rw [h2, h3] at h1
      simp at h1
  · rw [if_neg h1]
    have h2 : nameB c.client = true ∧ nameB c.group = true := by
      cases ha : nameB c.client <;> cases hb : nameB c.group <;> simp [ha, hb] at h1 ⊢
    by_cases h3 : c.upto < 0 ∨ 1099511627776 < c.upto
    · rw [if_pos h3]
      constructor
      · intro h; omega
      · rintro ⟨_, _, h4, h5⟩; omega
    · rw [if_neg h3]
      exact ⟨fun _ => ⟨h2.1, h2.2, by omega, by omega⟩, fun _ => rfl⟩
theorem payL_parts (id : Int) (c : Clm) (hi : 0 ≤ id ∧ id ≤ 1099511627776) (hc : ClmOk c) :
    readNum (payL id c) = (id, ((numForm id).length : Int), 0) ∧ at1 (payL id c) = (numForm id).length ∧
    readText ((payL id c).drop (at1 (payL id c))) 24 = (bytesOf c.client, (textForm c.client).length, 0) ∧ at2 (payL id c) = (numForm id).length + (textForm c.client).length ∧
    readText ((payL id c).drop (at2 (payL id c))) 24 = (bytesOf c.group, (textForm c.group).length, 0) ∧ at3 (payL id c) = (numForm id).length + (textForm c.client).length + (textForm c.group).length ∧
    readNum ((payL id c).drop (at3 (payL id c))) = (c.upto, ((numForm c.upto).length : Int), 0) ∧ at4 (payL id c) = (payL id c).length := by
  obtain ⟨h1, h2, h3, h4⟩ := hc
  have z1 := (nameB_size h1).2
  have z2 := (nameB_size h2).2
  have e1 : payL id c = numForm id ++ (textForm c.client ++ (textForm c.group ++ numForm c.upto)) := by unfold payL; simp only [List.append_assoc]
  have a1 : readNum (payL id c) = (id, ((numForm id).length : Int), 0) := by
    rw [e1, readNum_put _ (by omega), if_neg (by omega)]
  have b1 : at1 (payL id c) = (numForm id).length := by unfold at1; rw [a1]; simp
  have d1 : (payL id c).drop (numForm id).length = textForm c.client ++ (textForm c.group ++ numForm c.upto) := by rw [e1, List.drop_left]
  have a2 : readText ((payL id c).drop (at1 (payL id c))) 24 = (bytesOf c.client, (textForm c.client).length, 0) := by
    rw [b1, d1, readText_put24 _ z1]
  have b2 : at2 (payL id c) = (numForm id).length + (textForm c.client).length := by unfold at2; rw [a2, b1]
  have d2 : (payL id c).drop ((numForm id).length + (textForm c.client).length) = textForm c.group ++ numForm c.upto := by rw [← List.drop_drop, d1, List.drop_left]
  have a3 : readText ((payL id c).drop (at2 (payL id c))) 24 = (bytesOf c.group, (textForm c.group).length, 0) := by
    rw [b2, d2, readText_put24 _ z2]
  have b3 : at3 (payL id c) = (numForm id).length + (textForm c.client).length + (textForm c.group).length := by unfold at3; rw [a3, b2]
  have d3 : (payL id c).drop ((numForm id).length + (textForm c.client).length + (textForm c.group).length) = numForm c.upto := by rw [← List.drop_drop, d2, List.drop_left]
  have a4 : readNum ((payL id c).drop (at3 (payL id c))) = (c.upto, ((numForm c.upto).length : Int), 0) := by
    rw [b3, d3]
    have := readNum_put c.upto (by omega) []
    rw [List.append_nil, if_neg (by omega)] at this
    exact this
  have b4 : at4 (payL id c) = (payL id c).length := by
    unfold at4
    rw [a4, b3, e1]
    simp only [List.length_append, Int.toNat_natCast]
    omega
  exact ⟨a1, b1, a2, b2, a3, b3, a4, b4⟩
theorem clm_eq {c d : Clm} (h1 : c.client = d.client) (h2 : c.group = d.group) (h3 : c.upto = d.upto) : c = d := by
  cases c; cases d; simp only at h1 h2 h3; rw [h1, h2, h3]
theorem parse_pay (id : Int) (c : Clm) (hi : 0 ≤ id ∧ id ≤ 1099511627776) (hc : ClmOk c) : parseB (payL id c) = true ∧ idOf (payL id c) = id ∧ clmOf (payL id c) = c := by
  obtain ⟨a1, b1, a2, b2, a3, b3, a4, b4⟩ := payL_parts id c hi hc
  have hcl : clmOf (payL id c) = c := by
    refine clm_eq ?_ ?_ ?_
    · show strOfNums (readText ((payL id c).drop (at1 (payL id c))) 24).1 = _
      rw [a2, strOf_bytes]
    · show strOfNums (readText ((payL id c).drop (at2 (payL id c))) 24).1 = _
      rw [a3, strOf_bytes]
    · show (readNum ((payL id c).drop (at3 (payL id c)))).1 = _
      rw [a4]
  refine ⟨parseB_ok ⟨by rw [a1], by rw [a2], by rw [a3], by rw [a4]⟩ b4 (by rw [hcl]; exact hc.1) (by rw [hcl]; exact hc.2.1) (by rw [hcl]; exact hc.2.2.2), ?_, hcl⟩
  unfold idOf
  rw [a1]
/-! ### What is read is a payload -/
theorem readText_form (r : List Int) (hb : Bytes r) (h : (readText r 24).2.2 = 0) : textForm (strOfNums (readText r 24).1) = r.take (readText r 24).2.1 ∧ (readText r 24).2.1 ≤ r.length := by
  unfold readText at h ⊢
  by_cases hE : (readNum r).2.2 = 0
  · rw [if_neg (by simp [hE])] at h ⊢
    split at h
    · simp at h
    rename_i h1
    rw [if_neg h1]
    split at h
    · simp at h
    rename_i h2
    rw [if_neg h2]
    have hk := readNum_ok r hb hE
    obtain ⟨K, hK⟩ : ∃ K : Nat, (readNum r).2.1 = (K : Int) := ⟨(readNum r).2.1.toNat, by omega⟩
    have hN0 : 0 ≤ (readNum r).1 := by omega
    obtain ⟨M, hM⟩ := Int.eq_ofNat_of_zero_le hN0
    have hform := numForm_read r hb (readNum r).1 K (by rw [← hK, ← hE])
    simp only
    rw [hK, hM] at h2 ⊢
    rw [hM] at hform
    simp only [Int.toNat_natCast]
    have hKM : K + M ≤ r.length := by omega
    have hlen : ((r.take (K + M)).drop K).length = M := by rw [List.length_drop, List.length_take]; omega
    refine ⟨?_, hKM⟩
    unfold textForm
    rw [strOf_size, hlen, hform, bytes_strOf ((hb.tk _).dp _)]
    have : r.take K = (r.take (K + M)).take K := by rw [List.take_take]; congr 1; omega
    rw [this, List.take_append_drop]
  · rw [if_pos hE] at h
    exact absurd h hE
theorem parse_form (l : List Int) (hb : Bytes l) (h : parseB l = true) : l = payL (idOf l) (clmOf l) ∧ ClmOk (clmOf l) ∧ 0 ≤ idOf l := by
  unfold parseB fourB at h
  simp only [Bool.and_eq_true, decide_eq_true_eq] at h
  obtain ⟨⟨⟨⟨⟨e1, e2, e3, e4⟩, hend⟩, hn1⟩, hn2⟩, hu⟩ := h
  have k1 := readNum_ok l hb e1
  have k4 := readNum_ok (l.drop (at3 l)) (hb.dp _) e4
  have t1 := readText_form (l.drop (at1 l)) (hb.dp _) e2
  have t2 := readText_form (l.drop (at2 l)) (hb.dp _) e3
  have f1 : numForm (idOf l) = l.take (at1 l) := numForm_read l hb _ _ (by
    unfold idOf at1
    rw [← e1, show (((readNum l).2.1.toNat : Nat) : Int) = (readNum l).2.1 by omega])
  have f4 : numForm (clmOf l).upto = (l.drop (at3 l)).take (readNum (l.drop (at3 l))).2.1.toNat := numForm_read _ (hb.dp _) _ _ (by
    show _ = ((readNum (l.drop (at3 l))).1, _, _)
    rw [← e4, show (((readNum (l.drop (at3 l))).2.1.toNat : Nat) : Int) = (readNum (l.drop (at3 l))).2.1 by omega])
  refine ⟨?_, ⟨hn1, hn2, by show 0 ≤ (readNum (l.drop (at3 l))).1; omega, hu⟩, by unfold idOf; omega⟩
  have cut : ∀ (a m : Nat), (l.drop a).take m ++ l.drop (a + m) = l.drop a := fun a m => by
    rw [← List.drop_drop, List.take_append_drop]
  have g1 : textForm (clmOf l).client = (l.drop (at1 l)).take (readText (l.drop (at1 l)) 24).2.1 := t1.1
  have g2 : textForm (clmOf l).group = (l.drop (at2 l)).take (readText (l.drop (at2 l)) 24).2.1 := t2.1
  unfold payL
  rw [f1, g1, g2, f4, List.append_assoc, List.append_assoc]
  have h4 : (l.drop (at3 l)).take (readNum (l.drop (at3 l))).2.1.toNat = l.drop (at3 l) := by
    have := cut (at3 l) (readNum (l.drop (at3 l))).2.1.toNat
    rw [show at3 l + (readNum (l.drop (at3 l))).2.1.toNat = l.length from hend, List.drop_length, List.append_nil] at this
    exact this
  rw [h4]
  have h3 : (l.drop (at2 l)).take (readText (l.drop (at2 l)) 24).2.1 ++ l.drop (at3 l) = l.drop (at2 l) := cut (at2 l) _
  have h2 : (l.drop (at1 l)).take (readText (l.drop (at1 l)) 24).2.1 ++ l.drop (at2 l) = l.drop (at1 l) := cut (at1 l) _
  rw [h3, h2, List.take_append_drop]
end Go.Proofs.YtcgenmogedndjaaDoor
namespace Go.Proofs.YtcgenmogedndjaaDoor
open Go.RowKit Go.Proofs.YtcgenmogedndjaaDoorW.PrintWords
/-- Where a byte stands first; the length, if it does not. -/
def posOf (c : Int) : List Int → Nat
  | [] => 0
  | x :: t => if x = c then 0 else posOf c t + 1
theorem posOf_dot : ∀ (l : List Int), posOf 46 l = dotAt l
  | [] => rfl
  | x :: t => by rw [posOf, dotAt, posOf_dot t]
theorem indexByte_pos (c : Nat) (hc : c < 256) : ∀ (l : List UInt8), Lib.indexByte l (c : Int).toNat.toUInt8 = if posOf c (l.map fun b => (b.toNat : Int)) < l.length then ((posOf c (l.map fun b => (b.toNat : Int)) : Nat) : Int) else -1
  | [] => rfl
  | b :: t => by
    have ih := indexByte_pos c hc t
    have hcc : ((c : Int).toNat.toUInt8).toNat = c := by
      rw [Int.toNat_natCast]
      exact UInt8.toNat_ofNat_of_lt' hc
    rw [Lib.indexByte, List.map_cons, posOf]
    by_cases hb : (b.toNat : Int) = c
    · have e : (b == (c : Int).toNat.toUInt8) = true := by
        rw [beq_iff_eq]
        apply UInt8.toNat_inj.1
        rw [hcc]
        omega
      rw [e, if_pos rfl, if_pos hb, if_pos (by simp)]
      rfl
    · have e : (b == (c : Int).toNat.toUInt8) = false := by
        rw [beq_eq_false_iff_ne]
        intro h
        apply hb
        rw [h, hcc]
      rw [e, if_neg (by simp), if_neg hb, ih]
      by_cases h2 : posOf c (t.map fun b => (b.toNat : Int)) < t.length
      · rw [if_pos h2, if_neg (by rw [beq_iff_eq]; omega), if_pos (by simp only [List.length_cons]; omega)]
        omega
      · rw [if_neg h2, if_pos (by decide), if_neg (by simp only [List.length_cons]; omega)]
theorem indexByte_str (c : Nat) (hc : c < 256) (s : ByteArray) : Lib.indexByte s.data.toList (c : Int).toNat.toUInt8 = if posOf c (bytesOf s) < s.size then ((posOf c (bytesOf s) : Nat) : Int) else -1 := by
  have h := indexByte_pos c hc s.data.toList
  rw [data_length] at h
  exact h
theorem bytesOf_extract (s : ByteArray) (a b : Nat) : bytesOf (s.extract a b) = ((bytesOf s).drop a).take (b - a) := by
  unfold bytesOf
  rw [Lib.extract_data, List.map_take, List.map_drop]
set_option maxHeartbeats 400000 in
theorem litIndexByte_calls (s : ByteArray) (c : Nat) (hc : c < 256) (w : World) :
    Calls Tryd.prog 60 #[.string s, .int .u8 c] w fun e w' => e = .returned (.int .i64 (if posOf c (bytesOf s) < s.size then ((posOf c (bytesOf s) : Nat) : Int) else -1)) ∧ w' = w := by
  rw [← indexByte_str c hc s]
  go_enter Tryd.func60, Tryd.ntmps60
  go_wp2
  rw [run_callFunc_extern Tryd.func75 (by kernel_rfl) (by kernel_rfl) (by kernel_rfl) (e := Extern.BytealgIndexByte.indexByte) (by kernel_rfl), Lib.run_indexByteString]
  simp only [Result.andThen]
  rw [Oper.upon_value]
  go_wp2
  go_ret
  exact ⟨rfl, rfl⟩
set_option maxHeartbeats 400000 in
theorem IndexByte_calls (s : ByteArray) (c : Nat) (hc : c < 256) (w : World) :
    Calls Tryd.prog 43 #[.string s, .int .u8 c] w fun e w' => e = .returned (.int .i64 (if posOf c (bytesOf s) < s.size then ((posOf c (bytesOf s) : Nat) : Int) else -1)) ∧ w' = w := by
  obtain ⟨r, hr⟩ : ∃ r, r = (if posOf c (bytesOf s) < s.size then ((posOf c (bytesOf s) : Nat) : Int) else -1) := ⟨_, rfl⟩
  rw [← hr]
  have HR := Lib.hid hr
  clear hr
  go_enter Tryd.func43, Tryd.ntmps43
  go_wp2_with fail
  refine (litIndexByte_calls s c hc _).mono ?_
  rintro e w1 ⟨rfl, rfl⟩
  rw [← HR.out]
  go_wp2
  go_ret
  exact ⟨rfl, rfl⟩
theorem dot_toList (s : ByteArray) (h : s ≠ ⟨#[46]⟩) : ([46] == s.toList) = false := by
  rw [beq_eq_false_iff_ne]
  intro e
  apply h
  apply toList_inj
  rw [← e, ByteArray.toList_eq]
set_option maxRecDepth 100000 in
/-- stringslite.Index, where what is looked for is a point. -/
theorem litIndex_dot (s : ByteArray) (w : World) :
    Calls Tryd.prog 63 #[.string s, .string ⟨#[46]⟩] w fun e w' => e = .returned (.int .i64 (if dotAt (bytesOf s) < s.size then ((dotAt (bytesOf s) : Nat) : Int) else -1)) ∧ w' = w := by
  by_cases h : s = ⟨#[46]⟩
  · subst h
    have e1 : (if dotAt (bytesOf ⟨#[46]⟩) < (⟨#[46]⟩ : ByteArray).size then ((dotAt (bytesOf ⟨#[46]⟩) : Nat) : Int) else -1) = 0 := by decide
    rw [e1]
    clear e1
    have e2 : ([46] == (⟨#[46]⟩ : ByteArray).toList) = true := by rw [ByteArray.toList_eq]; rfl
    go_enter Tryd.func63, Tryd.ntmps63
    go_wp2
    go_ret
    exact ⟨rfl, rfl⟩
  · have hne := dot_toList s h
    obtain ⟨r, hr⟩ : ∃ r, r = (if dotAt (bytesOf s) < s.size then ((dotAt (bytesOf s) : Nat) : Int) else -1) := ⟨_, rfl⟩
    rw [← hr]
    have HR := Lib.hid (show r = (if posOf ((46 : Nat) : Int) (bytesOf s) < s.size then ((posOf ((46 : Nat) : Int) (bytesOf s) : Nat) : Int) else -1) by rw [hr, ← posOf_dot]; rfl)
    clear hr h
    go_enter Tryd.func63, Tryd.ntmps63
    go_wp2_with fail
    refine (litIndexByte_calls s 46 (by decide) _).mono ?_
    rintro e w1 ⟨rfl, rfl⟩
    rw [← HR.out]
    go_wp2
    go_ret
    exact ⟨rfl, rfl⟩
/-- Does a text hold a point? -/
def hasDot (s : ByteArray) : Bool := decide (dotAt (bytesOf s) < s.size)
def frontOf (s : ByteArray) : ByteArray := if hasDot s = true then s.extract 0 (dotAt (bytesOf s)) else s
def backOf (s : ByteArray) : ByteArray := if hasDot s = true then s.extract (dotAt (bytesOf s) + 1) s.size else ByteArray.empty
set_option maxHeartbeats 800000 in
theorem litCut_calls (s : ByteArray) (w : World) (hs : s.size ≤ 1099511627776) :
    Calls Tryd.prog 47 #[.string s, .string ⟨#[46]⟩] w fun e w' => e = .returned (.tuple #[.string (frontOf s), .string (backOf s), .bool (hasDot s)]) ∧ Drawn0 w w' := by
  obtain ⟨d, hd⟩ : ∃ d, d = dotAt (bytesOf s) := ⟨_, rfl⟩
  by_cases h : d < s.size
  · have h1 : hasDot s = true := decide_eq_true (by rw [← hd]; exact h)
    have h2 : frontOf s = s.extract 0 d := by unfold frontOf; rw [if_pos h1, hd]
    have h3 : backOf s = s.extract (d + 1) s.size := by unfold backOf; rw [if_pos h1, hd]
    rw [h1, h2, h3]
    have HD := Lib.hid (show (if dotAt (bytesOf s) < s.size then ((dotAt (bytesOf s) : Nat) : Int) else -1) = d by rw [if_pos (by rw [← hd]; exact h), hd])
    clear h1 h2 h3 hd
    have i0 : (0 : Int) ≤ d := by omega
    have i1 : (d : Int) ≤ s.size := by omega
    have i2 : (d : Int) + 1 ≤ s.size := by omega
    have w1' : IntKind.i64.wrap ((d : Int) + 1) = d + 1 := wrap_id (by omega) (by omega)
    have t1 : ((d : Int) + 1).toNat = d + 1 := by omega
    have i3 : (0 : Int) ≤ (d : Int) + 1 := by omega
    go_enter Tryd.func47, Tryd.ntmps47
    go_wp2_with fail
    refine (litIndex_dot s _).mono ?_
    rintro e w1 ⟨rfl, rfl⟩
    rw [HD.out]
    go_wp2_with fail
    go_quiet (fail)
    go_wp2
    go_ret3
    exact ⟨rfl, (Drawn0.refl _).step _⟩
  · have h1 : hasDot s = false := decide_eq_false (by rw [← hd]; exact h)
    have h2 : frontOf s = s := by unfold frontOf; rw [h1]; rfl
    have h3 : backOf s = ByteArray.empty := by unfold backOf; rw [h1]; rfl
    rw [h1, h2, h3]
    have HD := Lib.hid (show (if dotAt (bytesOf s) < s.size then ((dotAt (bytesOf s) : Nat) : Int) else -1) = -1 by rw [if_neg (by rw [← hd]; exact h)])
    clear h1 h2 h3 hd h
    go_enter Tryd.func47, Tryd.ntmps47
    go_wp2_with fail
    refine (litIndex_dot s _).mono ?_
    rintro e w1 ⟨rfl, rfl⟩
    rw [HD.out]
    go_wp2
    go_ret3
    exact ⟨rfl, Drawn0.refl _⟩
set_option maxHeartbeats 400000 in
theorem Cut_calls (s : ByteArray) (w : World) (hs : s.size ≤ 1099511627776) :
    Calls Tryd.prog 29 #[.string s, .string ⟨#[46]⟩] w fun e w' => e = .returned (.tuple #[.string (frontOf s), .string (backOf s), .bool (hasDot s)]) ∧ Drawn0 w w' := by
  go_enter Tryd.func29, Tryd.ntmps29
  go_wp2_with fail
  refine (litCut_calls s _ hs).mono ?_
  rintro e w1 ⟨rfl, hd⟩
  have HD := Lib.hid hd
  clear hd
  go_wp2
  go_ret3
  exact ⟨rfl, HD.out⟩
end Go.Proofs.YtcgenmogedndjaaDoor
