/- The texts AuthRead, ByteRow, Hdr, AuthOpen in one. -/
import Derived.Test.YtcgenmogedndjaaDoorG02
import Derived.Test.YtcgenmogedndjaaDoorG12
import Derived.Test.YtcgenmogedndjaaDoorG16
import Derived.Test.YtcgenmogedndjaaDoorG17
namespace Go.Proofs.YtcgenmogedndjaaDoor
open Go.RowKit Go.Proofs.YtcgenmogedndjaaDoorW.PrintWords
/-- What a call of Read answers. -/
def ReadPost (L : List Sec) (now : Int) (s : ByteArray) (w : World) (e : Ending) (w' : World) : Prop :=
  ∃ (x : Clm) (f : Int), e = .returned (.tuple #[.agg #[.string x.client, .string x.group, .int .i64 x.upto], .int .i64 f]) ∧ RdSpec L now s x f ∧ Below w.heap.size w w'
/-- The blocks of Read's own that stand through all of it. -/
def RdOwn (w : World) (g0 g1 : Nat) : Prop := Whole w g0 24 #[.string ⟨#[]⟩, .string ⟨#[]⟩, .int .i64 0] ∧ Whole w g1 24 #[.string ⟨#[]⟩, .string ⟨#[]⟩, .int .i64 0]
theorem RdOwn.below {w w1 : World} {g0 g1 : Nat} (h : RdOwn w g0 g1) (hb : Below w.heap.size w w1) : RdOwn w1 g0 g1 := ⟨h.1.below hb h.1.lt, h.2.below hb h.2.lt⟩
set_option maxRecDepth 20000 in
set_option maxHeartbeats 6400000 in
theorem AuthRead_calls {n : Nat} (A0 : Option Addr) (c0 : Nat) (L : List Sec) (now : Int) (s : ByteArray) (w : World) (hr0 : RdS w A0 n L) (hok : SecOk L) (hs : s.size ≤ 1073741824) (hG : Laid w) :
    Calls Tryd.prog 13 #[.slice A0 n c0, .int .i64 now, .string s] w (ReadPost L now s w) := by
  have hlen : L.length = n := Kd.C_len hr0
  have hmax := Kd.C_max hr0
  obtain ⟨g0, hg0⟩ : ∃ g, g = w.heap.size := ⟨_, rfl⟩
  obtain ⟨g1, hg1⟩ : ∃ g, g = g0 + 1 := ⟨_, rfl⟩
  obtain ⟨W0, hW0⟩ : ∃ W0, W0 = w.alloc (.cells #[.string ⟨#[]⟩, .string ⟨#[]⟩, .int .i64 0] 24) := ⟨_, rfl⟩
  obtain ⟨W1, hW1⟩ : ∃ W1, W1 = W0.alloc (.cells #[.string ⟨#[]⟩, .string ⟨#[]⟩, .int .i64 0] 24) := ⟨_, rfl⟩
  have hz0 : W0.heap.size = g1 := by rw [hW0, size_alloc, hg1, hg0]
  have hb0 : Below w.heap.size w W0 := by rw [hW0]; exact below_alloc (Below.refl _ _) _
  have hb01 : Below W0.heap.size W0 W1 := by rw [hW1]; exact below_alloc (Below.refl _ _) _
  have hb1 := below_step hb0 hb01
  have hp0 : Whole W0 g0 24 #[.string ⟨#[]⟩, .string ⟨#[]⟩, .int .i64 0] := by rw [hW0, hg0]; exact Whole.new w _ _
  have hown : RdOwn W1 g0 g1 := ⟨hp0.below hb01 hp0.lt, by rw [hW1, ← hz0]; exact Whole.new W0 _ _⟩
  have HS := Lib.hid (show g0 = w.heap.size ∧ W0 = w.alloc _ ∧ W1 = W0.alloc _ ∧ w.heap.size ≤ g0 ∧ g1 = g0 + 1 from ⟨hg0, hW0, hW1, by rw [hg0]; exact Nat.le_refl _, hg1⟩)
  have HI := Lib.hid (show RdS W1 A0 n L ∧ SecOk L ∧ s.size ≤ 1073741824 ∧ Laid W1 ∧ Below w.heap.size w W1 ∧ L.length = n ∧ n ≤ 9223372036854775807 ∧ RdOwn W1 g0 g1 from ⟨Kd.C_below hr0 hb1, hok, hs, hG.below hb1 hG.lt, hb1, hlen, hmax, hown⟩)
  clear hr0 hok hs hG hlen hmax hg0 hg1 hz0 hb0 hb01 hb1 hp0 hown hW0 hW1
  obtain ⟨F, hF⟩ : ∃ F, F = frontOf s := ⟨_, rfl⟩
  obtain ⟨B, hB⟩ : ∃ B, B = backOf s := ⟨_, rfl⟩
  obtain ⟨D, hD⟩ : ∃ D, D = hasDot s := ⟨_, rfl⟩
  have hFs : F.size ≤ s.size := by rw [hF, ← bytesOf_length]; unfold frontOf; split <;> (first | (rw [bytesOf_extract, List.length_take, List.length_drop, bytesOf_length]; omega) | (rw [bytesOf_length]; exact Nat.le_refl _))
  have hBs : B.size ≤ s.size := by rw [hB, ← bytesOf_length]; unfold backOf; split <;> (first | (rw [bytesOf_extract, List.length_take, List.length_drop, bytesOf_length]; omega) | (rw [bytesOf_length]; exact Nat.zero_le _))
  have HF := Lib.hid (show frontOf s = F ∧ backOf s = B ∧ hasDot s = D ∧ F.size ≤ 1073741824 ∧ B.size ≤ 1073741824 ∧ unRun (bytesOf F) 0 0 [] = frontL s ∧ unRun (bytesOf B) 0 0 [] = backL s from ⟨hF.symm, hB.symm, hD.symm, by have := HI.out; omega, by have := HI.out; omega, by rw [hF]; rfl, by rw [hB]; rfl⟩)
  clear hFs hBs hF hB hD
  go_enter Tryd.func13, Tryd.ntmps13
  go_wp2_with fail
  rw [← HS.out.1, ← HS.out.2.1, ← HS.out.2.2.2.2, ← HS.out.2.2.1]
  refine (Check_calls _ _ _ _ HI.out.1).mono ?_
  rintro e w1 ⟨rfl, hb1⟩
  have H1 := Lib.hid (show Below w.heap.size w w1 ∧ RdOwn w1 g0 g1 ∧ Below W1.heap.size W1 w1 from ⟨below_step HI.out.2.2.2.2.1 hb1, HI.out.2.2.2.2.2.2.2.below hb1, hb1⟩)
  clear hb1
  cases hc : checkB L with
  | false =>
    have HC := Lib.hid hc
    rw [checkE_no hc]
    clear hc
    have q0 := H1.out.2.1.2.cell 0 _ rfl
    have q1 := H1.out.2.1.2.cell 1 _ rfl
    have q2 := H1.out.2.1.2.cell 2 _ rfl
    go_wp2_with (refine gate_ (.store 24 (.tmp 6) (.tmp 25)) rfl ?_; refine store_whole rfl rfl rfl rfl rfl H1.out.2.1.1 rfl (by simp [Value.oneCell']) rfl (by kernel_rfl) ?_; intro w9 hk9 hb9 hf9 hg9)
    refine bodyPost_ret (results_ct rfl _ _ g0 _ _ _ _ rfl hk9 Tryd.underlying24 rfl (by kernel_rfl)) rfl ?_
    exact ⟨Clm.none, 102, rfl, RdSpec.check HC.out, hb9 _ _ H1.out.1 HS.out.2.2.2.1⟩
  | true =>
    have HC := Lib.hid hc
    rw [checkE_yes hc]
    clear hc
    go_wp2_with fail
    refine (Cut_calls s _ (by have := HI.out; omega)).mono ?_
    rintro e w2 ⟨rfl, hd2⟩
    rw [HF.out.1, HF.out.2.1, HF.out.2.2.1]
    have hb2 := hd2.below
    have H2 := Lib.hid (show Below w.heap.size w w2 ∧ RdOwn w2 g0 g1 ∧ Below W1.heap.size W1 w2 from ⟨below_step H1.out.1 hb2, H1.out.2.1.below hb2, below_step H1.out.2.2 hb2⟩)
    clear hb2 hd2
    go_wp2_with fail
    refine (Unspell_calls F _ (by have := HF.out; omega)).mono ?_
    rintro e w3 ⟨v3, rfl, ho3, hb3⟩
    rw [HF.out.2.2.2.2.2.1] at ho3 ⊢
    obtain ⟨A3, c3, rfl, hc3, hr3⟩ := ho3.reads
    obtain ⟨P, hP⟩ : ∃ P, P = (frontL s).getD [] := ⟨_, rfl⟩
    rw [← hP] at hr3 ⊢
    have HP := Lib.hid hP
    have H3 := Lib.hid (show Below w.heap.size w w3 ∧ RdOwn w3 g0 g1 ∧ Below W1.heap.size W1 w3 ∧ Rd w3 A3 P.length P from ⟨below_step H2.out.1 hb3, H2.out.2.1.below hb3, below_step H2.out.2.2 hb3, hr3⟩)
    clear ho3 hc3 hr3 hb3 hP
    go_wp2_with fail
    refine (Unspell_calls B _ (by have := HF.out; omega)).mono ?_
    rintro e w4 ⟨v4, rfl, ho4, hb4⟩
    rw [HF.out.2.2.2.2.2.2] at ho4 ⊢
    obtain ⟨A4, c4, rfl, hc4, hr4⟩ := ho4.reads
    obtain ⟨M, hM⟩ : ∃ M, M = (backL s).getD [] := ⟨_, rfl⟩
    rw [← hM] at hr4 ⊢
    have HM := Lib.hid hM
    have H4 := Lib.hid (show Below w.heap.size w w4 ∧ RdOwn w4 g0 g1 ∧ Below W1.heap.size W1 w4 ∧ Rd w4 A3 P.length P ∧ Rd w4 A4 M.length M from ⟨below_step H3.out.1 hb4, H3.out.2.1.below hb4, below_step H3.out.2.2.1 hb4, Kd.C_below H3.out.2.2.2 hb4, hr4⟩)
    clear ho4 hc4 hr4 hb4 hM
    by_cases hbad : hasDot s = false ∨ frontL s = none ∨ backL s = none
    · have HN := Lib.hid (show ∀ k ∈ L, ∀ c, ClmOk c → tokS k c ≠ s from fun k _ c _ => no_tok_spelt hbad k c)
      have hbits : (D = false) ∨ (D = true ∧ (frontL s).isSome = false) ∨ (D = true ∧ (frontL s).isSome = true ∧ (backL s).isSome = false) := by
        rw [← HF.out.2.2.1]
        cases h1 : hasDot s <;> cases h2 : frontL s <;> cases h3 : backL s <;> simp [h1, h2, h3] at hbad ⊢
      obtain ⟨f1, hf1⟩ : ∃ b, b = (frontL s).isSome := ⟨_, rfl⟩
      obtain ⟨f2, hf2⟩ : ∃ b, b = (backL s).isSome := ⟨_, rfl⟩
      rw [← hf1, ← hf2] at hbits
      rw [← hf1, ← hf2]
      have HFF := Lib.hid (And.intro hf1 hf2)
      clear hbad hf1 hf2
      rcases hbits with rfl | ⟨rfl, rfl⟩ | ⟨rfl, rfl, rfl⟩
      · have q0 := H4.out.2.1.2.cell 0 _ rfl
        have q1 := H4.out.2.1.2.cell 1 _ rfl
        have q2 := H4.out.2.1.2.cell 2 _ rfl
        go_wp2_with (refine gate_ (.store 24 (.tmp 6) (.tmp 52)) rfl ?_; refine store_whole rfl rfl rfl rfl rfl H4.out.2.1.1 rfl (by simp [Value.oneCell']) rfl (by kernel_rfl) ?_; intro w9 hk9 hb9 hf9 hg9)
        refine bodyPost_ret (results_ct rfl _ _ g0 _ _ _ _ rfl hk9 Tryd.underlying24 rfl (by kernel_rfl)) rfl ?_
        exact ⟨Clm.none, 100, rfl, RdSpec.no HC.out HN.out, hb9 _ _ H4.out.1 HS.out.2.2.2.1⟩
      · have q0 := H4.out.2.1.2.cell 0 _ rfl
        have q1 := H4.out.2.1.2.cell 1 _ rfl
        have q2 := H4.out.2.1.2.cell 2 _ rfl
        go_wp2_with (refine gate_ (.store 24 (.tmp 6) (.tmp 52)) rfl ?_; refine store_whole rfl rfl rfl rfl rfl H4.out.2.1.1 rfl (by simp [Value.oneCell']) rfl (by kernel_rfl) ?_; intro w9 hk9 hb9 hf9 hg9)
        refine bodyPost_ret (results_ct rfl _ _ g0 _ _ _ _ rfl hk9 Tryd.underlying24 rfl (by kernel_rfl)) rfl ?_
        exact ⟨Clm.none, 100, rfl, RdSpec.no HC.out HN.out, hb9 _ _ H4.out.1 HS.out.2.2.2.1⟩
      · have q0 := H4.out.2.1.2.cell 0 _ rfl
        have q1 := H4.out.2.1.2.cell 1 _ rfl
        have q2 := H4.out.2.1.2.cell 2 _ rfl
        go_wp2_with (refine gate_ (.store 24 (.tmp 6) (.tmp 52)) rfl ?_; refine store_whole rfl rfl rfl rfl rfl H4.out.2.1.1 rfl (by simp [Value.oneCell']) rfl (by kernel_rfl) ?_; intro w9 hk9 hb9 hf9 hg9)
        refine bodyPost_ret (results_ct rfl _ _ g0 _ _ _ _ rfl hk9 Tryd.underlying24 rfl (by kernel_rfl)) rfl ?_
        exact ⟨Clm.none, 100, rfl, RdSpec.no HC.out HN.out, hb9 _ _ H4.out.1 HS.out.2.2.2.1⟩
    · have hgood : D = true ∧ (∃ b, frontL s = some b) ∧ (∃ m, backL s = some m) := by
        rw [← HF.out.2.2.1]
        cases h1 : hasDot s <;> cases h2 : frontL s <;> cases h3 : backL s <;> simp [h1, h2, h3] at hbad ⊢
      obtain ⟨rfl, ⟨b, hb⟩, ⟨m, hm⟩⟩ := hgood
      have hPb : P = b := by rw [HP.out, hb]; rfl
      have hMm : M = m := by rw [HM.out, hm]; rfl
      subst hPb hMm
      rw [hb, hm]
      have HB := Lib.hid hb
      have HMM := Lib.hid hm
      have hY := (spelt_unRun _ _ (Bytes_bytesOf F) (HF.out.2.2.2.2.2.1.trans hb)).2
      have hZ := (spelt_unRun _ _ (Bytes_bytesOf B) (HF.out.2.2.2.2.2.2.trans hm)).2
      have hl1 : P.length ≤ 1073741824 := by have h1 := congrArg List.length (spelt_unRun _ _ (Bytes_bytesOf F) (HF.out.2.2.2.2.2.1.trans hb)).1; rw [sp3_length, bytesOf_length] at h1; have := HF.out; omega
      have HY := Lib.hid (show Bytes P ∧ Bytes M ∧ P.length ≤ 1073741824 from ⟨hY, hZ, hl1⟩)
      clear hb hm hbad hY hZ hl1
      have e1 : (some P).isSome = true := rfl
      have e2 : (some M).isSome = true := rfl
      rw [e1, e2]
      clear e1 e2
      obtain ⟨cl, hcl⟩ : ∃ c, c = clmOf P := ⟨_, rfl⟩
      obtain ⟨pid, hpid⟩ : ∃ i, i = idOf P := ⟨_, rfl⟩
      obtain ⟨pok, hpok⟩ : ∃ i, i = parseB P := ⟨_, rfl⟩
      have HCL := Lib.hid (show clmOf P = cl ∧ idOf P = pid ∧ parseB P = pok from ⟨hcl.symm, hpid.symm, hpok.symm⟩)
      clear hcl hpid hpok
      obtain ⟨ca, cb, cu⟩ := cl
      go_wp2_with fail
      refine (parse_calls _ _ P _ H4.out.2.2.2.1 HY.out.1 (by have := HY.out; omega)).mono ?_
      rintro e w5 ⟨rfl, hb5⟩
      rw [HCL.out.1, HCL.out.2.1, HCL.out.2.2]
      obtain ⟨g5, hg5⟩ : ∃ g, g = w5.heap.size := ⟨_, rfl⟩
      obtain ⟨W6, hW6⟩ : ∃ W, W = w5.alloc (.cells #[.string ca, .string cb, .int .i64 cu] 24) := ⟨_, rfl⟩
      have hb56 : Below w5.heap.size w5 W6 := by rw [hW6]; exact below_alloc (Below.refl _ _) _
      have hb6 := below_step hb5 hb56
      have hwc : Whole W6 g5 24 #[.string ca, .string cb, .int .i64 cu] := by rw [hW6, hg5]; exact Whole.new w5 _ _
      have H6 := Lib.hid (show Below w.heap.size w W6 ∧ RdOwn W6 g0 g1 ∧ Below W1.heap.size W1 W6 ∧ Rd W6 A3 P.length P ∧ Rd W6 A4 M.length M ∧ Whole W6 g5 24 #[.string ca, .string cb, .int .i64 cu] from ⟨below_step H4.out.1 hb6, H4.out.2.1.below hb6, below_step H4.out.2.2.1 hb6, Kd.C_below H4.out.2.2.2.1 hb6, Kd.C_below H4.out.2.2.2.2 hb6, hwc⟩)
      have HS6 := Lib.hid (show g5 = w5.heap.size ∧ W6 = w5.alloc _ from ⟨hg5, hW6⟩)
      clear hb5 hb56 hb6 hwc hg5 hW6
      go_upto_region 10 with (fail)
      rw [← HS6.out.1, ← HS6.out.2]
      cases pok with
      | false =>
        have HN := Lib.hid (show ∀ k ∈ L, ∀ c, ClmOk c → tokS k c ≠ s from fun k hk c hc => no_tok_parse HB.out HCL.out.2.2 k (by have := checkB_all HC.out k hk; omega) c hc)
        have q0 := H6.out.2.1.2.cell 0 _ rfl
        have q1 := H6.out.2.1.2.cell 1 _ rfl
        have q2 := H6.out.2.1.2.cell 2 _ rfl
        go_wp2_with (refine gate_ (.store 24 (.tmp 6) (.tmp 61)) rfl ?_; refine store_whole rfl rfl rfl rfl rfl H6.out.2.1.1 rfl (by simp [Value.oneCell']) rfl (by kernel_rfl) ?_; intro w9 hk9 hb9 hf9 hg9)
        refine bodyPost_ret (results_ct rfl _ _ g0 _ _ _ _ rfl hk9 Tryd.underlying24 rfl (by kernel_rfl)) rfl ?_
        exact ⟨Clm.none, 100, rfl, RdSpec.no HC.out HN.out, hb9 _ _ H6.out.1 HS.out.2.2.2.1⟩
      | true =>
        have hform := parse_form P HY.out.1 HCL.out.2.2
        rw [HCL.out.1, HCL.out.2.1] at hform
        have HFO := Lib.hid hform
        clear hform
        go_wp2
        go_loopw [64] (fun v wi => ∃ k : Nat, v = .int .i64 k ∧ k ≤ n ∧ Hid ((∀ j, j < k → (L.getD j Sec.none).id ≠ pid) ∧ Below W6.heap.size W6 wi)) (fun v _ => n - (intOf v).toNat)
        case atStart => exact ⟨0, rfl, by omega, Lib.hid ⟨fun j hj => by omega, Below.refl _ _⟩⟩
        case round =>
          obtain ⟨k, rfl, hk, HR⟩ := hrel
          have HO := Lib.hid (show Below w.heap.size w wr ∧ RdOwn wr g0 g1 ∧ Rd wr A3 P.length P ∧ Rd wr A4 M.length M ∧ Whole wr g5 24 #[.string ca, .string cb, .int .i64 cu] ∧ Laid wr ∧ RdS wr A0 n L from ⟨below_step H6.out.1 HR.out.2, H6.out.2.1.below HR.out.2, Kd.C_below H6.out.2.2.2.1 HR.out.2, Kd.C_below H6.out.2.2.2.2.1 HR.out.2, H6.out.2.2.2.2.2.below HR.out.2 H6.out.2.2.2.2.2.lt, HI.out.2.2.2.1.below (below_step H6.out.2.2.1 HR.out.2) HI.out.2.2.2.1.lt, Kd.C_below HI.out.1 (below_step H6.out.2.2.1 HR.out.2)⟩)
          by_cases hkn : k < n
          · have dkn : decide ((k : Int) < n) = true := decide_eq_true (by omega)
            have ikn : (k : Int) < n := by omega
            have hmx := HI.out.2.2.2.2.2.2.1
            have wk : IntKind.i64.wrap ((k : Int) + 1) = k + 1 := wrap_id (by omega) (by omega)
            clear hmx
            obtain ⟨ad, Ai, ci, rfl, x0, x1, hci, hrd⟩ := RdS.at HO.out.2.2.2.2.2.2 k hkn
            have hki : k < L.length := by have := HI.out.2.2.2.2.2.1; omega
            have hso := HI.out.2.1.at k hki
            have hsr := checkB_all HC.out _ (getD_mem hki)
            have hsm := getD_mem hki
            obtain ⟨sc, hsc⟩ : ∃ sc, sc = L.getD k Sec.none := ⟨_, rfl⟩
            rw [← hsc] at x0 x1 hci hrd hso hsr hsm
            obtain ⟨sid, sk⟩ := sc
            simp only at x0 x1 hci hrd hso hsr
            have HK := Lib.hid (show L.getD k Sec.none = ⟨sid, sk⟩ ∧ (⟨sid, sk⟩ : Sec) ∈ L ∧ Bytes sk ∧ sk.length ≤ 64 ∧ (0 ≤ sid ∧ sid ≤ 1099511627776) ∧ Rd wr Ai sk.length sk ∧ sk.length ≤ ci ∧ k < n from ⟨hsc.symm, hsm, hso.1, by omega, by omega, hrd, hci, hkn⟩)
            clear hsc hsm hso hsr hrd hci hki hkn
            obtain ⟨g7, hg7⟩ : ∃ g, g = wr.heap.size := ⟨_, rfl⟩
            obtain ⟨W7, hW7⟩ : ∃ W, W = wr.alloc (.cells #[.int .i64 sid, .slice Ai sk.length ci] 42) := ⟨_, rfl⟩
            have hb7 : Below wr.heap.size wr W7 := by rw [hW7]; exact below_alloc (Below.refl _ _) _
            have hws : Whole W7 g7 42 #[.int .i64 sid, .slice Ai sk.length ci] := by rw [hW7, hg7]; exact Whole.new wr _ _
            have H7 := Lib.hid (show Below wr.heap.size wr W7 ∧ Whole W7 g7 42 #[.int .i64 sid, .slice Ai sk.length ci] from ⟨hb7, hws⟩)
            have HS7 := Lib.hid (show g7 = wr.heap.size ∧ W7 = wr.alloc _ from ⟨hg7, hW7⟩)
            have y0 := hws.cell 0 _ rfl
            have y1 := hws.cell 1 _ rfl
            clear hb7 hws hg7 hW7
            go_upto_region 15 with (fail)
            rw [← HS7.out.1, ← HS7.out.2]
            clear x0 x1
            by_cases hid : sid = pid
            · have dne : (sid != pid) = false := bne_eq_false_iff_eq.2 hid
              have dne' : (sid == pid) = true := beq_iff_eq.2 hid
              have HID := Lib.hid hid
              clear hid
              have H8 := Lib.hid (show Rd W7 Ai sk.length sk ∧ Rd W7 A3 P.length P ∧ Laid W7 ∧ Below w.heap.size w W7 ∧ RdOwn W7 g0 g1 ∧ Rd W7 A4 M.length M ∧ Whole W7 g5 24 #[.string ca, .string cb, .int .i64 cu] from ⟨Kd.C_below HK.out.2.2.2.2.2.1 H7.out.1, Kd.C_below HO.out.2.2.1 H7.out.1, HO.out.2.2.2.2.2.1.below H7.out.1 HO.out.2.2.2.2.2.1.lt, below_step HO.out.1 H7.out.1, HO.out.2.1.below H7.out.1, Kd.C_below HO.out.2.2.2.1 H7.out.1, HO.out.2.2.2.2.1.below H7.out.1 HO.out.2.2.2.2.1.lt⟩)
              go_wp2_with fail
              refine (Mac_calls _ _ _ _ _ _ _ H8.out.1 HK.out.2.2.1 HK.out.2.2.2.2.2.2.1 (by have := HK.out; omega) H8.out.2.1 HY.out.1 (by have := HY.out; omega) H8.out.2.2.1).mono ?_
              rintro e w8 ⟨rfl, hb8⟩
              obtain ⟨mc, hmc⟩ : ∃ mc, mc = mac sk P := ⟨_, rfl⟩
              rw [← hmc]
              have HMC := Lib.hid (show mac sk P = mc ∧ mc.length = 32 ∧ Bytes mc from ⟨hmc.symm, by rw [hmc]; exact mac_length _ _, by rw [hmc]; exact mac_Bytes _ _⟩)
              clear hmc
              obtain ⟨g9, hg9⟩ : ∃ g, g = w8.heap.size := ⟨_, rfl⟩
              obtain ⟨W9, hW9⟩ : ∃ W, W = w8.alloc (.cells #[.int .u8 0, .int .u8 0, .int .u8 0, .int .u8 0, .int .u8 0, .int .u8 0, .int .u8 0, .int .u8 0, .int .u8 0, .int .u8 0, .int .u8 0, .int .u8 0, .int .u8 0, .int .u8 0, .int .u8 0, .int .u8 0, .int .u8 0, .int .u8 0, .int .u8 0, .int .u8 0, .int .u8 0, .int .u8 0, .int .u8 0, .int .u8 0, .int .u8 0, .int .u8 0, .int .u8 0, .int .u8 0, .int .u8 0, .int .u8 0, .int .u8 0, .int .u8 0] 66) := ⟨_, rfl⟩
              have hB9 : Below w8.heap.size w8 W9 := by rw [hW9]; exact below_alloc (Below.refl _ _) _
              have hb79 := below_step hb8 hB9
              have HL := Lib.hid (show Blk W9 g9 66 .u8 (List.replicate 32 0) ∧ Below W7.heap.size W7 W9 ∧ W7.heap.size ≤ g9 from ⟨by rw [hW9, hg9]; exact Blk.new w8 66 .u8 (List.replicate 32 0), hb79, by rw [hg9]; exact hb8.size⟩)
              have HS9 := Lib.hid (show g9 = w8.heap.size ∧ W9 = w8.alloc _ from ⟨hg9, hW9⟩)
              clear hB9 hb79 hg9 hW9 hb8 y0 y1
              go_upto_region 17 with (refine gate_ (.store 66 (.tmp 20) (.tmp 75)) rfl ?_; rw [← HS9.out.1, ← HS9.out.2]; refine store_blk2 (m := mc) rfl rfl rfl rfl rfl HL.out.1 (by rw [HMC.out.2.1]; rfl) (by rw [HMC.out.2.1]; kernel_rfl) ?_; intro w10 hk10 hb10 hf10; have HF10 := Lib.hid (show Rd w10 (some ⟨g9, 0, none⟩) 32 mc ∧ Below W7.heap.size W7 w10 from ⟨by have hr := hk10.row (by rw [HMC.out.2.1]; decide); rw [HMC.out.2.1] at hr; exact hr, hb10 _ _ HL.out.2.1 HL.out.2.2⟩); clear hk10 hb10 hf10)
              have H10 := Lib.hid (show Rd w10 A4 M.length M ∧ Below w.heap.size w w10 ∧ RdOwn w10 g0 g1 ∧ Whole w10 g5 24 #[.string ca, .string cb, .int .i64 cu] from ⟨Kd.C_below H8.out.2.2.2.2.2.1 HF10.out.2, below_step H8.out.2.2.2.1 HF10.out.2, H8.out.2.2.2.2.1.below HF10.out.2, H8.out.2.2.2.2.2.2.below HF10.out.2 H8.out.2.2.2.2.2.2.lt⟩)
              go_wp2_with fail
              refine (Same_calls _ _ M _ _ mc _ H10.out.1 HF10.out.1 HY.out.2.1 HMC.out.2.2).mono ?_
              rintro e w11 ⟨rfl, hd11⟩
              have H11 := Lib.hid (show Below w.heap.size w w11 ∧ RdOwn w11 g0 g1 ∧ Whole w11 g5 24 #[.string ca, .string cb, .int .i64 cu] from ⟨below_step H10.out.2.1 hd11.below, H10.out.2.2.1.below hd11.below, H10.out.2.2.2.below hd11.below H10.out.2.2.2.lt⟩)
              clear hd11
              by_cases hsame : M = mc
              · have HT := Lib.hid (show tokS ⟨sid, sk⟩ ⟨ca, cb, cu⟩ = s from tok_of HF.out.2.2.1 HB.out HMM.out _ _ (by rw [HID.out]; exact HFO.out.1) (by rw [hsame]; exact HMC.out.1.symm))
                rw [decide_eq_true hsame]
                clear hsame
                have u2 := H11.out.2.2.cell 2 _ rfl
                by_cases hnow : cu ≤ now
                · have dnow : decide (cu ≤ now) = true := decide_eq_true hnow
                  have HNW := Lib.hid hnow
                  clear hnow
                  have q0 := H11.out.2.1.2.cell 0 _ rfl
                  have q1 := H11.out.2.1.2.cell 1 _ rfl
                  have q2 := H11.out.2.1.2.cell 2 _ rfl
                  go_wp2_with (refine gate_ (.store 24 (.tmp 6) (.tmp 84)) rfl ?_; refine store_whole rfl rfl rfl rfl rfl H11.out.2.1.1 rfl (by simp [Value.oneCell']) rfl (by kernel_rfl) ?_; intro w9 hk9 hb9 hf9 hg9)
                  refine bodyPost_ret (results_ct rfl _ _ g0 _ _ _ _ rfl hk9 Tryd.underlying24 rfl (by kernel_rfl)) rfl ?_
                  exact ⟨Clm.none, 101, rfl, RdSpec.over HC.out HK.out.2.1 HFO.out.2.1 HT.out HNW.out, hb9 _ _ H11.out.1 HS.out.2.2.2.1⟩
                · have dnow : decide (cu ≤ now) = false := decide_eq_false hnow
                  have HNW := Lib.hid hnow
                  clear hnow
                  have u0 := H11.out.2.2.cell 0 _ rfl
                  have u1 := H11.out.2.2.cell 1 _ rfl
                  go_wp2_with (refine gate_ (.store 24 (.tmp 6) (.tmp 85)) rfl ?_; refine store_whole rfl rfl rfl rfl rfl H11.out.2.1.1 rfl (by simp [Value.oneCell']) rfl (by kernel_rfl) ?_; intro w9 hk9 hb9 hf9 hg9)
                  refine bodyPost_ret (results_ct rfl _ _ g0 _ _ _ _ rfl hk9 Tryd.underlying24 rfl (by kernel_rfl)) rfl ?_
                  exact ⟨⟨ca, cb, cu⟩, 0, rfl, RdSpec.yes HC.out HK.out.2.1 HFO.out.2.1 HT.out (by have := HNW.out; omega), hb9 _ _ H11.out.1 HS.out.2.2.2.1⟩
              · have HN := Lib.hid (show ∀ k ∈ L, ∀ c, ClmOk c → tokS k c ≠ s from fun k' hk' c hc ht => by
                  have hw := tok_whose HB.out HMM.out k' (by have := checkB_all HC.out k' hk'; omega) c hc ht
                  have hs' := checkB_same HC.out hk' HK.out.2.1 (by rw [hw.1, HCL.out.2.1]; exact HID.out.symm)
                  rw [hs'] at hw
                  exact hsame (hw.2.2.trans HMC.out.1))
                rw [decide_eq_false hsame]
                clear hsame
                have q0 := H11.out.2.1.2.cell 0 _ rfl
                have q1 := H11.out.2.1.2.cell 1 _ rfl
                have q2 := H11.out.2.1.2.cell 2 _ rfl
                go_wp2_with (refine gate_ (.store 24 (.tmp 6) (.tmp 87)) rfl ?_; refine store_whole rfl rfl rfl rfl rfl H11.out.2.1.1 rfl (by simp [Value.oneCell']) rfl (by kernel_rfl) ?_; intro w9 hk9 hb9 hf9 hg9)
                refine bodyPost_ret (results_ct rfl _ _ g0 _ _ _ _ rfl hk9 Tryd.underlying24 rfl (by kernel_rfl)) rfl ?_
                exact ⟨Clm.none, 100, rfl, RdSpec.no HC.out HN.out, hb9 _ _ H11.out.1 HS.out.2.2.2.1⟩
            · have dne : (sid != pid) = true := bne_iff_ne.2 hid
              have dne' : (sid == pid) = false := beq_eq_false_iff_ne.2 hid
              have HR2 := Lib.hid (show (∀ j, j < k + 1 → (L.getD j Sec.none).id ≠ pid) ∧ Below W6.heap.size W6 W7 from ⟨fun j hj => by
                  rcases Nat.lt_or_ge j k with h | h
                  · exact HR.out.1 j h
                  · obtain rfl : j = k := by omega
                    rw [HK.out.1]; exact hid, below_step HR.out.2 H7.out.1⟩)
              clear hid
              go_wp2
              go_roundw
              case rel => exact ⟨k + 1, by go_num, by have := HK.out; omega, HR2⟩
              case measure => have := HK.out; simp [intOf]; omega
          · obtain rfl : k = n := by omega
            have dkn : decide ((k : Int) < k) = false := decide_eq_false (by omega)
            have HN := Lib.hid (show ∀ k ∈ L, ∀ c, ClmOk c → tokS k c ≠ s from fun k' hk' c hc ht => by
                have hw := tok_whose HB.out HMM.out k' (by have := checkB_all HC.out k' hk'; omega) c hc ht
                obtain ⟨i, hi, rfl⟩ := mem_getD hk'
                exact HR.out.1 i (by have := HI.out.2.2.2.2.2.1; omega) (hw.1.trans HCL.out.2.1))
            have q0 := HO.out.2.1.2.cell 0 _ rfl
            have q1 := HO.out.2.1.2.cell 1 _ rfl
            have q2 := HO.out.2.1.2.cell 2 _ rfl
            go_wp2_with (refine gate_ (.store 24 (.tmp 6) (.tmp 87)) rfl ?_; refine store_whole rfl rfl rfl rfl rfl HO.out.2.1.1 rfl (by simp [Value.oneCell']) rfl (by kernel_rfl) ?_; intro w9 hk9 hb9 hf9 hg9)
            refine bodyPost_ret (results_ct rfl _ _ g0 _ _ _ _ rfl hk9 Tryd.underlying24 rfl (by kernel_rfl)) rfl ?_
            exact ⟨Clm.none, 100, rfl, RdSpec.no HC.out HN.out, hb9 _ _ HO.out.1 HS.out.2.2.2.1⟩
end Go.Proofs.YtcgenmogedndjaaDoor
namespace Go.Proofs.YtcgenmogedndjaaDoor
open Go.RowKit Go.Proofs.YtcgenmogedndjaaDoorW.PrintWords
/-- Block g begins with these bytes, and they may be written. -/
def Bw (w : World) (g : Nat) (l : List Int) : Prop := ∀ j, j < l.length → w.cell? ⟨g, j, none⟩ = some (.int .u8 (rd l (j : Nat))) ∧ w.frozen? ⟨g, j, none⟩ = false
theorem Bw.of_bytes (w : World) (s : ByteArray) : Bw (Lib.bytesWorld w 5 s) w.heap.size (bytesOf s) := by
  intro j hj
  rw [bytesOf_length] at hj
  refine ⟨?_, ?_⟩
  · rw [Lib.bytesWorld_cell w _ s j hj, rd_bytesOf]
    unfold bt
    have h2 : ((j : Nat) : Int).toNat < s.size := by rw [Int.toNat_natCast]; exact hj
    rw [dif_pos h2]
    simp [Int.toNat_natCast, List.getD_eq_getElem?_getD, hj]
    rfl
  · have h := Lib.bytesWorld_at_new w 5 s
    have hs : s.size ≤ (Lib.bytesCells w 5 s).size := by unfold Lib.bytesCells; simp
    simp only [World.frozen?, h]
    simp
    omega
theorem Bw.below {w w1 : World} {g B : Nat} {l : List Int} (h : Bw w g l) (hb : Below B w w1) (hg : g < B) : Bw w1 g l := by
  intro j hj
  have := h j hj
  rw [hb.cell (p := ⟨g, j, none⟩) hg, hb.frozen (p := ⟨g, j, none⟩) hg]
  exact this
theorem Bw.set {w : World} {g : Nat} {l : List Int} (h : Bw w g l) (i : Nat) (hi : i < l.length) (x : Int) : Bw (w.setCell ⟨g, i, none⟩ (.int .u8 x)) g (l.set i x) := by
  intro j hj
  rw [List.length_set] at hj
  refine ⟨?_, by rw [World.frozen?_setCell]; exact (h j hj).2⟩
  by_cases e : i = j
  · subst e
    rw [World.cell?_setCell_same (h := (h i hi).1)]
    simp [rd, hi]
  · rw [World.cell?_setCell_other (h := (by intro h'; injection h' with _ h2; exact e h2)), (h j hj).1]
    simp [rd, List.getD_eq_getElem?_getD, e]
theorem Bw.lt {w : World} {g : Nat} {l : List Int} (h : Bw w g l) (h1 : 1 ≤ l.length) : g < w.heap.size := by
  rcases Nat.lt_or_ge g w.heap.size with h2 | h2
  · exact h2
  · have h3 := (h 0 (by omega)).1
    simp [World.cell?, Array.getElem?_eq_none h2] at h3
theorem Bw.reads {w : World} {g : Nat} {l : List Int} (h : Bw w g l) (hm : l.length ≤ 9223372036854775807) : Rd w (some ⟨g, 0, none⟩) l.length l :=
  Rd.mk rfl hm fun j hj => by rw [add_plain]; exact (h j hj).1
end Go.Proofs.YtcgenmogedndjaaDoor
namespace Go.Proofs.YtcgenmogedndjaaDoor
open Go.RowKit Go.Proofs.YtcgenmogedndjaaDoorW.PrintWords
structure Hdr where
  name : ByteArray
  value : ByteArray
def Hdr.none : Hdr := ⟨ByteArray.empty, ByteArray.empty⟩
def hdrK : Kd Hdr := Kd.iso (Kd.pair Kd.string Kd.string) (fun x : Hdr => (x.name, x.value))
abbrev RdH (w : World) (A : Option Addr) (n : Nat) (hs : List Hdr) : Prop := Kd.C hdrK w A n hs
theorem RdH.at {w : World} {A : Option Addr} {n : Nat} {hs : List Hdr} (h : RdH w A n hs) (i : Nat) (hi : i < n) : ∃ ad, A = some ad ∧ w.cell? (ad.add (i * 2)) = some (.string (hs.getD i Hdr.none).name) ∧
    w.cell? ⟨(ad.add (i * 2)).block, (ad.add (i * 2)).off + 1, none⟩ = some (.string (hs.getD i Hdr.none).value) := by
  obtain ⟨ad, c, e, _, hK, hc0⟩ := Kd.C_get h Hdr.none (i : Int) (by omega) (by omega)
  simp only [Int.toNat_natCast] at hK hc0
  have hc : ∀ j u, c[j]? = some u → w.cell? (ad.add (i * 2 + j)) = some u := hc0
  obtain ⟨_, _, rfl, rfl, rfl⟩ := hK
  exact ⟨ad, e, hc 0 _ rfl, by rw [← add_field _ _ 1 (by omega)]; exact hc 1 _ rfl⟩
def HdrOk (hs : List Hdr) : Prop := ∀ h ∈ hs, h.name.size ≤ 1099511627776 ∧ h.value.size ≤ 1099511627776
theorem HdrOk.at {hs : List Hdr} (h : HdrOk hs) (i : Nat) (hi : i < hs.length) : (hs.getD i Hdr.none).name.size ≤ 1099511627776 ∧ (hs.getD i Hdr.none).value.size ≤ 1099511627776 := by
  rw [List.getD_eq_getElem?_getD, List.getElem?_eq_getElem hi]
  exact h _ (List.getElem_mem hi)
end Go.Proofs.YtcgenmogedndjaaDoor
namespace Go.Proofs.YtcgenmogedndjaaDoor
open Go.RowKit Go.ChangeShapes Go.WideShapes Go.Proofs.YtcgenmogedndjaaDoorW.PrintWords
section
variable {H : Type} {enc : TypeId × Value → H} {W : World} {base : Nat} {spare : Nat → Bool} {held : Bool} {fuel : Nat} {cs : List Value} {x : DataW H × List MemPlace}
set_option maxRecDepth 100000 in
theorem open_secs (h : DataW.trod enc Tryd.prog W base spare held fuel 22 cs = some x) : ∃ (A : Option Addr) (n c : Nat) (L : List Sec), cs = [.slice A n c] ∧ RdS W A n L ∧ n ≤ c ∧ SecOk L := by
  rcases Deep.open_slice_pairs Tryd.underlying22 Tryd.underlying42 (by kernel_rfl) rfl rfl (by kernel_rfl) (by kernel_rfl) h with ⟨rfl, _⟩ | ⟨a, len, cap, m, k, V0, V1, D0, D1, P0, P1, rfl, _, hl, hm, hmm, _, hx⟩
  · exact ⟨none, 0, 0, [], rfl, Kd.C_nil _ _, Nat.le_refl _, fun _ h => by cases h⟩
  have hlm : len ≤ m := by rw [hmm]; split <;> omega
  have each : ∀ i, i < len → ∃ q : Int × (Option Addr × Nat × List Int), W.cell? (a.add (i * 2)) = some (.int .i64 q.1) ∧ W.cell? (a.add (i * 2 + 1)) = some (.slice q.2.1 q.2.2.2.length q.2.2.1) ∧ (Lit.int .i64 q.1).wf = true ∧ Rd W q.2.1 q.2.2.2.length q.2.2.2 ∧ q.2.2.2.length ≤ q.2.2.1 ∧ Bytes q.2.2.2 := by
    intro i hi
    obtain ⟨h0, h1, h2, h3⟩ := hx i (by omega)
    obtain ⟨y0, e0, _, hw⟩ := DataW.trod_int Tryd.underlying3 h2
    obtain ⟨Ai, n, c, l, e1, hr, hc, hb⟩ := open_bytes_cell h3
    simp only [List.cons.injEq, and_true] at e0 e1
    have hln := Kd.C_len hr
    subst hln
    exact ⟨(y0, Ai, c, l), by rw [h0, e0], by rw [h1, e1], hw, hr, hc, hb⟩
  obtain ⟨q, hq⟩ := Deep.choose_lt each
  refine ⟨some a, len, cap, (List.range len).map fun i => ⟨(q i).1, (q i).2.2.2⟩, rfl, ⟨by simp, by simp only [maxLen] at hm; omega, fun _ => ⟨a, rfl, fun j p hj => ?_⟩⟩, hl, fun s hs => ?_⟩
  · rw [List.getElem?_map] at hj
    have hjl : j < len := by
      rcases Nat.lt_or_ge j len with h | h
      · exact h
      · rw [List.getElem?_eq_none (by simpa using h)] at hj
        cases hj
    rw [List.getElem?_range hjl] at hj
    simp only [Option.map_some, Option.some.injEq] at hj
    subst hj
    obtain ⟨h0, h1, _, hr, hc, _⟩ := hq j hjl
    refine ⟨[.int .i64 (q j).1, .slice (q j).2.1 (q j).2.2.2.length (q j).2.2.1], rfl, ⟨[.int .i64 (q j).1], [.slice (q j).2.1 (q j).2.2.2.length (q j).2.2.1], rfl, rfl, ⟨(q j).2.1, (q j).2.2.1, rfl, hc, hr⟩⟩, fun i u hu => ?_⟩
    rcases i with _ | _ | i
    · rw [show secK.sz = 2 from rfl, Nat.add_zero, h0]
      simpa using hu
    · rw [show secK.sz = 2 from rfl, h1]
      simpa using hu
    · simp at hu
  · obtain ⟨i, hi, rfl⟩ := List.mem_map.1 hs
    obtain ⟨_, _, hw, _, _, hb⟩ := hq i (List.mem_range.1 hi)
    exact ⟨hb, wf_i64 hw⟩
set_option maxRecDepth 100000 in
theorem open_hdrs (h : DataW.trod enc Tryd.prog W base spare held fuel 48 cs = some x) : ∃ (A : Option Addr) (n c : Nat) (L : List Hdr), cs = [.slice A n c] ∧ RdH W A n L ∧ ∀ h ∈ L, h.name.size ≤ 9223372036854775807 ∧ h.value.size ≤ 9223372036854775807 := by
  rcases Deep.open_slice_pairs Tryd.underlying48 Tryd.underlying52 (by kernel_rfl) rfl rfl (by kernel_rfl) (by kernel_rfl) h with ⟨rfl, _⟩ | ⟨a, len, cap, m, k, V0, V1, D0, D1, P0, P1, rfl, _, hl, hm, hmm, _, hx⟩
  · exact ⟨none, 0, 0, [], rfl, Kd.C_nil _ _, fun _ h => by cases h⟩
  have hlm : len ≤ m := by rw [hmm]; split <;> omega
  have each : ∀ i, i < len → ∃ q : ByteArray × ByteArray, W.cell? (a.add (i * 2)) = some (.string q.1) ∧ W.cell? (a.add (i * 2 + 1)) = some (.string q.2) ∧ q.1.size ≤ 9223372036854775807 ∧ q.2.size ≤ 9223372036854775807 := by
    intro i hi
    obtain ⟨h0, h1, h2, h3⟩ := hx i (by omega)
    obtain ⟨y0, e0, _, z0⟩ := DataW.trod_string Tryd.underlying9 h2
    obtain ⟨y1, e1, _, z1⟩ := DataW.trod_string Tryd.underlying9 h3
    simp only [List.cons.injEq, and_true] at e0 e1
    exact ⟨(y0, y1), by rw [h0, e0], by rw [h1, e1], z0, z1⟩
  obtain ⟨q, hq⟩ := Deep.choose_lt each
  refine ⟨some a, len, cap, (List.range len).map fun i => ⟨(q i).1, (q i).2⟩, rfl, ⟨by simp, by simp only [maxLen] at hm; omega, fun _ => ⟨a, rfl, fun j p hj => ?_⟩⟩, fun s hs => ?_⟩
  · rw [List.getElem?_map] at hj
    have hjl : j < len := by
      rcases Nat.lt_or_ge j len with h | h
      · exact h
      · rw [List.getElem?_eq_none (by simpa using h)] at hj
        cases hj
    rw [List.getElem?_range hjl] at hj
    simp only [Option.map_some, Option.some.injEq] at hj
    subst hj
    obtain ⟨h0, h1, _, _⟩ := hq j hjl
    refine ⟨[.string (q j).1, .string (q j).2], rfl, ⟨[.string (q j).1], [.string (q j).2], rfl, rfl, rfl⟩, fun i u hu => ?_⟩
    rcases i with _ | _ | i
    · rw [show hdrK.sz = 2 from rfl, Nat.add_zero, h0]
      simpa using hu
    · rw [show hdrK.sz = 2 from rfl, h1]
      simpa using hu
    · simp at hu
  · obtain ⟨i, hi, rfl⟩ := List.mem_map.1 hs
    obtain ⟨_, _, z0, z1⟩ := hq i (List.mem_range.1 hi)
    exact ⟨z0, z1⟩
set_option maxRecDepth 100000 in
theorem open_claim {r : Reach} {b0 : Nat} {v : Value} {d : DataW H} {p : List MemPlace} (hv : Value.okWide Tryd.prog W r b0 24 v) (h : DataW.Trod enc Tryd.prog W base spare held 24 v d p) :
    ∃ (a b : ByteArray) (u : Int), v = .agg #[.string a, .string b, .int .i64 u] ∧ a.size ≤ 9223372036854775807 ∧ b.size ≤ 9223372036854775807 ∧ (-9223372036854775808 ≤ u ∧ u ≤ 9223372036854775807) := by
  obtain ⟨v0, v1, v2, y0, y1, y2, k, rfl, _, _, h0, h1, h2⟩ := Joins.open_agg3 Tryd.underlying24 (by kernel_rfl) (by kernel_rfl) hv h
  obtain ⟨a, e0, _, z0⟩ := DataW.trod_string Tryd.underlying9 h0
  obtain ⟨b, e1, _, z1⟩ := DataW.trod_string Tryd.underlying9 h1
  obtain ⟨u, e2, _, z2⟩ := DataW.trod_int Tryd.underlying3 h2
  simp only [List.cons.injEq, and_true] at e0 e1 e2
  subst e0 e1 e2
  exact ⟨a, b, u, rfl, z0, z1, wf_i64 z2⟩
set_option maxRecDepth 100000 in
theorem open_req {r : Reach} {b0 : Nat} {v : Value} {d : DataW H} {p : List MemPlace} (hv : Value.okWide Tryd.prog W r b0 50 v) (h : DataW.Trod enc Tryd.prog W base spare held 50 v d p) :
    ∃ (me pa : ByteArray) (A : Option Addr) (n c : Nat) (bd : Value) (L : List Hdr), v = .agg #[.string me, .string pa, .slice A n c, bd] ∧ RdH W A n L ∧ ∀ h ∈ L, h.name.size ≤ 9223372036854775807 ∧ h.value.size ≤ 9223372036854775807 := by
  obtain ⟨v0, v1, v2, v3, y0, y1, y2, y3, k, rfl, _, _, h0, h1, h2, h3⟩ := Joins.open_agg4 Tryd.underlying50 (by kernel_rfl) (by kernel_rfl) hv h
  obtain ⟨a, e0, _, z0⟩ := DataW.trod_string Tryd.underlying9 h0
  obtain ⟨b, e1, _, z1⟩ := DataW.trod_string Tryd.underlying9 h1
  obtain ⟨A, n, c, L, e2, hr, hz⟩ := open_hdrs h2
  simp only [List.cons.injEq, and_true] at e0 e1 e2
  subst e0 e1 e2
  exact ⟨a, b, A, n, c, v3, L, rfl, hr, hz⟩
end
end Go.Proofs.YtcgenmogedndjaaDoor
