/- The texts AuthReadRef, AuthPlain in one. -/
import Derived.Test.YtcgenmogedndjaaDoorG14
import Derived.Test.YtcgenmogedndjaaDoorG18
import Derived.Test.YtcgenmogedndjaaDoorG26
import Derived.Test.YtcgenmogedndjaaDoorG28
namespace Go.Proofs.YtcgenmogedndjaaDoor
open Go.RowKit Go.Proofs.YtcgenmogedndjaaDoorW.PrintWords
theorem no_tok_front {s : ByteArray} (h : unRun ((bytesOf s).take (dotAt (bytesOf s))) 0 0 [] = none) (k : Sec) (c : Clm) : tokS k c ≠ s := by
  rintro rfl
  obtain ⟨a, b, _⟩ := tok_parts k c
  unfold frontL at b
  rw [front_bytes a, h] at b
  cases b
theorem tok_front {s : ByteArray} {P : List Int} (h : unRun ((bytesOf s).take (dotAt (bytesOf s))) 0 0 [] = some P) (k : Sec) (hk : 0 ≤ k.id ∧ k.id ≤ 1099511627776) (c : Clm) (hc : ClmOk c) (ht : tokS k c = s) : P = payL k.id c ∧ k.id = idOf P ∧ c = clmOf P := by
  subst ht
  obtain ⟨a, b, _⟩ := tok_parts k c
  unfold frontL at b
  rw [front_bytes a, h] at b
  obtain rfl := Option.some.inj b
  obtain ⟨_, a1, a2⟩ := parse_pay k.id c hk hc
  exact ⟨rfl, a1.symm, a2.symm⟩
theorem no_tok_four {s : ByteArray} {P : List Int} (h : unRun ((bytesOf s).take (dotAt (bytesOf s))) 0 0 [] = some P) (h4 : ¬ ((readNum P).2.2 = 0 ∧ (readText (P.drop (at1 P)) 24).2.2 = 0 ∧ (readText (P.drop (at2 P)) 24).2.2 = 0 ∧ (readNum (P.drop (at3 P))).2.2 = 0)) (k : Sec) (hk : 0 ≤ k.id ∧ k.id ≤ 1099511627776) (c : Clm) (hc : ClmOk c) : tokS k c ≠ s := by
  intro ht
  obtain ⟨rfl, _, _⟩ := tok_front h k hk c hc ht
  obtain ⟨a1, _, a2, _, a3, _, a4, _⟩ := payL_parts k.id c hk hc
  exact h4 ⟨by rw [a1], by rw [a2], by rw [a3], by rw [a4]⟩
theorem no_tok_clm {s : ByteArray} {P : List Int} (h : unRun ((bytesOf s).take (dotAt (bytesOf s))) 0 0 [] = some P) (hE : clmE (clmOf P) ≠ 0) (k : Sec) (hk : 0 ≤ k.id ∧ k.id ≤ 1099511627776) (c : Clm) (hc : ClmOk c) : tokS k c ≠ s := by
  intro ht
  obtain ⟨_, _, rfl⟩ := tok_front h k hk c hc ht
  exact hE ((clmE_iff _).2 hc)
set_option maxRecDepth 20000 in
set_option maxHeartbeats 6400000 in
theorem AuthReadRef_calls {n : Nat} (A0 : Option Addr) (c0 : Nat) (L : List Sec) (now : Int) (s : ByteArray) (w : World) (hr0 : RdS w A0 n L) (hok : SecOk L) (hs : s.size ≤ 1073741824) :
    Calls Tryd.prog 23 #[.slice A0 n c0, .int .i64 now, .string s] w (ReadPost L now s w) := by
  have hlen : L.length = n := Kd.C_len hr0
  have hmax := Kd.C_max hr0
  obtain ⟨g0, hg0⟩ : ∃ g, g = w.heap.size := ⟨_, rfl⟩
  obtain ⟨W0, hW0⟩ : ∃ W0, W0 = w.alloc (.cells #[.string ⟨#[]⟩, .string ⟨#[]⟩, .int .i64 0] 24) := ⟨_, rfl⟩
  have hb0 : Below w.heap.size w W0 := by rw [hW0]; exact below_alloc (Below.refl _ _) _
  have hp0 : Whole W0 g0 24 #[.string ⟨#[]⟩, .string ⟨#[]⟩, .int .i64 0] := by rw [hW0, hg0]; exact Whole.new w _ _
  have HS := Lib.hid (show g0 = w.heap.size ∧ W0 = w.alloc _ ∧ w.heap.size ≤ g0 from ⟨hg0, hW0, by rw [hg0]; exact Nat.le_refl _⟩)
  have HI := Lib.hid (show RdS W0 A0 n L ∧ SecOk L ∧ s.size ≤ 1073741824 ∧ Below w.heap.size w W0 ∧ L.length = n ∧ n ≤ 9223372036854775807 ∧ Whole W0 g0 24 #[.string ⟨#[]⟩, .string ⟨#[]⟩, .int .i64 0] from ⟨Kd.C_below hr0 hb0, hok, hs, hb0, hlen, hmax, hp0⟩)
  have HY0 := Lib.hid (Bytes_bytesOf s)
  have HL0 := Lib.hid (bytesOf_length s)
  obtain ⟨d, hd⟩ : ∃ d, d = dotAt (bytesOf s) := ⟨_, rfl⟩
  have hds : d ≤ s.size := by rw [hd, ← bytesOf_length]; exact dotAt_le _
  have hsz := hs
  have HD := Lib.hid (show d = dotAt (bytesOf s) ∧ d ≤ s.size from ⟨hd, hds⟩)
  clear hr0 hok hlen hmax hg0 hb0 hp0 hW0 hd hs
  go_enter Tryd.func23, Tryd.ntmps23
  go_wp2_with fail
  rw [← HS.out.1, ← HS.out.2.1]
  refine (CheckRef_calls _ _ _ _ HI.out.1).mono ?_
  rintro e w1 ⟨rfl, hb1⟩
  have H1 := Lib.hid (show Below w.heap.size w w1 ∧ Whole w1 g0 24 #[.string ⟨#[]⟩, .string ⟨#[]⟩, .int .i64 0] ∧ Below W0.heap.size W0 w1 from ⟨below_step HI.out.2.2.2.1 hb1, HI.out.2.2.2.2.2.2.below hb1 HI.out.2.2.2.2.2.2.lt, hb1⟩)
  clear hb1
  cases hc : checkB L with
  | false =>
    have HC := Lib.hid hc
    rw [checkE_no hc]
    clear hc
    go_wp2_with (refine gate_ (.store 24 (.tmp 6) (.tmp 26)) rfl ?_; refine store_whole rfl rfl rfl rfl rfl H1.out.2.1 rfl (by simp [Value.oneCell']) rfl (by kernel_rfl) ?_; intro w9 hk9 hb9 hf9 hg9)
    refine bodyPost_ret (results_ct rfl _ _ g0 _ _ _ _ rfl hk9 Tryd.underlying24 rfl (by kernel_rfl)) rfl ?_
    exact ⟨Clm.none, 102, rfl, RdSpec.check HC.out, hb9 _ _ H1.out.1 HS.out.2.2⟩
  | true =>
    have HC := Lib.hid hc
    rw [checkE_yes hc]
    clear hc
    go_upto_block 0 with (fail)
    go_cut [8] (fun v wc => v = .int .i64 (d : Int) ∧ wc = w1)
    case first =>
      go_wp2
      go_loop [8] (fun v => ∃ k : Nat, v = .int .i64 k ∧ k ≤ s.size ∧ Hid (∀ j, j < k → rd (bytesOf s) (j : Nat) ≠ 46)) (fun v => s.size - (intOf v).toNat)
      case atStart => exact ⟨0, rfl, by omega, Lib.hid (fun j hj => by omega)⟩
      case round =>
        obtain ⟨k, rfl, hk, HA⟩ := hrel
        by_cases hkn : k < s.size
        · have dkn : decide ((k : Int) < s.size) = true := decide_eq_true (by omega)
          obtain ⟨x, hx⟩ : ∃ x, x = rd (bytesOf s) k := ⟨_, rfl⟩
          have hbt : ∀ h : (k : Int).toNat < s.size, ((s[(k : Int).toNat]'h).toNat : Int) = x := fun h => by rw [hx, rd_bytesOf]; exact bt_at s k h
          simp only [Int.toNat_natCast] at hbt
          have wk : IntKind.i64.wrap ((k : Int) + 1) = k + 1 := wrap_id (by omega) (by omega)
          have HX := Lib.hid hx
          clear hx
          by_cases h46 : x = 46
          · have HE := Lib.hid (show d = k by rw [HD.out.1]; exact dotAt_eq _ k (by rw [HL0.out]; omega) HA.out (.inr (by rw [← HX.out]; exact h46)))
            subst h46
            go_wp2
            go_meet
            case rel => exact ⟨by rw [HE.out], rfl⟩
          · have d46 : (x != 46) = true := bne_iff_ne.2 h46
            have d46' : (x == 46) = false := beq_eq_false_iff_ne.2 h46
            have HA2 := Lib.hid (show ∀ j, j < k + 1 → rd (bytesOf s) (j : Nat) ≠ 46 from fun j hj => by
              rcases Nat.lt_or_ge j k with h | h
              · exact HA.out j h
              · obtain rfl : j = k := by omega
                rw [← HX.out]; exact h46)
            clear h46
            go_wp2
            go_round
            case rel => exact ⟨k + 1, by go_num, by omega, HA2⟩
            case measure => simp [intOf]; omega
        · obtain rfl : k = s.size := by omega
          have dkn : decide ((s.size : Int) < s.size) = false := decide_eq_false (by omega)
          have HE := Lib.hid (show d = s.size by rw [HD.out.1]; exact dotAt_eq _ s.size (by rw [HL0.out]; omega) HA.out (.inl HL0.out.symm))
          go_wp2
          go_meet
          case rel => exact ⟨by rw [HE.out], rfl⟩
    case rest =>
      obtain ⟨rfl, rfl⟩ := hcut
      have i0 : (0 : Int) ≤ d := by omega
      have i1 : (d : Int) ≤ s.size := by omega
      obtain ⟨F, hF⟩ : ∃ F, F = s.extract 0 d := ⟨_, rfl⟩
      have hFb : bytesOf F = (bytesOf s).take (dotAt (bytesOf s)) := by rw [hF, bytesOf_extract, List.drop_zero, Nat.sub_zero, HD.out.1]
      have hFs : F.size ≤ 1073741824 := by rw [← bytesOf_length, hFb, List.length_take, HL0.out]; omega
      have HF := Lib.hid (show s.extract 0 d = F ∧ bytesOf F = (bytesOf s).take (dotAt (bytesOf s)) ∧ F.size ≤ 1073741824 from ⟨hF.symm, hFb, hFs⟩)
      clear hF hFb hFs
      go_wp2_with fail
      rw [HF.out.1]
      refine (UnspellRef_calls F _ (by have := HF.out; omega)).mono ?_
      rintro e w3 ⟨v3, rfl, ho3, hb3⟩
      rw [HF.out.2.1] at ho3 ⊢
      obtain ⟨A3, c3, rfl, hc3, hr3⟩ := ho3.reads
      obtain ⟨U, hU⟩ : ∃ U, U = unRun ((bytesOf s).take (dotAt (bytesOf s))) 0 0 [] := ⟨_, rfl⟩
      rw [← hU] at hr3 hc3 ⊢
      have HU := Lib.hid hU
      have H3 := Lib.hid (show Below w.heap.size w w3 ∧ Whole w3 g0 24 #[.string ⟨#[]⟩, .string ⟨#[]⟩, .int .i64 0] ∧ Below W0.heap.size W0 w3 from ⟨below_step H1.out.1 hb3, H1.out.2.1.below hb3 H1.out.2.1.lt, below_step H1.out.2.2 hb3⟩)
      clear ho3 hb3 hU
      cases U with
      | none =>
        have HN := Lib.hid (show ∀ k ∈ L, ∀ c, ClmOk c → tokS k c ≠ s from fun k _ c _ => no_tok_front HU.out.symm k c)
        rw [show (none : Option (List Int)).isSome = false from rfl]
        clear hr3 hc3
        go_wp2_with (refine gate_ (.store 24 (.tmp 6) (.tmp 48)) rfl ?_; refine store_whole rfl rfl rfl rfl rfl H3.out.2.1 rfl (by simp [Value.oneCell']) rfl (by kernel_rfl) ?_; intro w9 hk9 hb9 hf9 hg9)
        refine bodyPost_ret (results_ct rfl _ _ g0 _ _ _ _ rfl hk9 Tryd.underlying24 rfl (by kernel_rfl)) rfl ?_
        exact ⟨Clm.none, 100, rfl, RdSpec.no HC.out HN.out, hb9 _ _ H3.out.1 HS.out.2.2⟩
      | some P =>
        rw [show (some P).isSome = true from rfl]
        have hr3' : Rd w3 A3 P.length P := hr3
        have hc3' : P.length ≤ c3 := hc3
        rw [show (some P).getD [] = P from rfl]
        clear hr3 hc3
        have hsp := spelt_unRun _ _ (HY0.out.tk _) HU.out.symm
        have hl1 : P.length ≤ 1073741824 := by have h1 := congrArg List.length hsp.1; rw [sp3_length, List.length_take, HL0.out] at h1; omega
        have hy := hsp.2
        obtain ⟨g2, hg2⟩ : ∃ g, g = w3.heap.size := ⟨_, rfl⟩
        obtain ⟨W4, hW4⟩ : ∃ W, W = w3.alloc (.cells #[.slice A3 P.length c3, .int .i64 0] 73) := ⟨_, rfl⟩
        have hb4 : Below w3.heap.size w3 W4 := by rw [hW4]; exact below_alloc (Below.refl _ _) _
        have hcur : RCur W4 g2 A3 P.length c3 P 0 := ⟨by rw [hW4, hg2]; exact heap_alloc_new w3 _, Kd.C_below hr3' hb4, fun ad he hp => by
          subst he
          obtain ⟨ad', e', hcell⟩ := Rd.cells hr3' hp
          cases e'
          have := World.block_lt_of_cell? w3 _ (hcell 0 hp)
          rw [addr_block] at this
          omega, hc3', Nat.zero_le _⟩
        have H4 := Lib.hid (show Below w.heap.size w W4 ∧ Whole W4 g0 24 #[.string ⟨#[]⟩, .string ⟨#[]⟩, .int .i64 0] ∧ Below W0.heap.size W0 W4 ∧ RCur W4 g2 A3 P.length c3 P 0 ∧ g0 ≠ g2 ∧ w.heap.size ≤ g2 ∧ W0.heap.size ≤ g2 from ⟨below_step H3.out.1 hb4, H3.out.2.1.below hb4 H3.out.2.1.lt, below_step H3.out.2.2 hb4, hcur, by have := H3.out.2.1.lt; omega, by rw [hg2]; exact H3.out.1.size, by rw [hg2]; exact H3.out.2.2.size⟩)
        have HS4 := Lib.hid (show g2 = w3.heap.size ∧ W4 = w3.alloc _ from ⟨hg2, hW4⟩)
        have HY := Lib.hid (show Bytes P ∧ P.length ≤ 140737488355328 ∧ P.length ≤ 1073741824 from ⟨hy, by omega, hl1⟩)
        clear hr3' hc3' hsp hl1 hy hg2 hW4 hb4 hcur
        obtain ⟨N1, hN1⟩ : ∃ N, N = (readNum P).1 := ⟨_, rfl⟩
        obtain ⟨E1, hE1⟩ : ∃ E, E = (readNum P).2.2 := ⟨_, rfl⟩
        obtain ⟨S1, hS1⟩ : ∃ S, S = strOfNums (readText (P.drop (at1 P)) 24).1 := ⟨_, rfl⟩
        obtain ⟨E2, hE2⟩ : ∃ E, E = (readText (P.drop (at1 P)) 24).2.2 := ⟨_, rfl⟩
        obtain ⟨S2, hS2⟩ : ∃ S, S = strOfNums (readText (P.drop (at2 P)) 24).1 := ⟨_, rfl⟩
        obtain ⟨E3, hE3⟩ : ∃ E, E = (readText (P.drop (at2 P)) 24).2.2 := ⟨_, rfl⟩
        obtain ⟨N2, hN2⟩ : ∃ N, N = (readNum (P.drop (at3 P))).1 := ⟨_, rfl⟩
        obtain ⟨E4, hE4⟩ : ∃ E, E = (readNum (P.drop (at3 P))).2.2 := ⟨_, rfl⟩
        have hsz1 : S1.size ≤ 24 := by rw [hS1, strOf_size]; exact readText_max _
        have hsz2 : S2.size ≤ 24 := by rw [hS2, strOf_size]; exact readText_max _
        have HZ := Lib.hid (And.intro hsz1 hsz2)
        have HE := Lib.hid (show E1 = (readNum P).2.2 ∧ E2 = (readText (P.drop (at1 P)) 24).2.2 ∧ E3 = (readText (P.drop (at2 P)) 24).2.2 ∧ E4 = (readNum (P.drop (at3 P))).2.2 from ⟨hE1, hE2, hE3, hE4⟩)
        have HCL := Lib.hid (show clmOf P = ⟨S1, S2, N2⟩ ∧ idOf P = N1 from ⟨by unfold clmOf; rw [hS1, hS2, hN2], hN1.symm⟩)
        have HNS := Lib.hid (show N1 = (readNum P).1 ∧ S1 = strOfNums (readText (P.drop (at1 P)) 24).1 ∧ S2 = strOfNums (readText (P.drop (at2 P)) 24).1 ∧ N2 = (readNum (P.drop (at3 P))).1 from ⟨hN1, hS1, hS2, hN2⟩)
        clear hsz1 hsz2 hE1 hE2 hE3 hE4 hN1 hS1 hS2 hN2
        go_wp2_with fail
        rw [← HS4.out.1, ← HS4.out.2]
        refine (RNumber_calls _ H4.out.2.2.2.1 HY.out.1 HY.out.2.1).mono ?_
        rintro e w5 ⟨rfl, hc5, hg5⟩
        rw [List.drop_zero] at hc5 ⊢
        rw [Nat.zero_add] at hc5
        rw [← HNS.out.1, ← HE.out.1]
        have H5 := Lib.hid (show RCur w5 g2 A3 P.length c3 P (at1 P) ∧ W4.grownBy w5 (some g2) from ⟨hc5, hg5⟩)
        clear hc5 hg5
        go_wp2_with fail
        refine (RText_calls 24 _ H5.out.1 HY.out.1 HY.out.2.1).mono ?_
        rintro e w6 ⟨rfl, hc6, hg6⟩
        rw [← HNS.out.2.1, ← HE.out.2.1]
        have H6 := Lib.hid (show RCur w6 g2 A3 P.length c3 P (at2 P) ∧ W4.grownBy w6 (some g2) from ⟨hc6, Lib.grownBy_trans H5.out.2 hg6⟩)
        clear hc6 hg6
        go_wp2_with fail
        refine (RText_calls 24 _ H6.out.1 HY.out.1 HY.out.2.1).mono ?_
        rintro e w7 ⟨rfl, hc7, hg7⟩
        rw [← HNS.out.2.2.1, ← HE.out.2.2.1]
        have H7 := Lib.hid (show RCur w7 g2 A3 P.length c3 P (at3 P) ∧ W4.grownBy w7 (some g2) from ⟨hc7, Lib.grownBy_trans H6.out.2 hg7⟩)
        clear hc7 hg7
        go_wp2_with fail
        refine (RNumber_calls _ H7.out.1 HY.out.1 HY.out.2.1).mono ?_
        rintro e w8 ⟨rfl, hc8, hg8⟩
        rw [← HNS.out.2.2.2, ← HE.out.2.2.2]
        have hg8' := Lib.grownBy_trans H7.out.2 hg8
        have H8 := Lib.hid (show Below w.heap.size w w8 ∧ Whole w8 g0 24 #[.string ⟨#[]⟩, .string ⟨#[]⟩, .int .i64 0] ∧ Below W0.heap.size W0 w8 from ⟨Below.grown H4.out.1 hg8' H4.out.1.size (fun k hk => by cases hk; exact H4.out.2.2.2.2.2.1), H4.out.2.1.grown hg8' (by intro e; injection e with e; exact H4.out.2.2.2.2.1 e), Below.grown H4.out.2.2.1 hg8' H4.out.2.2.1.size (fun k hk => by cases hk; exact H4.out.2.2.2.2.2.2)⟩)
        clear hc8 hg8 hg8'
        obtain ⟨g3, hg3⟩ : ∃ g, g = w8.heap.size := ⟨_, rfl⟩
        obtain ⟨W9, hW9⟩ : ∃ W, W = w8.alloc (.cells #[.string S1, .string S2, .int .i64 N2] 24) := ⟨_, rfl⟩
        have hb9 : Below w8.heap.size w8 W9 := by rw [hW9]; exact below_alloc (Below.refl _ _) _
        have hwc : Whole W9 g3 24 #[.string S1, .string S2, .int .i64 N2] := by rw [hW9, hg3]; exact Whole.new w8 _ _
        have H9 := Lib.hid (show Below w.heap.size w W9 ∧ Whole W9 g0 24 #[.string ⟨#[]⟩, .string ⟨#[]⟩, .int .i64 0] ∧ Below W0.heap.size W0 W9 ∧ Whole W9 g3 24 #[.string S1, .string S2, .int .i64 N2] from ⟨below_step H8.out.1 hb9, H8.out.2.1.below hb9 H8.out.2.1.lt, below_step H8.out.2.2 hb9, hwc⟩)
        have HS9 := Lib.hid (show g3 = w8.heap.size ∧ W9 = w8.alloc _ from ⟨hg3, hW9⟩)
        clear hb9 hwc hg3 hW9
        go_upto_region 15 with (fail)
        rw [← HS9.out.1, ← HS9.out.2]
        by_cases e1 : E1 = 0
        case' neg =>
          have f1 : (E1 == 0) = false := beq_eq_false_iff_ne.2 e1
          have f1' : (E1 != 0) = true := bne_iff_ne.2 e1
          have HN := Lib.hid (show ∀ k ∈ L, ∀ c, ClmOk c → tokS k c ≠ s from fun k hk c hc => no_tok_four HU.out.symm (fun h => e1 (by have := HE.out; omega)) k (by have := checkB_all HC.out k hk; omega) c hc)
          clear e1
          go_wp2_with (refine gate_ (.store 24 (.tmp 6) (.tmp 90)) rfl ?_; refine store_whole rfl rfl rfl rfl rfl H9.out.2.1 rfl (by simp [Value.oneCell']) rfl (by kernel_rfl) ?_; intro w9 hk9 hb9 hf9 hg9)
          refine bodyPost_ret (results_ct rfl _ _ g0 _ _ _ _ rfl hk9 Tryd.underlying24 rfl (by kernel_rfl)) rfl ?_
          exact ⟨Clm.none, 100, rfl, RdSpec.no HC.out HN.out, hb9 _ _ H9.out.1 HS.out.2.2⟩
        have f1 : (E1 == 0) = true := beq_iff_eq.2 e1
        have f1' : (E1 != 0) = false := bne_eq_false_iff_eq.2 e1
        by_cases e2 : E2 = 0
        case' neg =>
          have f2 : (E2 == 0) = false := beq_eq_false_iff_ne.2 e2
          have f2' : (E2 != 0) = true := bne_iff_ne.2 e2
          have HN := Lib.hid (show ∀ k ∈ L, ∀ c, ClmOk c → tokS k c ≠ s from fun k hk c hc => no_tok_four HU.out.symm (fun h => e2 (by have := HE.out; omega)) k (by have := checkB_all HC.out k hk; omega) c hc)
          clear e1 e2
          go_wp2_with (refine gate_ (.store 24 (.tmp 6) (.tmp 90)) rfl ?_; refine store_whole rfl rfl rfl rfl rfl H9.out.2.1 rfl (by simp [Value.oneCell']) rfl (by kernel_rfl) ?_; intro w9 hk9 hb9 hf9 hg9)
          refine bodyPost_ret (results_ct rfl _ _ g0 _ _ _ _ rfl hk9 Tryd.underlying24 rfl (by kernel_rfl)) rfl ?_
          exact ⟨Clm.none, 100, rfl, RdSpec.no HC.out HN.out, hb9 _ _ H9.out.1 HS.out.2.2⟩
        have f2 : (E2 == 0) = true := beq_iff_eq.2 e2
        have f2' : (E2 != 0) = false := bne_eq_false_iff_eq.2 e2
        by_cases e3 : E3 = 0
        case' neg =>
          have f3 : (E3 == 0) = false := beq_eq_false_iff_ne.2 e3
          have f3' : (E3 != 0) = true := bne_iff_ne.2 e3
          have HN := Lib.hid (show ∀ k ∈ L, ∀ c, ClmOk c → tokS k c ≠ s from fun k hk c hc => no_tok_four HU.out.symm (fun h => e3 (by have := HE.out; omega)) k (by have := checkB_all HC.out k hk; omega) c hc)
          clear e1 e2 e3
          go_wp2_with (refine gate_ (.store 24 (.tmp 6) (.tmp 90)) rfl ?_; refine store_whole rfl rfl rfl rfl rfl H9.out.2.1 rfl (by simp [Value.oneCell']) rfl (by kernel_rfl) ?_; intro w9 hk9 hb9 hf9 hg9)
          refine bodyPost_ret (results_ct rfl _ _ g0 _ _ _ _ rfl hk9 Tryd.underlying24 rfl (by kernel_rfl)) rfl ?_
          exact ⟨Clm.none, 100, rfl, RdSpec.no HC.out HN.out, hb9 _ _ H9.out.1 HS.out.2.2⟩
        have f3 : (E3 == 0) = true := beq_iff_eq.2 e3
        have f3' : (E3 != 0) = false := bne_eq_false_iff_eq.2 e3
        by_cases e4 : E4 = 0
        case' neg =>
          have f4 : (E4 == 0) = false := beq_eq_false_iff_ne.2 e4
          have f4' : (E4 != 0) = true := bne_iff_ne.2 e4
          have HN := Lib.hid (show ∀ k ∈ L, ∀ c, ClmOk c → tokS k c ≠ s from fun k hk c hc => no_tok_four HU.out.symm (fun h => e4 (by have := HE.out; omega)) k (by have := checkB_all HC.out k hk; omega) c hc)
          clear e1 e2 e3 e4
          go_wp2_with (refine gate_ (.store 24 (.tmp 6) (.tmp 90)) rfl ?_; refine store_whole rfl rfl rfl rfl rfl H9.out.2.1 rfl (by simp [Value.oneCell']) rfl (by kernel_rfl) ?_; intro w9 hk9 hb9 hf9 hg9)
          refine bodyPost_ret (results_ct rfl _ _ g0 _ _ _ _ rfl hk9 Tryd.underlying24 rfl (by kernel_rfl)) rfl ?_
          exact ⟨Clm.none, 100, rfl, RdSpec.no HC.out HN.out, hb9 _ _ H9.out.1 HS.out.2.2⟩
        have f4 : (E4 == 0) = true := beq_iff_eq.2 e4
        have f4' : (E4 != 0) = false := bne_eq_false_iff_eq.2 e4
        have hn1 := readNum_ok P HY.out.1 (by have := HE.out; omega)
        have hn2 := readNum_ok _ (HY.out.1.dp (at3 P)) (by have := HE.out; omega)
        rw [← HNS.out.1] at hn1
        rw [← HNS.out.2.2.2] at hn2
        have HNN := Lib.hid (show (0 ≤ N1 ∧ N1 < 9223372036854775808) ∧ (-9223372036854775808 ≤ N2 ∧ N2 ≤ 9223372036854775807) from ⟨⟨hn1.2.2.1, hn1.2.2.2⟩, by omega, by omega⟩)
        clear e1 e2 e3 e4 hn1 hn2
        have u0 := H9.out.2.2.2.cell 0 _ rfl
        have u1 := H9.out.2.2.2.cell 1 _ rfl
        have u2 := H9.out.2.2.2.cell 2 _ rfl
        go_wp2_with fail
        refine (claim_calls S1 S2 N2 _ (by have := HZ.out; omega) (by have := HZ.out; omega)).mono ?_
        rintro e w10 ⟨rfl, hb10⟩
        have H10 := Lib.hid (show Below w.heap.size w w10 ∧ Whole w10 g0 24 #[.string ⟨#[]⟩, .string ⟨#[]⟩, .int .i64 0] ∧ Below W0.heap.size W0 w10 ∧ Whole w10 g3 24 #[.string S1, .string S2, .int .i64 N2] from ⟨below_step H9.out.1 hb10, H9.out.2.1.below hb10 H9.out.2.1.lt, below_step H9.out.2.2.1 hb10, H9.out.2.2.2.below hb10 H9.out.2.2.2.lt⟩)
        clear hb10 u0 u1 u2
        obtain ⟨CE, hCE⟩ : ∃ E, E = clmE ⟨S1, S2, N2⟩ := ⟨_, rfl⟩
        rw [← hCE]
        have HCE := Lib.hid hCE
        clear hCE
        by_cases e5 : CE = 0
        case' neg =>
          have f5 : (CE == 0) = false := beq_eq_false_iff_ne.2 e5
          have f5' : (CE != 0) = true := bne_iff_ne.2 e5
          have HN := Lib.hid (show ∀ k ∈ L, ∀ c, ClmOk c → tokS k c ≠ s from fun k hk c hc => no_tok_clm HU.out.symm (by rw [HCL.out.1, ← HCE.out]; exact e5) k (by have := checkB_all HC.out k hk; omega) c hc)
          clear e5
          go_wp2_with (refine gate_ (.store 24 (.tmp 6) (.tmp 90)) rfl ?_; refine store_whole rfl rfl rfl rfl rfl H10.out.2.1 rfl (by simp [Value.oneCell']) rfl (by kernel_rfl) ?_; intro w9 hk9 hb9 hf9 hg9)
          refine bodyPost_ret (results_ct rfl _ _ g0 _ _ _ _ rfl hk9 Tryd.underlying24 rfl (by kernel_rfl)) rfl ?_
          exact ⟨Clm.none, 100, rfl, RdSpec.no HC.out HN.out, hb9 _ _ H10.out.1 HS.out.2.2⟩
        subst e5
        have HOK := Lib.hid ((clmE_iff _).1 HCE.out.symm)
        go_wp2
        go_loopw [93] (fun v wi => ∃ k : Nat, v = .int .i64 k ∧ k ≤ n ∧ Hid ((∀ j, j < k → ¬ ((L.getD j Sec.none).id = N1 ∧ tokS (L.getD j Sec.none) ⟨S1, S2, N2⟩ = s)) ∧ Below w10.heap.size w10 wi)) (fun v _ => n - (intOf v).toNat)
        case atStart => exact ⟨0, rfl, by omega, Lib.hid ⟨fun j hj => by omega, Below.refl _ _⟩⟩
        case round =>
          obtain ⟨k, rfl, hk, HR⟩ := hrel
          have HO := Lib.hid (show Below w.heap.size w wr ∧ Whole wr g0 24 #[.string ⟨#[]⟩, .string ⟨#[]⟩, .int .i64 0] ∧ Whole wr g3 24 #[.string S1, .string S2, .int .i64 N2] ∧ RdS wr A0 n L from ⟨below_step H10.out.1 HR.out.2, H10.out.2.1.below HR.out.2 H10.out.2.1.lt, H10.out.2.2.2.below HR.out.2 H10.out.2.2.2.lt, Kd.C_below HI.out.1 (below_step H10.out.2.2.1 HR.out.2)⟩)
          by_cases hkn : k < n
          · have dkn : decide ((k : Int) < n) = true := decide_eq_true (by omega)
            have ikn : (k : Int) < n := by omega
            have hmx := HI.out.2.2.2.2.2.1
            have wk : IntKind.i64.wrap ((k : Int) + 1) = k + 1 := wrap_id (by omega) (by omega)
            clear hmx
            obtain ⟨ad, Ai, ci, rfl, x0, x1, hci, hrd⟩ := RdS.at HO.out.2.2.2 k hkn
            have hki : k < L.length := by have := HI.out.2.2.2.2.1; omega
            have hso := HI.out.2.1.at k hki
            have hsr := checkB_all HC.out _ (getD_mem hki)
            have hsm := getD_mem hki
            obtain ⟨sc, hsc⟩ : ∃ sc, sc = L.getD k Sec.none := ⟨_, rfl⟩
            rw [← hsc] at x0 x1 hci hrd hso hsr hsm
            obtain ⟨sid, sk⟩ := sc
            simp only at x0 x1 hci hrd hso hsr
            have HK := Lib.hid (show L.getD k Sec.none = ⟨sid, sk⟩ ∧ (⟨sid, sk⟩ : Sec) ∈ L ∧ Bytes sk ∧ sk.length ≤ 64 ∧ (-9223372036854775808 ≤ sid ∧ sid ≤ 9223372036854775807) ∧ Rd wr Ai sk.length sk ∧ sk.length ≤ ci ∧ k < n from ⟨hsc.symm, hsm, hso.1, by omega, by omega, hrd, hci, hkn⟩)
            clear hsc hsm hso hsr hrd hci hki hkn
            obtain ⟨g7, hg7⟩ : ∃ g, g = wr.heap.size := ⟨_, rfl⟩
            obtain ⟨W7, hW7⟩ : ∃ W, W = wr.alloc (.cells #[.int .i64 sid, .slice Ai sk.length ci] 42) := ⟨_, rfl⟩
            have hb7 : Below wr.heap.size wr W7 := by rw [hW7]; exact below_alloc (Below.refl _ _) _
            have hws : Whole W7 g7 42 #[.int .i64 sid, .slice Ai sk.length ci] := by rw [hW7, hg7]; exact Whole.new wr _ _
            have HB7 := Lib.hid (show Below wr.heap.size wr W7 ∧ Whole W7 g3 24 #[.string S1, .string S2, .int .i64 N2] from ⟨hb7, HO.out.2.2.1.below hb7 HO.out.2.2.1.lt⟩)
            have HS7 := Lib.hid (show g7 = wr.heap.size ∧ W7 = wr.alloc _ from ⟨hg7, hW7⟩)
            have y0 := hws.cell 0 _ rfl
            have y1 := hws.cell 1 _ rfl
            have u0 := HB7.out.2.cell 0 _ rfl
            have u1 := HB7.out.2.cell 1 _ rfl
            have u2 := HB7.out.2.cell 2 _ rfl
            clear hb7 hws hg7 hW7
            go_upto_region 20 with (fail)
            rw [← HS7.out.1, ← HS7.out.2]
            clear x0 x1
            by_cases hid : sid = N1
            · have dne' : (sid == N1) = true := beq_iff_eq.2 hid
              have HID := Lib.hid hid
              clear hid
              go_wp2_with fail
              refine (token_calls sid Ai ci sk S1 S2 N2 _ (Kd.C_below HK.out.2.2.2.2.2.1 HB7.out.1) HK.out.2.2.1 (by have := HK.out; omega) HK.out.2.2.2.2.1 (by have := HZ.out; omega) (by have := HZ.out; omega) HNN.out.2).mono ?_
              rintro e w11 ⟨rfl, hb11⟩
              have H11 := Lib.hid (show Below w.heap.size w w11 ∧ Whole w11 g0 24 #[.string ⟨#[]⟩, .string ⟨#[]⟩, .int .i64 0] ∧ Whole w11 g3 24 #[.string S1, .string S2, .int .i64 N2] ∧ Below w10.heap.size w10 w11 from by have hbb := below_step HB7.out.1 hb11; exact ⟨below_step HO.out.1 hbb, HO.out.2.1.below hbb HO.out.2.1.lt, HO.out.2.2.1.below hbb HO.out.2.2.1.lt, below_step HR.out.2 hbb⟩)
              clear hb11 y0 y1 u0 u1 u2
              obtain ⟨T, hT⟩ : ∃ T, T = tokS ⟨sid, sk⟩ ⟨S1, S2, N2⟩ := ⟨_, rfl⟩
              rw [← hT]
              have HT := Lib.hid hT
              clear hT
              by_cases hts : T = s
              · have HTS := Lib.hid (show tokS ⟨sid, sk⟩ ⟨S1, S2, N2⟩ = s by rw [← HT.out]; exact hts)
                have dts : (T.toList == s.toList) = true := by rw [hts]; exact beq_self_eq_true _
                clear hts
                by_cases hnow : N2 ≤ now
                · have dnow : decide (N2 ≤ now) = true := decide_eq_true hnow
                  have HNW := Lib.hid hnow
                  clear hnow
                  go_wp2_with (refine gate_ (.store 24 (.tmp 6) (.tmp 111)) rfl ?_; refine store_whole rfl rfl rfl rfl rfl H11.out.2.1 rfl (by simp [Value.oneCell']) rfl (by kernel_rfl) ?_; intro w9 hk9 hb9 hf9 hg9)
                  refine bodyPost_ret (results_ct rfl _ _ g0 _ _ _ _ rfl hk9 Tryd.underlying24 rfl (by kernel_rfl)) rfl ?_
                  exact ⟨Clm.none, 101, rfl, RdSpec.over HC.out HK.out.2.1 HOK.out HTS.out HNW.out, hb9 _ _ H11.out.1 HS.out.2.2⟩
                · have dnow : decide (N2 ≤ now) = false := decide_eq_false hnow
                  have HNW := Lib.hid hnow
                  clear hnow
                  have u0 := H11.out.2.2.1.cell 0 _ rfl
                  have u1 := H11.out.2.2.1.cell 1 _ rfl
                  have u2 := H11.out.2.2.1.cell 2 _ rfl
                  go_wp2_with (refine gate_ (.store 24 (.tmp 6) (.tmp 112)) rfl ?_; refine store_whole rfl rfl rfl rfl rfl H11.out.2.1 rfl (by simp [Value.oneCell']) rfl (by kernel_rfl) ?_; intro w9 hk9 hb9 hf9 hg9)
                  refine bodyPost_ret (results_ct rfl _ _ g0 _ _ _ _ rfl hk9 Tryd.underlying24 rfl (by kernel_rfl)) rfl ?_
                  exact ⟨⟨S1, S2, N2⟩, 0, rfl, RdSpec.yes HC.out HK.out.2.1 HOK.out HTS.out (by have := HNW.out; omega), hb9 _ _ H11.out.1 HS.out.2.2⟩
              · have dts : (T.toList == s.toList) = false := by rw [beq_eq_false_iff_ne]; exact fun h => hts (toList_inj h)
                have HR2 := Lib.hid (show (∀ j, j < k + 1 → ¬ ((L.getD j Sec.none).id = N1 ∧ tokS (L.getD j Sec.none) ⟨S1, S2, N2⟩ = s)) ∧ Below w10.heap.size w10 w11 from ⟨fun j hj => by
                    rcases Nat.lt_or_ge j k with h | h
                    · exact HR.out.1 j h
                    · obtain rfl : j = k := by omega
                      rw [HK.out.1]; exact fun h => hts (by rw [HT.out]; exact h.2), H11.out.2.2.2⟩)
                clear hts
                go_wp2
                go_roundw
                case rel => exact ⟨k + 1, by go_num, by have := HK.out; omega, HR2⟩
                case measure => have := HK.out; simp [intOf]; omega
            · have dne' : (sid == N1) = false := beq_eq_false_iff_ne.2 hid
              have HR2 := Lib.hid (show (∀ j, j < k + 1 → ¬ ((L.getD j Sec.none).id = N1 ∧ tokS (L.getD j Sec.none) ⟨S1, S2, N2⟩ = s)) ∧ Below w10.heap.size w10 W7 from ⟨fun j hj => by
                  rcases Nat.lt_or_ge j k with h | h
                  · exact HR.out.1 j h
                  · obtain rfl : j = k := by omega
                    rw [HK.out.1]; exact fun h => hid h.1, below_step HR.out.2 HB7.out.1⟩)
              clear hid
              go_wp2
              go_roundw
              case rel => exact ⟨k + 1, by go_num, by have := HK.out; omega, HR2⟩
              case measure => have := HK.out; simp [intOf]; omega
          · obtain rfl : k = n := by omega
            have dkn : decide ((k : Int) < k) = false := decide_eq_false (by omega)
            have HN := Lib.hid (show ∀ k ∈ L, ∀ c, ClmOk c → tokS k c ≠ s from fun k' hk' c hc ht => by
                have hw := tok_front HU.out.symm k' (by have := checkB_all HC.out k' hk'; omega) c hc ht
                obtain ⟨i, hi, rfl⟩ := mem_getD hk'
                exact HR.out.1 i (by have := HI.out.2.2.2.2.1; omega) ⟨hw.2.1.trans HCL.out.2, by rw [← HCL.out.1, ← hw.2.2]; exact ht⟩)
            go_wp2_with (refine gate_ (.store 24 (.tmp 6) (.tmp 114)) rfl ?_; refine store_whole rfl rfl rfl rfl rfl HO.out.2.1 rfl (by simp [Value.oneCell']) rfl (by kernel_rfl) ?_; intro w9 hk9 hb9 hf9 hg9)
            refine bodyPost_ret (results_ct rfl _ _ g0 _ _ _ _ rfl hk9 Tryd.underlying24 rfl (by kernel_rfl)) rfl ?_
            exact ⟨Clm.none, 100, rfl, RdSpec.no HC.out HN.out, hb9 _ _ HO.out.1 HS.out.2.2⟩
end Go.Proofs.YtcgenmogedndjaaDoor
namespace Go.Proofs.YtcgenmogedndjaaDoor
open Go.RowKit Go.Proofs.YtcgenmogedndjaaDoorW.PrintWords
theorem makeR_cases (L : List Sec) (c : Clm) : (∃ e : Int, e ≠ 0 ∧ (e = 102 ∨ e = 6 ∨ e = 1) ∧ makeR L c = (⟨#[]⟩, e)) ∨ (checkB L = true ∧ ClmOk c ∧ makeR L c = (tokS (newest L) c, 0)) := by
  cases h : checkB L with
  | false => exact .inl ⟨102, by decide, .inl rfl, makeR_bad h⟩
  | true =>
    by_cases he : clmE c = 0
    · exact .inr ⟨rfl, (clmE_iff c).1 he, makeR_ok h he⟩
    · refine .inl ⟨clmE c, he, ?_, makeR_clm h rfl he⟩
      unfold clmE at he ⊢
      split
      · exact .inr (.inl rfl)
      · split
        · exact .inr (.inr rfl)
        · rename_i h1 h2; rw [if_neg h1, if_neg h2] at he; exact absurd rfl he
theorem tok_size {k : Sec} {c : Clm} (h : ClmOk c) : (tokS k c).size ≤ 65536 ∧ 1 ≤ (tokS k c).size := by
  have h1 := congrArg List.length (tok_bytes k c)
  rw [bytesOf_length, List.length_append, List.length_cons, sp3_length, sp3_length, mac_length] at h1
  have h2 := payL_length k.id c
  have h3 := nameB_size h.1
  have h4 := nameB_size h.2.1
  omega
theorem rise_sub {L M : List Sec} (h : M.Sublist L) : ∀ (a b : Int), b ≤ a → rise a L = true → rise b M = true := by
  induction h with
  | slnil => intro _ _ _ _; rfl
  | cons x _ ih =>
    intro a b hab h
    rw [rise, Bool.and_eq_true, decide_eq_true_eq] at h
    exact ih x.id b (by omega) h.2
  | cons_cons x _ ih =>
    intro a b hab h
    rw [rise, Bool.and_eq_true, decide_eq_true_eq] at h
    rw [rise, Bool.and_eq_true, decide_eq_true_eq]
    exact ⟨⟨by omega, h.1.2⟩, ih x.id x.id (Int.le_refl _) h.2⟩
theorem checkB_sub {L M : List Sec} (h : checkB L = true) (hs : M.Sublist L) (h1 : 1 ≤ M.length) : checkB M = true := by
  have hl := checkB_len h
  have := hs.length_le
  rw [checkB_eq ⟨h1, by omega⟩]
  rw [checkB_eq hl] at h
  exact rise_sub hs _ _ (Int.le_refl _) h
/-- What is made by the newest is read. -/
theorem read_made {L : List Sec} {c : Clm} {now : Int} {x : Clm} {f : Int} (hL : checkB L = true) {k : Sec} (hk : k ∈ L) (hc : ClmOk c) (h : RdSpec L now (tokS k c) x f) : (now < c.upto ∧ x = c ∧ f = 0) ∨ (c.upto ≤ now ∧ x = Clm.none ∧ f = 101) := by
  rcases Int.lt_or_le now c.upto with h1 | h1
  · obtain ⟨rfl, rfl⟩ := h.unique (RdSpec.yes hL hk hc rfl h1)
    exact .inl ⟨h1, rfl, rfl⟩
  · obtain ⟨rfl, rfl⟩ := h.unique (RdSpec.over hL hk hc rfl h1)
    exact .inr ⟨h1, rfl, rfl⟩
/-- Two times. -/
theorem read_times {L : List Sec} {s : ByteArray} {a b : Int} {x y : Clm} {e f : Int} (hab : a ≤ b) (h : RdSpec L a s x e) (k : RdSpec L b s y f) :
    (f = 0 ∧ e = 0 ∧ x = y) ∨ (f = 101 ∧ e = 101) ∨ (f = 101 ∧ e = 0 ∧ a < x.upto ∧ x.upto ≤ b) ∨ (f = 102 ∧ e = 102) ∨ (f = 100 ∧ e = 100) := by
  rcases h with ⟨h1, rfl, rfl⟩ | ⟨h1, h2, rfl, rfl⟩ | ⟨h1, p, hp, c, hc, hs, h3⟩
  · obtain ⟨_, rfl⟩ := k.unique (RdSpec.check h1)
    exact .inr (.inr (.inr (.inl ⟨rfl, rfl⟩)))
  · obtain ⟨_, rfl⟩ := k.unique (RdSpec.no h1 h2)
    exact .inr (.inr (.inr (.inr ⟨rfl, rfl⟩)))
  · subst hs
    rcases read_made h1 hp hc k with ⟨k1, rfl, rfl⟩ | ⟨k1, rfl, rfl⟩ <;> rcases h3 with ⟨h4, rfl, rfl⟩ | ⟨h4, rfl, rfl⟩
    · omega
    · exact .inl ⟨rfl, rfl, rfl⟩
    · exact .inr (.inl ⟨rfl, rfl⟩)
    · exact .inr (.inr (.inl ⟨rfl, rfl, h4, k1⟩))
/-- What a text that is taken was made of. -/
theorem read_whose {L : List Sec} {now : Int} {s : ByteArray} {x : Clm} {f : Int} (h : RdSpec L now s x f) : (f ≠ 0 ∧ (f = 102 ∨ f = 100 ∨ f = 101) ∧ x = Clm.none) ∨ (f = 0 ∧ ClmOk x ∧ ∃ i, i < L.length ∧ makeR (L.take (i + 1)) x = (s, 0)) := by
  rcases h with ⟨h1, rfl, rfl⟩ | ⟨h1, h2, rfl, rfl⟩ | ⟨h1, p, hp, c, hc, hs, ⟨h3, rfl, rfl⟩ | ⟨h3, rfl, rfl⟩⟩
  · exact .inl ⟨by decide, .inl rfl, rfl⟩
  · exact .inl ⟨by decide, .inr (.inl rfl), rfl⟩
  · exact .inl ⟨by decide, .inr (.inr rfl), rfl⟩
  · refine .inr ⟨rfl, hc, ?_⟩
    obtain ⟨i, hi, rfl⟩ := mem_getD hp
    refine ⟨i, hi, ?_⟩
    have hl : (L.take (i + 1)).length = i + 1 := by rw [List.length_take]; omega
    have hn : newest (L.take (i + 1)) = L.getD i Sec.none := by
      unfold newest
      rw [hl, List.getD_eq_getElem?_getD, List.getD_eq_getElem?_getD, List.getElem?_take, if_pos (by omega)]
      rfl
    rw [makeR_ok (checkB_sub h1 (List.take_sublist _ _) (by omega)) ((clmE_iff x).2 hc), hn, hs]
theorem take_newest (L : List Sec) (i : Nat) (hi : i < L.length) : newest (L.take (i + 1)) = L.getD i Sec.none := by
  have hl : (L.take (i + 1)).length = i + 1 := by rw [List.length_take]; omega
  unfold newest
  rw [hl, List.getD_eq_getElem?_getD, List.getD_eq_getElem?_getD, List.getElem?_take, if_pos (by omega)]
  rfl
/-- Without the one that signed. -/
theorem read_without {L : List Sec} {i : Nat} {c : Clm} {now : Int} {x : Clm} {f : Int} (hL : checkB L = true) (h2 : 2 ≤ L.length) (hi : i < L.length) (hc : ClmOk c) (h : RdSpec (L.take i ++ L.drop (i + 1)) now (tokS (L.getD i Sec.none) c) x f) : x = Clm.none ∧ f = 100 := by
  have hsub : (L.take i ++ L.drop (i + 1)).Sublist L := by
    conv => rhs; rw [← List.take_append_drop i L]
    refine List.Sublist.append (List.Sublist.refl _) ?_
    rw [getD_drop L i hi]
    exact List.sublist_cons_self _ _
  have hlen : (L.take i ++ L.drop (i + 1)).length = L.length - 1 := by rw [List.length_append, List.length_take, List.length_drop]; omega
  refine h.unique (RdSpec.no (checkB_sub hL hsub (by omega)) ?_)
  intro k hk d hd he
  have hkL := hsub.mem hk
  have hiL : L.getD i Sec.none ∈ L := getD_mem hi
  have r1 := checkB_all hL _ hkL
  have r2 := checkB_all hL _ hiL
  obtain ⟨hid, _⟩ := tok_inj he ⟨r1.1, r1.2.1⟩ ⟨r2.1, r2.2.1⟩ hd hc
  obtain ⟨j, hj, hjk⟩ := List.getElem_of_mem hk
  rw [hlen] at hj
  rcases Nat.lt_or_ge j i with hji | hji
  · have e : k = L.getD j Sec.none := by
      rw [← hjk, List.getElem_append_left (by rw [List.length_take]; omega), List.getElem_take, List.getD_eq_getElem?_getD, List.getElem?_eq_getElem (by omega)]
      rfl
    rw [e] at hid
    have := checkB_ids hL j i (by omega) hi hid
    omega
  · have e : k = L.getD (j + 1) Sec.none := by
      rw [← hjk, List.getElem_append_right (by rw [List.length_take]; omega), List.getElem_drop, List.getD_eq_getElem?_getD, List.getElem?_eq_getElem (by omega)]
      simp only [List.length_take, Option.getD_some]
      congr 1
      omega
    rw [e] at hid
    have := checkB_ids hL (j + 1) i (by omega) hi hid
    omega
theorem one_sub (L : List Sec) (i : Nat) (hi : i < L.length) : ((L.drop i).take 1).Sublist L ∧ ((L.drop i).take 1).length = 1 ∧ L.getD i Sec.none ∈ (L.drop i).take 1 :=
  ⟨(List.take_sublist _ _).trans (List.drop_sublist _ _), by rw [List.length_take, List.length_drop]; omega, by rw [getD_drop L i hi]; simp⟩
/-- By the one that signed alone. -/
theorem read_alone {L : List Sec} {i : Nat} {c : Clm} {now : Int} {x y : Clm} {f g : Int} (hL : checkB L = true) (hi : i < L.length) (hc : ClmOk c) (h : RdSpec L now (tokS (L.getD i Sec.none) c) x f) (k : RdSpec ((L.drop i).take 1) now (tokS (L.getD i Sec.none) c) y g) : x = y ∧ f = g := by
  obtain ⟨o1, o2, o3⟩ := one_sub L i hi
  rcases read_made hL (getD_mem hi) hc h with ⟨_, rfl, rfl⟩ | ⟨_, rfl, rfl⟩ <;> rcases read_made (checkB_sub hL o1 (by omega)) o3 hc k with ⟨_, rfl, rfl⟩ | ⟨_, rfl, rfl⟩
  · exact ⟨rfl, rfl⟩
  · omega
  · omega
  · exact ⟨rfl, rfl⟩
theorem SecOk.sub {L M : List Sec} (h : SecOk L) (hs : M.Sublist L) : SecOk M := fun s m => h s (hs.mem m)
end Go.Proofs.YtcgenmogedndjaaDoor
