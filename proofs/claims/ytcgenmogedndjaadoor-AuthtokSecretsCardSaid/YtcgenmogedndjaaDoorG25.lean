/- The texts MacRef, BitsLaw, IntRow in one. -/
import Derived.Test.YtcgenmogedndjaaDoorG01
import Derived.Test.YtcgenmogedndjaaDoorG03
import Derived.Test.YtcgenmogedndjaaDoorG09
import Derived.Test.YtcgenmogedndjaaDoorG11
import Derived.Test.YtcgenmogedndjaaDoorG24
namespace Go.Proofs.YtcgenmogedndjaaDoor
open Go.RowKit Go.Proofs.YtcgenmogedndjaaDoorW.PrintWords
theorem Own.stay2 {w0 w w1 : World} {v u : Value} {l : List Int} (h : Own w0 w v l) (hg : w.grownBy w1 u.ownBlock) (hne : ∀ k, u.ownBlock = some k → v.ownBlock ≠ some k) : Own w0 w1 v l := Kd.R_grown2 h rfl hg (fun k hk e => hne k hk e.symm)
theorem apart_grown {w0 w : World} {v v1 u : Value} {l : List Int} (hv : Own w0 w v l) (hne : ∀ k, u.ownBlock = some k → v.ownBlock ≠ some k) (hd : v1.ownBlock = u.ownBlock ∨ ∃ b, v1.ownBlock = some b ∧ w.heap.size ≤ b) : ∀ k, v1.ownBlock = some k → v.ownBlock ≠ some k := by
  intro k hk
  rcases hd with hd | ⟨b, hb, hle⟩
  · exact hne k (by rw [← hd]; exact hk)
  · intro e
    have := hv.lt k e
    rw [hb] at hk
    injection hk with hk
    omega
theorem xorB_snoc (c : Int) (K : List Int) (i : Nat) (hi : i < K.length) : xorB c (K.take i) ++ [bits .xor .u8 (rd K (i : Int)) c] = xorB c (K.take (i + 1)) := by
  unfold xorB
  rw [List.take_succ_eq_append_getElem hi, List.map_append, rd_get K i hi]
  rfl
theorem pad_snoc (kl : List Int) (n : Nat) (h : kl.length ≤ n) : kl ++ (List.replicate (n - kl.length) 0 ++ [0]) = kl ++ List.replicate (n + 1 - kl.length) (0 : Int) := by
  rw [show n + 1 - kl.length = (n - kl.length) + 1 by omega, List.replicate_succ']
set_option maxRecDepth 20000 in
set_option maxHeartbeats 8000000 in
theorem MacRef_calls {n0 n1 : Nat} (A0 : Option Addr) (c0 : Nat) (l0 : List Int) (A1 : Option Addr) (c1 : Nat) (l1 : List Int) (w : World) (hr0 : Rd w A0 n0 l0) (hb0 : Bytes l0) (hs0 : n0 ≤ 1099511627776) (hr1 : Rd w A1 n1 l1) (hb1 : Bytes l1) (hs1 : n1 ≤ 549755813888) :
    Calls Tryd.prog 57 #[.slice A0 n0 c0, .slice A1 n1 c1] w fun e w' => ∃ v, e = .returned v ∧ Own w w' v (mac l0 l1) ∧ Below w.heap.size w w' := by
  have HI := Lib.hid (show Rd w A0 n0 l0 ∧ Bytes l0 ∧ n0 ≤ 1099511627776 ∧ Rd w A1 n1 l1 ∧ Bytes l1 ∧ n1 ≤ 549755813888 ∧ l0.length = n0 ∧ l1.length = n1 from ⟨hr0, hb0, hs0, hr1, hb1, hs1, Kd.C_len hr0, Kd.C_len hr1⟩)
  have HLIT := Lib.hid (show Own w (w.alloc (.cells #[] 5)) (.slice (some ⟨w.heap.size, 0, none⟩) 0 0) [] from lit_nil (Below.refl _ _))
  have HROW := Lib.hid (show Rd (w.alloc (.cells #[] 5)) A0 n0 l0 from Kd.C_below hr0 (below_alloc (Below.refl _ _) _))
  clear hr0 hb0 hs0 hr1 hb1 hs1
  go_enter Tryd.func57, Tryd.ntmps57
  go_wp2_with (at_builtin; refine app_row HLIT.out HROW.out (below_alloc (Below.refl _ _) _) (by have := HI.out.2.2.1; simp; omega) rfl rfl rfl rfl ?_)
  intro v2 w2 ho2 hb2 _ _
  replace ho2 : Own w w2 v2 l0 := ho2.cast (List.nil_append l0)
  obtain ⟨A2, c2, rfl, hc2, hr2⟩ := ho2.reads
  rw [HI.out.2.2.2.2.2.2.1] at ho2 hc2 hr2 ⊢
  have HK := Lib.hid (show Own w w2 (.slice A2 n0 c2) l0 ∧ Below w.heap.size w w2 ∧ Rd w2 A2 n0 l0 ∧ n0 ≤ c2 from ⟨ho2, hb2, hr2, hc2⟩)
  clear ho2 hb2 hr2 hc2 HLIT HROW
  go_upto_if 15 with (fail)
  go_cut [5] (fun v wc => ∃ (A : Option Addr) (n c : Nat) (kl : List Int), v = .slice A n c ∧ n ≤ 64 ∧ Hid (Own w wc (.slice A n c) kl ∧ kl.length = n ∧ kl = (if 64 < l0.length then sha2 l0 else l0) ∧ Below w.heap.size w wc))
  case first =>
    by_cases h64 : 64 < n0
    · have d1 : decide (64 < (n0 : Int)) = true := decide_eq_true (by omega)
      have d1' : decide (64 < n0) = true := decide_eq_true h64
      go_wp2_with fail
      refine (Sha256Ref_calls A2 c2 l0 _ HK.out.2.2.1 HI.out.2.1 HK.out.2.2.2 HI.out.2.2.1).mono ?_
      rintro e w3 ⟨v3, rfl, ho3, hb3⟩
      obtain ⟨A3, c3, rfl, _, _⟩ := ho3.reads
      rw [sha2_length] at ho3 ⊢
      have HO3 := Lib.hid (show Own w w3 (.slice A3 32 c3) (sha2 l0) ∧ Below w.heap.size w w3 from ⟨Own.lower ho3 HK.out.2.1.size, below_step HK.out.2.1 hb3⟩)
      clear ho3 hb3
      go_wp2
      go_meet
      case rel => exact ⟨A3, 32, c3, sha2 l0, rfl, by omega, Lib.hid ⟨HO3.out.1, sha2_length l0, by rw [if_pos (by rw [HI.out.2.2.2.2.2.2.1]; exact h64)], HO3.out.2⟩⟩
    · have d1 : decide (64 < (n0 : Int)) = false := decide_eq_false (by omega)
      have d1' : decide (64 < n0) = false := decide_eq_false h64
      go_wp2
      go_meet
      case rel => exact ⟨A2, n0, c2, l0, rfl, by omega, Lib.hid ⟨HK.out.1, HI.out.2.2.2.2.2.2.1, by rw [if_neg (by rw [HI.out.2.2.2.2.2.2.1]; exact h64)], HK.out.2.1⟩⟩
  case rest =>
    obtain ⟨A, n, c, kl, rfl, hn, HC⟩ := hcut
    have HP := Lib.hid (show Own w wc (.slice A n c) (kl ++ List.replicate (n - kl.length) 0) ∧ Below w.heap.size w wc ∧ kl.length ≤ n from ⟨by rw [HC.out.2.1, Nat.sub_self, List.replicate_zero, List.append_nil]; exact HC.out.1, HC.out.2.2.2, by rw [HC.out.2.1]; exact Nat.le_refl _⟩)
    have HKL := Lib.hid HC.out.2.2.1
    clear HC HK
    go_wp2
    go_loopw [5] (fun v wi => ∃ (A : Option Addr) (n c : Nat), v = .slice A n c ∧ n ≤ 64 ∧ Hid (Own w wi (.slice A n c) (kl ++ List.replicate (n - kl.length) 0) ∧ Below w.heap.size w wi ∧ kl.length ≤ n)) (fun v _ => 64 - slenB v)
    case atStart => exact ⟨A, n, c, rfl, hn, HP⟩
    case round =>
      clear HP hn
      obtain ⟨A, n, c, rfl, hn, HP⟩ := hrel
      by_cases h64 : n < 64
      · have d1 : decide ((n : Int) < 64) = true := decide_eq_true (by omega)
        have d1' : decide (n < 64) = true := decide_eq_true h64
        have HL := Lib.hid (show (kl ++ List.replicate (n - kl.length) 0).length = n ∧ n < 64 from ⟨by have := HP.out.2.2; simp; omega, h64⟩)
        go_wp2_with (at_builtin; refine app_one HP.out.1 HP.out.2.1 (by rw [HL.out.1]; omega) rfl rfl rfl rfl ?_)
        intro v3 w3 ho3 hb3 _ _
        replace ho3 := ho3.cast (pad_snoc kl n HP.out.2.2)
        obtain ⟨A3, c3, rfl, _, _⟩ := ho3.reads
        have hlen : (kl ++ List.replicate (n + 1 - kl.length) (0 : Int)).length = n + 1 := by have := HP.out.2.2; simp; omega
        rw [hlen] at ho3 ⊢
        have HO3 := Lib.hid (show Own w w3 (.slice A3 (n + 1) c3) (kl ++ List.replicate (n + 1 - kl.length) 0) ∧ Below w.heap.size w w3 ∧ kl.length ≤ n + 1 from ⟨ho3, hb3, by have := HP.out.2.2; omega⟩)
        clear ho3 hb3 hlen
        go_wp2
        go_roundw
        case rel => exact ⟨A3, n + 1, c3, rfl, by omega, HO3⟩
        case measure => simp [slenB]; omega
      · obtain rfl : n = 64 := by omega
        obtain ⟨KK, hKK⟩ : ∃ KK, KK = kl ++ List.replicate (64 - kl.length) 0 := ⟨_, rfl⟩
        obtain ⟨wk, hwk⟩ : ∃ wk, wk = wr := ⟨_, rfl⟩
        have hKl : KK.length = 64 := by have := HP.out.2.2; rw [hKK]; simp; omega
        have hrk : Rd wr A 64 KK := by have := (Kd.R_reads' HP.out.1).2.2; rw [← hKK, hKl] at this; exact this
        have hkm : KK = macKey l0 := by rw [hKK, HKL.out]; rfl
        rw [← hwk] at HP hrk ⊢
        have HM := Lib.hid (show Rd wk A 64 KK ∧ Below w.heap.size w wk ∧ KK.length = 64 ∧ KK = macKey l0 from ⟨hrk, HP.out.2.1, hKl, hkm⟩)
        have HS := Lib.hid (show Own wk wk (.slice none 0 0) (xorB 54 (KK.take 0)) ∧ Own wk wk (.slice none 0 0) (xorB 92 (KK.take 0)) ∧ Below wk.heap.size wk wk ∧ ∀ k, (Value.slice none 0 0).ownBlock = some k → (Value.slice none 0 0).ownBlock ≠ some k from ⟨Own.nil _ _, Own.nil _ _, Below.refl _ _, fun k hk => by cases hk⟩)
        clear hwk hKK hKl hrk hkm HP hn h64
        go_wp2
        go_loopw [6, 7, 26] (fun vi vo v wi => ∃ (i : Nat) (Ai Ao : Option Addr) (ci co : Nat), v = .int .i64 i ∧ i ≤ 64 ∧ vi = .slice Ai i ci ∧ vo = .slice Ao i co ∧ Hid (Own wk wi (.slice Ai i ci) (xorB 54 (KK.take i)) ∧ Own wk wi (.slice Ao i co) (xorB 92 (KK.take i)) ∧ Below wk.heap.size wk wi ∧ ∀ k, (Value.slice Ai i ci).ownBlock = some k → (Value.slice Ao i co).ownBlock ≠ some k)) (fun _ _ v _ => 64 - (intOf v).toNat)
        case atStart => exact ⟨0, none, none, 0, 0, rfl, by omega, rfl, rfl, HS⟩
        case round =>
          clear HS
          obtain ⟨i, Ai, Ao, ci, co, rfl, hi, rfl, rfl, HR⟩ := hrel
          by_cases hi64 : i < 64
          · have d1 : decide ((i : Int) < 64) = true := decide_eq_true (by omega)
            have d1' : decide (i < 64) = true := decide_eq_true hi64
            have i64' : (i : Int) < 64 := by omega
            have hwi : IntKind.i64.wrap ((i : Int) + 1) = i + 1 := by rw [IntKind.wrap_i64]; omega
            obtain ⟨ad, rfl, hcell⟩ := Rd.cells (Kd.C_below HM.out.1 HR.out.2.2.1) (by decide)
            have hx := hcell i hi64
            have hs54 := xorB_snoc 54 KK i (by rw [HM.out.2.2.1]; exact hi64)
            have hs92 := xorB_snoc 92 KK i (by rw [HM.out.2.2.1]; exact hi64)
            obtain ⟨x, hxe⟩ : ∃ x, x = rd KK (i : Int) := ⟨_, rfl⟩
            rw [← hxe] at hx hs54 hs92
            have HL := Lib.hid (show (∀ c, (xorB c (KK.take i)).length = i) ∧ (∀ c, (xorB c (KK.take (i + 1))).length = i + 1) ∧ i < 64 from ⟨fun c => by have := HM.out.2.2.1; rw [xorB_length, List.length_take]; omega, fun c => by have := HM.out.2.2.1; rw [xorB_length, List.length_take]; omega, hi64⟩)
            have HSN := Lib.hid (And.intro hs54 hs92)
            clear hcell hs54 hs92 hxe hi hi64
            go_wp2_with (at_builtin; refine app_one HR.out.1 HR.out.2.2.1 (by rw [HL.out.1]; have := HL.out.2.2; omega) rfl rfl rfl rfl ?_)
            intro v3 w3 ho3 hb3 hg3 hd3
            have ho3' := ho3.cast HSN.out.1
            have hout := HR.out.2.1.stay2 hg3 HR.out.2.2.2
            have hap := apart_grown HR.out.2.1 HR.out.2.2.2 hd3
            obtain ⟨A3, c3, rfl, _, _⟩ := ho3'.reads
            rw [HL.out.2.1] at ho3' hap ⊢
            have H3 := Lib.hid (show Own wk w3 (.slice A3 (i + 1) c3) (xorB 54 (KK.take (i + 1))) ∧ Own wk w3 (.slice Ao i co) (xorB 92 (KK.take i)) ∧ Below wk.heap.size wk w3 ∧ ∀ k, (Value.slice A3 (i + 1) c3).ownBlock = some k → (Value.slice Ao i co).ownBlock ≠ some k from ⟨ho3', hout, hb3, hap⟩)
            clear ho3 ho3' hout hap hg3 hd3 hb3 hx
            go_wp2_with (at_builtin; refine app_one H3.out.2.1 H3.out.2.2.1 (by rw [HL.out.1]; have := HL.out.2.2; omega) rfl rfl rfl rfl ?_)
            intro v4 w4 ho4 hb4 hg4 hd4
            have ho4' := ho4.cast HSN.out.2
            have hap0 : ∀ k, (Value.slice Ao i co).ownBlock = some k → (Value.slice A3 (i + 1) c3).ownBlock ≠ some k := fun k hk e => H3.out.2.2.2 k e hk
            have hin := H3.out.1.stay2 hg4 hap0
            have hap := apart_grown H3.out.1 hap0 hd4
            obtain ⟨A4, c4, rfl, _, _⟩ := ho4'.reads
            rw [HL.out.2.1] at ho4' hap ⊢
            have H4 := Lib.hid (show Own wk w4 (.slice A3 (i + 1) c3) (xorB 54 (KK.take (i + 1))) ∧ Own wk w4 (.slice A4 (i + 1) c4) (xorB 92 (KK.take (i + 1))) ∧ Below wk.heap.size wk w4 ∧ ∀ k, (Value.slice A3 (i + 1) c3).ownBlock = some k → (Value.slice A4 (i + 1) c4).ownBlock ≠ some k from ⟨hin, ho4', hb4, fun k hk e => hap k e hk⟩)
            clear ho4 ho4' hap0 hin hap hg4 hd4 hb4
            go_wp2
            go_roundw
            case rel => exact ⟨i + 1, A3, A4, c3, c4, by go_num, by have := HL.out.2.2; omega, rfl, rfl, H4⟩
            case measure => have := HL.out.2.2; simp [intOf]; omega
          · obtain rfl : i = 64 := by omega
            have hk64 : KK.take 64 = KK := List.take_of_length_le (by rw [HM.out.2.2.1]; exact Nat.le_refl _)
            obtain ⟨I, hI⟩ : ∃ I, I = xorB 54 KK := ⟨_, rfl⟩
            obtain ⟨O, hO⟩ : ∃ O, O = xorB 92 KK := ⟨_, rfl⟩
            have hIl : I.length = 64 := by rw [hI, xorB_length, HM.out.2.2.1]
            have hOl : O.length = 64 := by rw [hO, xorB_length, HM.out.2.2.1]
            have hIb : Bytes I := by rw [hI]; exact xorB_Bytes _ _
            have hOb : Bytes O := by rw [hO]; exact xorB_Bytes _ _
            have hmac : sha2 (O ++ sha2 (I ++ l1)) = mac l0 l1 := by rw [hI, hO, HM.out.2.2.2]; rfl
            have HE := Lib.hid (show Own wk wr (.slice Ai 64 ci) I ∧ Own wk wr (.slice Ao 64 co) O ∧ Below wk.heap.size wk wr ∧ (∀ k, (Value.slice Ai 64 ci).ownBlock = some k → (Value.slice Ao 64 co).ownBlock ≠ some k) ∧ Rd wr A1 n1 l1 from ⟨by have := HR.out.1; rw [hk64, ← hI] at this; exact this, by have := HR.out.2.1; rw [hk64, ← hO] at this; exact this, HR.out.2.2.1, HR.out.2.2.2, Kd.C_below (Kd.C_below HI.out.2.2.2.1 HM.out.2.1) HR.out.2.2.1⟩)
            have HF := Lib.hid (show I.length = 64 ∧ O.length = 64 ∧ Bytes I ∧ Bytes O ∧ sha2 (O ++ sha2 (I ++ l1)) = mac l0 l1 from ⟨hIl, hOl, hIb, hOb, hmac⟩)
            clear hk64 hI hO hIl hOl hIb hOb hmac HR hi hi64
            go_wp2_with (at_builtin; refine app_row HE.out.1 HE.out.2.2.2.2 HE.out.2.2.1 (by rw [HF.out.1]; have := HI.out.2.2.2.2.2.1; omega) rfl rfl rfl rfl ?_)
            intro v5 w5 ho5 hb5 hg5 _
            have hout := HE.out.2.1.stay2 hg5 HE.out.2.2.2.1
            obtain ⟨A5, c5, rfl, hc5, hr5⟩ := ho5.reads
            obtain ⟨m5, hm5⟩ : ∃ m, m = (I ++ l1).length := ⟨_, rfl⟩
            rw [← hm5] at hc5 hr5 ⊢
            have H5 := Lib.hid (show Rd w5 A5 m5 (I ++ l1) ∧ m5 ≤ c5 ∧ Own wk w5 (.slice Ao 64 co) O ∧ Below wk.heap.size wk w5 ∧ m5 ≤ 1099511627776 ∧ Bytes (I ++ l1) from ⟨hr5, hc5, hout, hb5, by rw [hm5, List.length_append, HF.out.1, HI.out.2.2.2.2.2.2.2]; have := HI.out.2.2.2.2.2.1; omega, app_Bytes HF.out.2.2.1 HI.out.2.2.2.2.1⟩)
            clear ho5 hout hc5 hr5 hm5 hg5 hb5
            go_wp2_with fail
            refine (Sha256Ref_calls A5 c5 (I ++ l1) _ H5.out.1 H5.out.2.2.2.2.2 H5.out.2.1 H5.out.2.2.2.2.1).mono ?_
            rintro e w6 ⟨v6, rfl, ho6, hb6⟩
            obtain ⟨D, hD⟩ : ∃ D, D = sha2 (I ++ l1) := ⟨_, rfl⟩
            have hDl : D.length = 32 := by rw [hD]; rfl
            have hDb : Bytes D := by rw [hD]; exact sha2_Bytes _
            have hmac := HF.out.2.2.2.2
            rw [← hD] at ho6 hmac
            obtain ⟨A6, c6, rfl, _, hr6⟩ := ho6.reads
            rw [hDl] at hr6 ⊢
            have H6 := Lib.hid (show Rd w6 A6 32 D ∧ Own wk w6 (.slice Ao 64 co) O ∧ Below wk.heap.size wk w6 ∧ Bytes D ∧ sha2 (O ++ D) = mac l0 l1 ∧ (O ++ D).length = 96 from ⟨hr6, H5.out.2.2.1.below hb6, below_step H5.out.2.2.2.1 hb6, hDb, hmac, by rw [List.length_append, HF.out.2.1, hDl]⟩)
            clear ho6 hb6 hr6 hD hDl hDb hmac
            go_wp2_with (at_builtin; refine app_row H6.out.2.1 H6.out.1 H6.out.2.2.1 (by rw [HF.out.2.1]; omega) rfl rfl rfl rfl ?_)
            intro v7 w7 ho7 hb7 _ _
            obtain ⟨A7, c7, rfl, hc7, hr7⟩ := ho7.reads
            rw [H6.out.2.2.2.2.2] at hc7 hr7 ⊢
            have H7 := Lib.hid (show Rd w7 A7 96 (O ++ D) ∧ 96 ≤ c7 ∧ Below w.heap.size w w7 ∧ Bytes (O ++ D) from ⟨hr7, hc7, below_step HM.out.2.1 hb7, app_Bytes HF.out.2.2.2.1 H6.out.2.2.2.1⟩)
            clear ho7 hb7 hc7 hr7
            go_wp2_with fail
            refine (Sha256Ref_calls A7 c7 (O ++ D) _ H7.out.1 H7.out.2.2.2 H7.out.2.1 (by decide)).mono ?_
            rintro e w8 ⟨v8, rfl, ho8, hb8⟩
            have H8 := Lib.hid (show Own w w8 v8 (mac l0 l1) ∧ Below w.heap.size w w8 from ⟨(Own.lower ho8 H7.out.2.2.1.size).cast H6.out.2.2.2.2.1, below_step H7.out.2.2.1 hb8⟩)
            clear ho8 hb8
            go_wp2
            go_ret
            exact ⟨_, rfl, H8.out.1, H8.out.2⟩
end Go.Proofs.YtcgenmogedndjaaDoor
namespace Go.Proofs.YtcgenmogedndjaaDoor
open Go.RowKit Go.Proofs.YtcgenmogedndjaaDoorW.PrintWords
/-- So many bits of a number, the highest first. -/
def bitsN (k : Nat) (x : Int) : List Int := (List.range k).map fun t => x / 2 ^ (k - 1 - t) % 2
theorem bitsN_length (k : Nat) (x : Int) : (bitsN k x).length = k := by simp [bitsN]
theorem bitsN_take (k t : Nat) (x : Int) (h : t < k) : (bitsN k x).take (t + 1) = (bitsN k x).take t ++ [x / 2 ^ (k - 1 - t) % 2] := by
  rw [List.take_succ_eq_append_getElem (by rw [bitsN_length]; exact h)]
  simp [bitsN]
theorem bitsN_8 (x : Int) : bitsN 8 x = [x / 128 % 2, x / 64 % 2, x / 32 % 2, x / 16 % 2, x / 8 % 2, x / 4 % 2, x / 2 % 2, x % 2] := by
  simp [bitsN, List.range, List.range.loop]
theorem bitsN_6 (x : Int) : bitsN 6 x = [x / 32 % 2, x / 16 % 2, x / 8 % 2, x / 4 % 2, x / 2 % 2, x % 2] := by
  simp [bitsN, List.range, List.range.loop]
def Zo (l : List Int) : Prop := ∀ b ∈ l, 0 ≤ b ∧ b < 2
theorem bitsN_Zo (k : Nat) (x : Int) : Zo (bitsN k x) := by
  intro b hb
  simp only [bitsN, List.mem_map] at hb
  obtain ⟨t, _, rfl⟩ := hb
  omega
theorem Zo.app {a b : List Int} (h : Zo a) (k : Zo b) : Zo (a ++ b) := by
  intro x hx
  rcases List.mem_append.1 hx with hx | hx
  · exact h x hx
  · exact k x hx
theorem Zo.rd {l : List Int} (h : Zo l) (k : Nat) (hk : k < l.length) : 0 ≤ rd l k ∧ rd l k < 2 := by
  rw [rd_get l k hk]
  exact h _ (List.getElem_mem hk)
theorem Zo.zeros (z : Nat) : Zo (List.replicate z 0) := by
  intro b hb
  rw [List.eq_of_mem_replicate hb]
  decide
/-- All bits of bytes; all bits of letters. -/
def bits8 (l : List Int) : List Int := l.flatMap (bitsN 8)
def bits6 (s : List Int) : List Int := s.flatMap fun c => bitsN 6 (sixOf c)
theorem bits8_Zo (l : List Int) : Zo (bits8 l) := by
  intro b hb
  obtain ⟨x, _, hx⟩ := List.mem_flatMap.1 hb
  exact bitsN_Zo 8 x b hx
theorem bits6_Zo (l : List Int) : Zo (bits6 l) := by
  intro b hb
  obtain ⟨x, _, hx⟩ := List.mem_flatMap.1 hb
  exact bitsN_Zo 6 _ b hx
theorem bits8_length (l : List Int) : (bits8 l).length = 8 * l.length := by
  induction l with
  | nil => rfl
  | cons a t ih => rw [bits8, List.flatMap_cons, List.length_append, bitsN_length, List.length_cons]; have : (t.flatMap (bitsN 8)).length = 8 * t.length := ih; omega
theorem bits6_length (l : List Int) : (bits6 l).length = 6 * l.length := by
  induction l with
  | nil => rfl
  | cons a t ih => rw [bits6, List.flatMap_cons, List.length_append, bitsN_length, List.length_cons]; have : (t.flatMap (fun c => bitsN 6 (sixOf c))).length = 6 * t.length := ih; omega
theorem take_snoc (l : List Int) (k : Nat) (h : k < l.length) : l.take (k + 1) = l.take k ++ [rd l k] := by
  rw [List.take_succ_eq_append_getElem h, rd_get l k h]
theorem bits8_snoc (l : List Int) (k : Nat) (h : k < l.length) : bits8 (l.take (k + 1)) = bits8 (l.take k) ++ bitsN 8 (rd l k) := by
  rw [take_snoc l k h, bits8, List.flatMap_append]
  simp [bits8]
theorem bits6_snoc (l : List Int) (k : Nat) (h : k < l.length) : bits6 (l.take (k + 1)) = bits6 (l.take k) ++ bitsN 6 (sixOf (rd l k)) := by
  rw [take_snoc l k h, bits6, List.flatMap_append]
  simp [bits6]
/-- The number that bits write, onto one that is held. -/
def vf (n : Int) (l : List Int) : Int := l.foldl (fun n b => 2 * n + b) n
/-- Letters of six bits; bytes of eight. -/
def grp6 : List Int → List Int
  | a :: b :: c :: d :: e :: f :: t => alpha (vf 0 [a, b, c, d, e, f]) :: grp6 t
  | _ => []
def grp8 : List Int → List Int
  | a :: b :: c :: d :: e :: f :: g :: h :: t => vf 0 [a, b, c, d, e, f, g, h] :: grp8 t
  | _ => []
/-- Filled up with noughts to groups of six. -/
def padded (B : List Int) : List Int := B ++ List.replicate ((6 - B.length % 6) % 6) 0
theorem grp6_sp3 : ∀ (l : List Int), Bytes l → grp6 (padded (bits8 l)) = sp3 l
  | [], _ => rfl
  | [a], hb => by
    have ha := hb a (by simp)
    simp [padded, bits8, bitsN_8, sp3, grp6, vf, List.replicate]
    refine ⟨congrArg alpha (by omega), congrArg alpha (by omega)⟩
  | [a, b], hb => by
    have ha := hb a (by simp)
    have hb' := hb b (by simp)
    simp [padded, bits8, bitsN_8, sp3, grp6, vf, List.replicate]
    refine ⟨congrArg alpha (by omega), congrArg alpha (by omega), congrArg alpha (by omega)⟩
  | a :: b :: c :: t, hb => by
    have ha := hb a (by simp)
    have hb' := hb b (by simp)
    have hc := hb c (by simp)
    have ih := grp6_sp3 t (fun x hx => hb x (by simp [hx]))
    have e : padded (bits8 (a :: b :: c :: t)) = bitsN 8 a ++ bitsN 8 b ++ bitsN 8 c ++ padded (bits8 t) := by
      have hl : (bits8 (a :: b :: c :: t)).length % 6 = (bits8 t).length % 6 := by rw [bits8_length, bits8_length, List.length_cons, List.length_cons, List.length_cons]; omega
      unfold padded
      rw [hl]
      simp [bits8]
    rw [e]
    simp only [bitsN_8, List.cons_append, List.nil_append, grp6, ih, sp3, vf, List.foldl_cons, List.foldl_nil]
    simp
    refine ⟨congrArg alpha (by omega), congrArg alpha (by omega), congrArg alpha (by omega), congrArg alpha (by omega)⟩
theorem grp8_sp3 : ∀ (l : List Int), Bytes l → grp8 (bits6 (sp3 l)) = l
  | [], _ => rfl
  | [a], hb => by
    have ha := hb a (by simp)
    have h1 := (sixOf_alpha (a / 4) (by omega) (by omega)).1
    have h2 := (sixOf_alpha (a % 4 * 16) (by omega) (by omega)).1
    simp [bits6, sp3, h1, h2, bitsN_6, grp8, vf]
    omega
  | [a, b], hb => by
    have ha := hb a (by simp)
    have hb' := hb b (by simp)
    have h1 := (sixOf_alpha (a / 4) (by omega) (by omega)).1
    have h2 := (sixOf_alpha (a % 4 * 16 + b / 16) (by omega) (by omega)).1
    have h3 := (sixOf_alpha (b % 16 * 4) (by omega) (by omega)).1
    simp [bits6, sp3, h1, h2, h3, bitsN_6, grp8, vf]
    omega
  | a :: b :: c :: t, hb => by
    have ha := hb a (by simp)
    have hb' := hb b (by simp)
    have hc := hb c (by simp)
    have h1 := (sixOf_alpha (a / 4) (by omega) (by omega)).1
    have h2 := (sixOf_alpha (a % 4 * 16 + b / 16) (by omega) (by omega)).1
    have h3 := (sixOf_alpha (b % 16 * 4 + c / 64) (by omega) (by omega)).1
    have h4 := (sixOf_alpha (c % 64) (by omega) (by omega)).1
    have ih := grp8_sp3 t (fun x hx => hb x (by simp [hx]))
    have e : bits6 (sp3 (a :: b :: c :: t)) = bitsN 6 (a / 4) ++ bitsN 6 (a % 4 * 16 + b / 16) ++ bitsN 6 (b % 16 * 4 + c / 64) ++ bitsN 6 (c % 64) ++ bits6 (sp3 t) := by
      simp [bits6, sp3, h1, h2, h3, h4]
    rw [e]
    simp only [bitsN_6, List.cons_append, List.nil_append, grp8, ih, vf, List.foldl_cons, List.foldl_nil]
    simp
    omega
theorem grp8_Bytes : ∀ (l : List Int), Zo l → Bytes (grp8 l)
  | a :: b :: c :: d :: e :: f :: g :: h :: t, hz => by
    have ha := hz a (by simp)
    have hb := hz b (by simp)
    have hc := hz c (by simp)
    have hd := hz d (by simp)
    have he := hz e (by simp)
    have hf := hz f (by simp)
    have hg := hz g (by simp)
    have hh := hz h (by simp)
    simp only [grp8, vf, List.foldl_cons, List.foldl_nil]
    exact Bytes.con (by omega) (by omega) (grp8_Bytes t (fun x hx => hz x (by simp [hx])))
  | [], _ | [_], _ | [_, _], _ | [_, _, _], _ | [_, _, _, _], _ | [_, _, _, _, _], _ | [_, _, _, _, _, _], _ | [_, _, _, _, _, _, _], _ => Bytes.nil
theorem unRun_letters : ∀ (s : List Int) (h : Int) (m : Nat) (O q : List Int), unRun s h m O = some q → ∀ c ∈ s, 0 ≤ sixOf c
  | [], _, _, _, _, _ => by simp
  | c :: t, h, m, O, q, hq => by
    unfold unRun at hq
    split at hq
    · simp at hq
    rename_i hc
    intro x hx
    rcases List.mem_cons.1 hx with rfl | hx
    · omega
    split at hq
    · exact unRun_letters t _ _ _ _ hq x hx
    · exact unRun_letters t _ _ _ _ hq x hx
/-- What the reference does at the end is what letters spell. -/
theorem unRun_ref (s : List Int) (hb : Bytes s) : unRun s 0 0 [] = if sp3 (grp8 (bits6 s)) = s then some (grp8 (bits6 s)) else none := by
  have hB := grp8_Bytes (bits6 s) (bits6_Zo s)
  by_cases h : sp3 (grp8 (bits6 s)) = s
  · rw [if_pos h]
    have := unRun_spelt _ hB
    rw [h] at this
    exact this
  · rw [if_neg h]
    cases hr : unRun s 0 0 [] with
    | none => rfl
    | some q =>
      have k := spelt_unRun s q hb hr
      have e := grp8_sp3 q k.2
      rw [k.1] at e
      rw [e] at h
      exact absurd k.1 h
theorem unRun_bad (s : List Int) (c : Int) (hc : c ∈ s) (h : sixOf c < 0) : unRun s 0 0 [] = none := by
  cases hr : unRun s 0 0 [] with
  | none => rfl
  | some q =>
    have := unRun_letters s _ _ _ q hr c hc
    omega
end Go.Proofs.YtcgenmogedndjaaDoor
namespace Go.Proofs.YtcgenmogedndjaaDoor
open Go.RowKit Go.Proofs.YtcgenmogedndjaaDoorW.PrintWords
theorem info_int : (Tryd.prog.info? 3).map (fun i => (i.zero, i.size, i.bytes)) = some (some (.int .i64 0), 1, 8) := by kernel_rfl
abbrev OwnI (w0 w : World) (v : Value) (l : List Int) : Prop := Kd.R (Kd.int .i64) 3 w w0.heap.size (fun _ => True) v l
abbrev RdI (w : World) (A : Option Addr) (n : Nat) (l : List Int) : Prop := Kd.C (Kd.int .i64) w A n l
theorem RdI.cells {w : World} {A : Option Addr} {n : Nat} {l : List Int} (h : RdI w A n l) (hn : 0 < n) : ∃ ad, A = some ad ∧ ∀ j, j < n → w.cell? (ad.add j) = some (.int .i64 (rd l j)) := by
  obtain ⟨ad, rfl, _⟩ := Kd.at_int h 0 (by omega) (by omega)
  refine ⟨ad, rfl, fun j hj => ?_⟩
  obtain ⟨ad', e, hx⟩ := Kd.at_int h j (by omega) (by omega)
  cases e
  exact hx
theorem OwnI.cast {w0 w : World} {v : Value} {l m : List Int} (h : OwnI w0 w v l) (he : l = m) : OwnI w0 w v m := he ▸ h
theorem OwnI.nil (w0 w : World) : OwnI w0 w (.slice none 0 0) [] := Kd.R_nil _ _ _ _ _
theorem OwnI.reads {w0 w : World} {v : Value} {l : List Int} (h : OwnI w0 w v l) : ∃ A c, v = .slice A l.length c ∧ l.length ≤ c ∧ RdI w A l.length l := by
  obtain ⟨A, c, rfl⟩ := Kd.R_slice h
  exact ⟨A, c, rfl, (Kd.R_reads' h).2.1, (Kd.R_reads' h).2.2⟩
theorem OwnI.below {w0 w w1 : World} {v : Value} {l : List Int} (h : OwnI w0 w v l) (hb : Below w.heap.size w w1) : OwnI w0 w1 v l := Kd.R_below h hb
section
variable {ops : Array Oper} {rest : List Oper} {o : Oper} {a : Act} {Q : Exit → Act → World → Prop} {w0 W : World} {s x : Operand} {v : Value} {l : List Int}
theorem appi_one {p : Int} (hO : OwnI w0 W v l) (hB : Below w0.heap.size w0 W) (hL : l.length + 1 ≤ 17592186044416)
    (hgd : o.guard = none) (hop : o.op = .call { callee := .builtin .append, args := #[s, x], argTypes := #[90, 90] }) (hv : a.eval s = v) (hx : a.eval x = .slice (some ⟨W.heap.size, 0, none⟩) 1 1)
    (K : ∀ v1 w1, OwnI w0 w1 v1 (l ++ [p]) → Below w0.heap.size w0 w1 → W.grownBy w1 v.ownBlock → (v1.ownBlock = v.ownBlock ∨ ∃ b, v1.ownBlock = some b ∧ W.heap.size ≤ b) → wpList Tryd.prog ops Q rest (a.put o.dst v1) w1) : wpList Tryd.prog ops Q (o :: rest) a (W.alloc (.cells #[.int .i64 p] 3)) :=
  Kd.R_append (Kd.int .i64) (w0 := w0) w0.heap.size hgd s x 90 3 (.int .i64 0) 8 hop Tryd.underlying90 info_int rfl (by decide) (by omega) v l p [.int .i64 p] (fun _ => True) (fun _ => False) hv hx rfl (fun _ hk => hk.elim) (fun _ _ => trivial) hO hB hB.size (by omega) K
end
end Go.Proofs.YtcgenmogedndjaaDoor
