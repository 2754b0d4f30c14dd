/- The walk of a law: AuthtokBearerWalk. -/
import Derived.Test.YtcgenmogedndjaaDoorG09
namespace Go.Proofs.YtcgenmogedndjaaDoor
open Go.RowKit Go.Proofs.YtcgenmogedndjaaDoorW.PrintWords
def hdrSum (hs : List Hdr) (k : Nat) : Nat := (hs.take k).foldl (fun a h => a + (8 + min h.name.size 65536 + min h.value.size 65536)) 0
theorem hdrSum_succ (hs : List Hdr) (k : Nat) (hk : k < hs.length) : hdrSum hs (k + 1) = hdrSum hs k + (8 + min (hs.getD k Hdr.none).name.size 65536 + min (hs.getD k Hdr.none).value.size 65536) := by
  unfold hdrSum
  rw [List.take_succ_eq_append_getElem hk, List.foldl_append, List.getD_eq_getElem?_getD, List.getElem?_eq_getElem hk]
  rfl
theorem hdrSum_mono (hs : List Hdr) (j : Nat) : ∀ k, j ≤ k → k ≤ hs.length → hdrSum hs j ≤ hdrSum hs k
  | 0, h, _ => by obtain rfl : j = 0 := by omega
                  exact Nat.le_refl _
  | k + 1, h, hk => by
    rcases Nat.lt_or_ge j (k + 1) with h2 | h2
    · have := hdrSum_mono hs j k (by omega) (by omega)
      rw [hdrSum_succ hs k (by omega)]
      omega
    · obtain rfl : j = k + 1 := by omega
      exact Nat.le_refl _
theorem hdrSum_ok {hs : List Hdr} (h : hdrSum hs hs.length ≤ 65536) : HdrOk hs := by
  intro x hx
  obtain ⟨i, hi, rfl⟩ := List.getElem_of_mem hx
  have h1 := hdrSum_mono hs (i + 1) hs.length (by omega) (Nat.le_refl _)
  rw [hdrSum_succ hs i hi, List.getD_eq_getElem?_getD, List.getElem?_eq_getElem hi] at h1
  simp only [Option.getD_some] at h1
  omega
set_option maxRecDepth 20000 in
set_option maxHeartbeats 3200000 in
theorem AuthtokBearer_walk (me pa : ByteArray) (A : Option Addr) (n c : Nat) (bd : Value) (hs : List Hdr) (w : World) (hG : Laid w) (hr0 : RdH w A n hs) (hsz : ∀ h ∈ hs, h.name.size ≤ 9223372036854775807 ∧ h.value.size ≤ 9223372036854775807) :
    Calls Tryd.prog 9 #[.agg #[.string me, .string pa, .slice A n c, bd]] w fun e w' => e = .returned (.bool true) ∧ Below w.heap.size w w' := by
  have hlen : hs.length = n := Kd.C_len hr0
  have hmax := Kd.C_max hr0
  obtain ⟨g, hg⟩ : ∃ g, g = w.heap.size := ⟨_, rfl⟩
  obtain ⟨W0, hW0⟩ : ∃ W0, W0 = w.alloc (.cells #[.string me, .string pa, .slice A n c, bd] 50) := ⟨_, rfl⟩
  have hbw : Below w.heap.size w W0 := by rw [hW0]; exact below_alloc (Below.refl _ _) _
  have hwh : Whole W0 g 50 #[.string me, .string pa, .slice A n c, bd] := by rw [hW0, hg]; exact Whole.new w _ _
  have HS := Lib.hid (show g = w.heap.size ∧ W0 = w.alloc _ from ⟨hg, hW0⟩)
  have HI := Lib.hid (show RdH W0 A n hs ∧ (∀ h ∈ hs, h.name.size ≤ 9223372036854775807 ∧ h.value.size ≤ 9223372036854775807) ∧ Below w.heap.size w W0 ∧ hs.length = n ∧ n ≤ 9223372036854775807 ∧ Laid W0 ∧ Whole W0 g 50 #[.string me, .string pa, .slice A n c, bd] from ⟨Kd.C_below hr0 hbw, hsz, hbw, hlen, hmax, hG.below hbw hG.lt, hwh⟩)
  clear hg hW0 hbw hwh hr0 hsz hlen hmax hG
  go_enter Tryd.func9, Tryd.ntmps9
  go_upto_block 0 with (fail)
  rw [← HS.out.1, ← HS.out.2]
  go_cut [3] (fun v wc => ∃ S : Nat, v = .int .i64 S ∧ S ≤ 262144 ∧ Hid ((65536 < S ∨ S = hdrSum hs n) ∧ Below W0.heap.size W0 wc))
  case first =>
    go_wp2
    go_loopw [3, 4] (fun v i wr => ∃ k : Nat, i = .int .i64 k ∧ k ≤ n ∧ v = .int .i64 (hdrSum hs k : Nat) ∧ hdrSum hs k ≤ 262144 ∧ Hid (Below W0.heap.size W0 wr)) (fun _ i _ => n - (intOf i).toNat)
    case atStart => exact ⟨0, rfl, by omega, rfl, by show (0 : Nat) ≤ _; omega, Lib.hid (Below.refl _ _)⟩
    case round =>
      obtain ⟨k, rfl, hk, rfl, hS, HB⟩ := hrel
      have hq := HI.out.2.2.2.2.2.2.below HB.out HI.out.2.2.2.2.2.2.lt
      have x2 := hq.cell 2 _ rfl
      clear hq
      obtain ⟨S, hSe⟩ : ∃ S, S = hdrSum hs k := ⟨_, rfl⟩
      rw [← hSe] at hS ⊢
      have HSE := Lib.hid hSe
      clear hSe
      by_cases hkn : k < n
      · have dkn : decide ((k : Int) < n) = true := decide_eq_true (by omega)
        have dkn' : decide (k < n) = true := decide_eq_true hkn
        have ikn : (k : Int) < n := by omega
        have hmx := HI.out.2.2.2.2.1
        have wk : IntKind.i64.wrap ((k : Int) + 1) = k + 1 := wrap_id (by omega) (by omega)
        have hki : k < hs.length := by have := HI.out.2.2.2.1; omega
        by_cases hb : S ≤ 65536
        · have db : decide ((S : Int) ≤ 65536) = true := decide_eq_true (by omega)
          have db' : decide (S ≤ 65536) = true := decide_eq_true hb
          obtain ⟨ad, rfl, x0, x1⟩ := RdH.at (Kd.C_below HI.out.1 HB.out) k hkn
          have hsc := hdrSum_succ hs k hki
          have hso := HI.out.2.1 (hs.getD k Hdr.none) (by rw [List.getD_eq_getElem?_getD, List.getElem?_eq_getElem hki]; exact List.getElem_mem _)
          obtain ⟨sc, hsd⟩ : ∃ sc, sc = hs.getD k Hdr.none := ⟨_, rfl⟩
          rw [← hsd] at x0 x1 hsc hso
          obtain ⟨nm, vl⟩ := sc
          simp only at x0 x1 hsc hso
          rw [← HSE.out] at hsc
          have HK := Lib.hid (show hdrSum hs (k + 1) = S + (8 + min nm.size 65536 + min vl.size 65536) ∧ nm.size ≤ 9223372036854775807 ∧ vl.size ≤ 9223372036854775807 from ⟨hsc, hso⟩)
          clear hmx hki hsd hsc hso
          go_wp2_with fail
          go_quiet (fail)
          go_wp2
          refine ⟨⟨k + 1, by go_num, by omega, by rw [HK.out.1]; congr 1; omega, by rw [HK.out.1]; omega, Lib.hid (below_drewN HB.out nq)⟩, by simp [intOf]; omega⟩
        · have db : decide ((S : Int) ≤ 65536) = false := decide_eq_false (by omega)
          have db' : decide (S ≤ 65536) = false := decide_eq_false hb
          have HB2 := Lib.hid (show 65536 < S by omega)
          clear hb hmx hki
          go_wp2
          go_meet
          case rel => exact ⟨S, rfl, hS, Lib.hid ⟨.inl HB2.out, HB.out⟩⟩
      · obtain rfl : k = n := by omega
        have dkn : decide ((k : Int) < k) = false := decide_eq_false (by omega)
        have dkn' : decide (k < k) = false := decide_eq_false (by omega)
        go_wp2
        go_meet
        case rel => exact ⟨S, rfl, hS, Lib.hid ⟨.inr HSE.out, HB.out⟩⟩
  case rest =>
    obtain ⟨S, rfl, hS, H⟩ := hcut
    have HB := Lib.hid (show Below w.heap.size w wc from below_step HI.out.2.2.1 H.out.2)
    by_cases hb : 65536 < S
    · have db : decide (65536 < (S : Int)) = true := decide_eq_true (by omega)
      have db' : decide (65536 < S) = true := decide_eq_true hb
      clear hb hS
      go_wp2_with fail
      refine (aw_calls _ (HI.out.2.2.2.2.2.1.below H.out.2 HI.out.2.2.2.2.2.1.lt)).mono ?_
      rintro e w2 ⟨rfl, hb2⟩
      have HB2 := Lib.hid (below_step HB.out hb2)
      clear hb2
      go_wp2
      go_ret
      exact ⟨rfl, HB2.out⟩
    · have db : decide (65536 < (S : Int)) = false := decide_eq_false (by omega)
      have db' : decide (65536 < S) = false := decide_eq_false hb
      have hok : HdrOk hs := hdrSum_ok (by have := H.out.1; have := HI.out.2.2.2.1; rw [this]; omega)
      have HOK := Lib.hid hok
      clear hb hS hok
      have hq := HI.out.2.2.2.2.2.2.below H.out.2 HI.out.2.2.2.2.2.2.lt
      have x0 := hq.cell 0 _ rfl
      have x1 := hq.cell 1 _ rfl
      have x2 := hq.cell 2 _ rfl
      have x3 := hq.cell 3 _ rfl
      have HQ := Lib.hid hq
      clear hq
      obtain ⟨R, hR⟩ : ∃ R, R = bearR hs := ⟨_, rfl⟩
      have HRR := Lib.hid hR
      clear hR
      obtain ⟨rs, rb⟩ := R
      go_wp2_with fail
      refine (Bearer_calls me pa A c bd hs _ (Kd.C_below HI.out.1 H.out.2) HOK.out).mono ?_
      rintro e w2 ⟨rfl, hb2⟩
      rw [← HRR.out]
      have H2 := Lib.hid (show Below W0.heap.size W0 w2 ∧ Below w.heap.size w w2 from ⟨below_step H.out.2 hb2, below_step HB.out hb2⟩)
      have hq := HQ.out.below hb2 HQ.out.lt
      have y0 := hq.cell 0 _ rfl
      have y1 := hq.cell 1 _ rfl
      have y2 := hq.cell 2 _ rfl
      have y3 := hq.cell 3 _ rfl
      clear x0 x1 x2 x3 hb2 hq
      go_wp2_with fail
      refine (BearerRef_calls me pa A c bd hs _ (Kd.C_below HI.out.1 H2.out.1) HOK.out).mono ?_
      rintro e w3 ⟨rfl, hb3⟩
      rw [← HRR.out]
      have H3 := Lib.hid (show Below W0.heap.size W0 w3 ∧ Below w.heap.size w w3 from ⟨below_step H2.out.1 hb3, below_step H2.out.2 hb3⟩)
      clear y0 y1 y2 y3 hb3
      have deq : (rs.toList == rs.toList) = true := beq_self_eq_true _
      go_wp2_with fail
      refine (aw_calls _ (HI.out.2.2.2.2.2.1.below H3.out.1 HI.out.2.2.2.2.2.1.lt)).mono ?_
      rintro e w4 ⟨rfl, hb4⟩
      have HB4 := Lib.hid (below_step H3.out.2 hb4)
      clear hb4
      go_wp2
      go_ret
      exact ⟨rfl, HB4.out⟩
end Go.Proofs.YtcgenmogedndjaaDoor
