/- The texts WsRight, WsKey, WsSame, WsAwake in one. -/
import Derived.Test.YtcfbfmgckaehdaaDoorH01
import Derived.Test.YtcfbfmgckaehdaaDoorH08
import Derived.Test.YtcfbfmgckaehdaaDoorH09
import Derived.Test.YtcfbfmgckaehdaaDoorH10
import Derived.Lib.SmallJoins
namespace Go.Proofs.YtcfbfmgckaehdaaDoor
open Go.RowKit Go.Proofs.YtcfbfmgckaehdaaDoorW.PrintWords
/-- K is a key: what it spells ahead of its two signs is q. -/
structure KeyOk (K S : ByteArray) (q : List Int) : Prop where
  size : K.size = 24
  cut : K.extract 0 (24 - 2) = S
  end2 : ((K.extract (24 - 2) 24).toList == (⟨#[61, 61]⟩ : ByteArray).toList) = true
  no45 : (if posOf ((45 : Nat) : Int) (bytesOf S) < S.size then ((posOf ((45 : Nat) : Int) (bytesOf S) : Nat) : Int) else -1) = -1
  no95 : (if posOf ((95 : Nat) : Int) (bytesOf S) < S.size then ((posOf ((95 : Nat) : Int) (bytesOf S) : Nat) : Int) else -1) = -1
  no43 : Lib.countByte S.data.toList ((43 : Nat) : Int).toNat.toUInt8 = 0
  no47 : Lib.countByte S.data.toList ((47 : Nat) : Int).toNat.toUInt8 = 0
  short : S.size ≤ 35184372088832
  spelt : unRun (bytesOf S) 0 0 [] = some q
  len : q.length = 16
theorem lit_ne (a b : UInt8) (h : (a == b) = false) : ((⟨#[a]⟩ : ByteArray).toList == (⟨#[b]⟩ : ByteArray).toList) = false := by
  rw [ByteArray.toList_eq, ByteArray.toList_eq]
  show ([a] == [b]) = false
  simpa using h
set_option maxHeartbeats 1600000 in
theorem right_yes (K S : ByteArray) (q : List Int) (h : KeyOk K S q) (w : World) :
    Calls Tryd.prog 55 #[.string K] w fun e w' => e = .returned (.bool true) ∧ Below w.heap.size w w' := by
  have H := Lib.hid h
  clear h
  go_enter Tryd.func55, Tryd.ntmps55
  go_wp2_with fail
  refine (CutSuffix_yes K ⟨#[61, 61]⟩ 24 2 H.out.size rfl (by decide) (by decide) H.out.end2 _).mono ?_
  rintro e w1 ⟨rfl, rfl⟩
  rw [H.out.cut]
  go_wp2_with fail
  refine (IndexByte_calls S 45 (by decide) _).mono ?_
  rintro e w2 ⟨rfl, rfl⟩
  rw [H.out.no45]
  go_wp2_with fail
  refine (IndexByte_calls S 95 (by decide) _).mono ?_
  rintro e w3 ⟨rfl, rfl⟩
  rw [H.out.no95]
  go_wp2_with fail
  refine (ReplaceAll_none S ⟨#[43]⟩ ⟨#[45]⟩ 43 (by decide) rfl (lit_ne _ _ (by decide)) H.out.no43 _).mono ?_
  rintro e w4 ⟨rfl, rfl⟩
  go_wp2_with fail
  refine (ReplaceAll_none S ⟨#[47]⟩ ⟨#[95]⟩ 47 (by decide) rfl (lit_ne _ _ (by decide)) H.out.no47 _).mono ?_
  rintro e w5 ⟨rfl, rfl⟩
  go_wp2_with fail
  refine (Unspell_calls S _ H.out.short).mono ?_
  rintro e w6 ⟨v6, rfl, ho6, hb6⟩
  rw [H.out.spelt] at ho6 ⊢
  obtain ⟨A6, c6, rfl, _, _⟩ := ho6.reads
  have e1 : ((some q).getD []).length = 16 := H.out.len
  have e2 : (some q).isSome = true := rfl
  rw [e1, e2]
  have HB := Lib.hid hb6
  clear ho6 hb6 e1 e2
  go_wp2
  go_ret
  exact ⟨rfl, HB.out⟩
end Go.Proofs.YtcfbfmgckaehdaaDoor
namespace Go.Proofs.YtcfbfmgckaehdaaDoor
open Go.RowKit Go.Proofs.YtcfbfmgckaehdaaDoorW.PrintWords
/-- What every key is followed by. -/
def guid : ByteArray := ⟨#[50, 53, 56, 69, 65, 70, 65, 53, 45, 69, 57, 49, 52, 45, 52, 55, 68, 65, 45, 57, 53, 67, 65, 45, 67, 53, 65, 66, 48, 68, 67, 56, 53, 66, 49, 49]⟩
set_option maxRecDepth 20000 in
set_option maxHeartbeats 1600000 in
theorem Accept_yes (K S T : ByteArray) (q dg : List Int) (R : ByteArray) (h : KeyOk K S q) (hT : K ++ guid = T) (hTs : T.size ≤ 1099511627776) (hd : sha1 (bytesOf T) = dg) (hl : dg.length = 20) (hR : strOfNums (b64 dg) = R) (w : World) :
    Calls Tryd.prog 37 #[.string K] w fun e w' => e = .returned (.tuple #[.string R, .int .i64 0]) ∧ Below w.heap.size w w' := by
  have HK := Lib.hid h
  have HT := Lib.hid (show K ++ ⟨#[50, 53, 56, 69, 65, 70, 65, 53, 45, 69, 57, 49, 52, 45, 52, 55, 68, 65, 45, 57, 53, 67, 65, 45, 67, 53, 65, 66, 48, 68, 67, 56, 53, 66, 49, 49]⟩ = T from hT)
  have HD := Lib.hid (show sha1 (bytesOf T) = dg ∧ dg.length = 20 ∧ strOfNums (b64 dg) = R ∧ T.size ≤ 1099511627776 from ⟨hd, hl, hR, hTs⟩)
  clear h hT hd hl hR hTs
  have kb := fun W => print_bytes (P := Tryd.prog) 9 22 5 Tryd.underlying9 Tryd.underlying22 Tryd.underlying5 T W
  have add1 : ∀ W, (Op.stringOp .add K ⟨#[50, 53, 56, 69, 65, 70, 65, 53, 45, 69, 57, 49, 52, 45, 52, 55, 68, 65, 45, 57, 53, 67, 65, 45, 67, 53, 65, 66, 48, 68, 67, 56, 53, 66, 49, 49]⟩).run Tryd.prog W = .ok (.string T) W := fun W => by rw [← HT.out]; exact run_add_ _ _ _ _ (by rw [HK.out.size]; decide)
  go_enter Tryd.func37, Tryd.ntmps37
  go_wp2_with fail
  refine (right_yes K S q HK.out _).mono ?_
  rintro e w1 ⟨rfl, hb1⟩
  have HB1 := Lib.hid hb1
  clear hb1
  go_wp2_with fail
  refine (Sha1_calls _ _ _ _ (str_reads w1 T (by have := HD.out; omega)) (Bytes_bytesOf T) (grownCap_ge _ _ _ _) HD.out.2.2.2).mono ?_
  rintro e w2 ⟨rfl, hb2⟩
  rw [HD.out.1]
  have hb02 : Below w.heap.size w w2 := below_step (bytes_below HB1.out HB1.out.size _ _) hb2
  obtain ⟨g, hg⟩ : ∃ g, g = w2.heap.size := ⟨_, rfl⟩
  obtain ⟨W3, hW3⟩ : ∃ W3, W3 = w2.alloc (.cells #[.int .u8 0, .int .u8 0, .int .u8 0, .int .u8 0, .int .u8 0, .int .u8 0, .int .u8 0, .int .u8 0, .int .u8 0, .int .u8 0, .int .u8 0, .int .u8 0, .int .u8 0, .int .u8 0, .int .u8 0, .int .u8 0, .int .u8 0, .int .u8 0, .int .u8 0, .int .u8 0] 91) := ⟨_, rfl⟩
  have hk : Blk W3 g 91 .u8 (List.replicate 20 0) := by rw [hW3, hg]; exact Blk.new w2 91 .u8 (List.replicate 20 0)
  have HB3 := Lib.hid (show Below w.heap.size w W3 ∧ w.heap.size ≤ g from ⟨below_step hb02 (by rw [hW3]; exact below_alloc (Below.refl _ _) _), by rw [hg]; exact hb02.size⟩)
  have HK3 := Lib.hid hk
  have HW := Lib.hid (show g = w2.heap.size ∧ W3 = w2.alloc _ from ⟨hg, hW3⟩)
  clear hb2 hb02 hg hW3 hk kb add1
  go_upto_region 4 with (refine gate_ (.store 91 (.tmp 4) (.tmp 11)) rfl ?_; rw [← HW.out.1, ← HW.out.2]; refine store_blk2 (m := dg) rfl rfl rfl rfl rfl HK3.out (by rw [HD.out.2.1]; rfl) (by rw [HD.out.2.1]; kernel_rfl) ?_; intro w5 hk5 hb5 _; have HK5 := Lib.hid hk5; have HB5 := Lib.hid (hb5 _ _ HB3.out.1 HB3.out.2); clear hk5 hb5)
  have hrow := HK5.out.row (by rw [HD.out.2.1]; decide)
  rw [HD.out.2.1] at hrow
  have HR := Lib.hid hrow
  clear hrow
  go_wp2_with fail
  refine (Base64_calls _ _ dg _ HR.out (by rw [← HD.out.1]; exact sha1_Bytes _) (by decide) (by decide)).mono ?_
  rintro e w6 ⟨rfl, hb6⟩
  rw [HD.out.2.2.1]
  have HB6 := Lib.hid (below_step HB5.out hb6)
  clear hb6
  go_wp2
  go_ret2
  exact ⟨rfl, HB6.out⟩
end Go.Proofs.YtcfbfmgckaehdaaDoor
namespace Go.Proofs.YtcfbfmgckaehdaaDoor
open Go.RowKit Go.Proofs.YtcfbfmgckaehdaaDoorW.PrintWords
set_option maxHeartbeats 1600000 in
theorem SameFrame_true {n m : Nat} (fin : Bool) (op : Int) (A : Option Addr) (c : Nat) (l : List Int) (A1 : Option Addr) (c1 : Nat) (w : World) (hr : Rd w A n l) (hr1 : Rd w A1 m l) :
    Calls Tryd.prog 17 #[.agg #[.bool fin, .int .i64 op, .slice A n c], .agg #[.bool fin, .int .i64 op, .slice A1 m c1]] w fun e w' => e = .returned (.bool true) ∧ Below w.heap.size w w' := by
  obtain ⟨g0, hg0⟩ : ∃ g, g = w.heap.size := ⟨_, rfl⟩
  obtain ⟨g1, hg1⟩ : ∃ g, g = g0 + 1 := ⟨_, rfl⟩
  obtain ⟨W0, hW0⟩ : ∃ W0, W0 = w.alloc (.cells #[.bool fin, .int .i64 op, .slice A n c] 26) := ⟨_, rfl⟩
  obtain ⟨W1, hW1⟩ : ∃ W1, W1 = W0.alloc (.cells #[.bool fin, .int .i64 op, .slice A1 m c1] 26) := ⟨_, rfl⟩
  have hz0 : W0.heap.size = g1 := by rw [hW0, size_alloc, hg1, hg0]
  have hb0 : Below w.heap.size w W0 := by rw [hW0]; exact below_alloc (Below.refl _ _) _
  have hb01 : Below W0.heap.size W0 W1 := by rw [hW1]; exact below_alloc (Below.refl _ _) _
  have hb1 := below_step hb0 hb01
  have hp0 : Whole W0 g0 26 #[.bool fin, .int .i64 op, .slice A n c] := by rw [hW0, hg0]; exact Whole.new w _ _
  have hk0 := hp0.below hb01 hp0.lt
  have hk1 : Whole W1 g1 26 #[.bool fin, .int .i64 op, .slice A1 m c1] := by rw [hW1, ← hz0]; exact Whole.new W0 _ _
  have HS := Lib.hid (show g0 = w.heap.size ∧ W0 = w.alloc _ ∧ W1 = W0.alloc _ ∧ g1 = g0 + 1 from ⟨hg0, hW0, hW1, hg1⟩)
  have HB := Lib.hid hb1
  have x0 := hk0.cell 0 _ rfl
  have x1 := hk0.cell 1 _ rfl
  have x2 := hk0.cell 2 _ rfl
  have y0 := hk1.cell 0 _ rfl
  have y1 := hk1.cell 1 _ rfl
  have y2 := hk1.cell 2 _ rfl
  have k0 := Kd.C_string (P := Tryd.prog) (src := 22) (dst := 9) (e := 5) Tryd.underlying22 Tryd.underlying5 Tryd.underlying9 (c := c) (Kd.C_below hr hb1)
  have k1 := Kd.C_string (P := Tryd.prog) (src := 22) (dst := 9) (e := 5) Tryd.underlying22 Tryd.underlying5 Tryd.underlying9 (c := c1) (Kd.C_below hr1 hb1)
  have e1 : (op == op) = true := by simp
  clear hr hr1 hg0 hg1 hz0 hb0 hb01 hb1 hp0 hk0 hk1 hW0 hW1
  go_enter Tryd.func17, Tryd.ntmps17
  go_upto_region 1 with (fail)
  rw [← HS.out.1, ← HS.out.2.1, ← HS.out.2.2.2, ← HS.out.2.2.1]
  cases fin
  all_goals
    go_wp2
    go_ret
    exact ⟨by simp, HB.out⟩
end Go.Proofs.YtcfbfmgckaehdaaDoor
namespace Go.Proofs.YtcfbfmgckaehdaaDoor
open Go.RowKit Go.Proofs.YtcfbfmgckaehdaaDoorW.PrintWords
def keyK : ByteArray := ⟨#[100, 71, 104, 108, 73, 72, 78, 104, 98, 88, 66, 115, 90, 83, 66, 117, 98, 50, 53, 106, 90, 81, 61, 61]⟩
def keyS : ByteArray := ⟨#[100, 71, 104, 108, 73, 72, 78, 104, 98, 88, 66, 115, 90, 83, 66, 117, 98, 50, 53, 106, 90, 81]⟩
theorem key_ok : KeyOk keyK keyS [116, 104, 101, 32, 115, 97, 109, 112, 108, 101, 32, 110, 111, 110, 99, 101] where
  size := by decide +kernel
  cut := by decide +kernel
  end2 := by decide +kernel
  no45 := by decide +kernel
  no95 := by decide +kernel
  no43 := by decide +kernel
  no47 := by decide +kernel
  short := by decide +kernel
  spelt := by decide +kernel
  len := by decide +kernel
theorem key_sha : sha1 (bytesOf (keyK ++ guid)) = [179, 122, 79, 44, 192, 98, 79, 22, 144, 246, 70, 6, 207, 56, 89, 69, 178, 190, 196, 234] := by decide +kernel
theorem key_b64 : strOfNums (b64 [179, 122, 79, 44, 192, 98, 79, 22, 144, 246, 70, 6, 207, 56, 89, 69, 178, 190, 196, 234]) = ⟨#[115, 51, 112, 80, 76, 77, 66, 105, 84, 120, 97, 81, 57, 107, 89, 71, 122, 122, 104, 90, 82, 98, 75, 43, 120, 79, 111, 61]⟩ := by decide +kernel
theorem awake_wr : wrE ⟨true, 1, [72, 101, 108, 108, 111]⟩ 4 = 0 := by decide +kernel
theorem awake_bytes : wrL ⟨true, 1, [72, 101, 108, 108, 111]⟩ [55, 250, 33, 61] = [129, 133, 55, 250, 33, 61, 127, 159, 77, 81, 88] := by decide +kernel
theorem awake_rd : (rdF [129, 5] true).2.2 = 1002 := by decide +kernel
set_option maxRecDepth 20000 in
set_option maxHeartbeats 4000000 in
theorem wsAwake_calls (w : World) : Calls Tryd.prog 13 #[] w fun e w' => e = .returned (.bool true) ∧ Below w.heap.size w w' := by
  have kc := fun (w : World) (C : Array Value) (n c g : Nat) (hg : g = w.heap.size) => Joins.run_convert_bytes_const_at (P := Tryd.prog) w 22 5 C n c g hg Tryd.underlying22 Tryd.underlying5
  go_enter Tryd.func13, Tryd.ntmps13
  go_wp2_with fail
  refine (Accept_yes keyK keyS _ _ [179, 122, 79, 44, 192, 98, 79, 22, 144, 246, 70, 6, 207, 56, 89, 69, 178, 190, 196, 234] ⟨#[115, 51, 112, 80, 76, 77, 66, 105, 84, 120, 97, 81, 57, 107, 89, 71, 122, 122, 104, 90, 82, 98, 75, 43, 120, 79, 111, 61]⟩ key_ok rfl (by decide +kernel) key_sha rfl key_b64 _).mono ?_
  rintro e w1 ⟨rfl, hb1⟩
  have HB1 := Lib.hid hb1
  clear hb1
  go_wp2_with fail
  have hm1 : Rd ((w1.alloc (.cells #[.int .u8 72, .int .u8 101, .int .u8 108, .int .u8 108, .int .u8 111] 5 (5, 6))).alloc (.cells #[.int .u8 55, .int .u8 250, .int .u8 33, .int .u8 61] 5)) (some ⟨w1.heap.size + 1, 0, none⟩) 4 [55, 250, 33, 61] := by
    have h := C_const (w1.alloc (.cells #[.int .u8 72, .int .u8 101, .int .u8 108, .int .u8 108, .int .u8 111] 5 (5, 6))) 5 [55, 250, 33, 61] (0, 0) (by decide)
    rw [size_alloc] at h
    exact h
  refine (WsWrite_calls true 1 _ _ [72, 101, 108, 108, 111] _ _ [55, 250, 33, 61] _ (Kd.C_alloc (C_const w1 5 [72, 101, 108, 108, 111] (5, 6) (by decide)) _) (Nat.le_refl 5) (by unfold Bytes; decide) (by decide) hm1 (Nat.le_refl 4)).mono ?_
  rintro e w4 ⟨v4, rfl, ho4, hb4⟩
  have he : wrE ⟨true, 1, [72, 101, 108, 108, 111]⟩ ([55, 250, 33, 61] : List Int).length = 0 := awake_wr
  rw [he] at ho4 ⊢
  rw [if_pos rfl, awake_bytes] at ho4
  obtain ⟨A4, c4, rfl, _, hr4⟩ := ho4.reads
  have H4 := Lib.hid (show Rd w4 A4 11 [129, 133, 55, 250, 33, 61, 127, 159, 77, 81, 88] ∧ Below w.heap.size w w4 from ⟨hr4, below_step (below_alloc (below_alloc HB1.out _) _) hb4⟩)
  have e11 : ([129, 133, 55, 250, 33, 61, 127, 159, 77, 81, 88] : List Int).length = 11 := rfl
  rw [e11]
  clear ho4 hr4 hb4 hm1 he e11
  go_wp2_with fail
  refine (WsRead_calls _ _ [129, 5] true _ (C_const w4 5 [129, 5] (0, 0) (by decide)) (Nat.le_refl 2) (by unfold Bytes; decide) (by decide)).mono ?_
  rintro e w5 ⟨f, k, why, v5, rfl, hF, ho5, hb5⟩
  have hy : why = 1002 := by have h := awake_rd; rw [hF] at h; exact h
  subst hy
  obtain ⟨A5, c5, rfl, _, _⟩ := ho5.reads
  have hb45 : Below w4.heap.size w4 w5 := below_step (below_alloc (Below.refl _ _) _) hb5
  have H5 := Lib.hid (show Rd w5 A4 11 [129, 133, 55, 250, 33, 61, 127, 159, 77, 81, 88] ∧ Below w.heap.size w w5 from ⟨Kd.C_below H4.out.1 hb45, below_step H4.out.2 hb45⟩)
  clear hb5 hb45 ho5 hF
  have hm2 : ∀ o, Rd ((w5.alloc o).alloc (.cells #[.int .u8 129, .int .u8 133, .int .u8 55, .int .u8 250, .int .u8 33, .int .u8 61, .int .u8 127, .int .u8 159, .int .u8 77, .int .u8 81, .int .u8 88] 5)) (some ⟨w5.heap.size + 1, 0, none⟩) 11 [129, 133, 55, 250, 33, 61, 127, 159, 77, 81, 88] := fun o => by
    have h := C_const (w5.alloc o) 5 [129, 133, 55, 250, 33, 61, 127, 159, 77, 81, 88] (0, 0) (by decide)
    rw [size_alloc] at h
    exact h
  go_wp2_with fail
  refine (Equal_true _ _ [129, 133, 55, 250, 33, 61, 127, 159, 77, 81, 88] _ _ [129, 133, 55, 250, 33, 61, 127, 159, 77, 81, 88] _ (Kd.C_alloc (Kd.C_alloc H5.out.1 _) _) (hm2 _) (by unfold Bytes; decide) rfl).mono ?_
  rintro e w6 ⟨rfl, hd6⟩
  have H6 := Lib.hid (below_step (below_alloc (below_alloc H5.out.2 _) _) hd6.below)
  clear hd6
  go_wp2
  go_ret
  exact ⟨rfl, H6.out⟩
end Go.Proofs.YtcfbfmgckaehdaaDoor
