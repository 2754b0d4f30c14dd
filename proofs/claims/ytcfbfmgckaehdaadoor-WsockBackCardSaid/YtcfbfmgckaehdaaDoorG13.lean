/- The texts WsAccept, WsRight, WsKey, WsSame, WsAwake, ShelfGrow, Concat in one. -/
import Derived.Test.YtcfbfmgckaehdaaDoorG01
import Derived.Test.YtcfbfmgckaehdaaDoorG02
import Derived.Test.YtcfbfmgckaehdaaDoorG07
import Derived.Test.YtcfbfmgckaehdaaDoorG09
import Derived.Test.YtcfbfmgckaehdaaDoorG12
import Derived.Lib.SmallJoins
import Derived.Shelf.Spec.SlicesGrow
namespace Go.Proofs.YtcfbfmgckaehdaaDoor
open Go.RowKit Go.Proofs.YtcfbfmgckaehdaaDoorW.PrintWords
set_option maxRecDepth 20000 in
theorem Count_none (s t : ByteArray) (c : Nat) (hc : c < 256) (ht : t = ⟨#[UInt8.ofNat c]⟩) (h : Lib.countByte s.data.toList (c : Int).toNat.toUInt8 = 0) (w : World) :
    Calls Tryd.prog 76 #[.string s, .string t] w fun e w' => e = .returned (.int .i64 0) ∧ w' = w := by
  have h1 : t.size = 1 := by rw [ht]; rfl
  have hb : ∀ h, ((t[0]'h).toNat : Int) = c := by
    subst ht
    intro h
    show (((UInt8.ofNat c).toNat : Nat) : Int) = c
    rw [UInt8.toNat_ofNat_of_lt' (by show c < 256; omega)]
  have i0 : 0 < t.size := by omega
  have HC := Lib.hid h
  clear ht h
  obtain ⟨m, hm⟩ : ∃ m : Nat, m = t.size := ⟨_, rfl⟩
  go_enter Tryd.func76, Tryd.ntmps76
  go_wp2
  rw [run_callFunc_extern Tryd.func83 (by kernel_rfl) (by kernel_rfl) (by kernel_rfl) (e := Extern.BytealgCount.count) (by kernel_rfl), Lib.run_countString, HC.out]
  simp only [Result.andThen]
  rw [Oper.upon_value]
  go_wp2
  go_ret
  exact ⟨rfl, rfl⟩
set_option maxRecDepth 20000 in
theorem Replace_none (s t u : ByteArray) (c : Nat) (hc : c < 256) (ht : t = ⟨#[UInt8.ofNat c]⟩) (hne : (t.toList == u.toList) = false) (h : Lib.countByte s.data.toList (c : Int).toNat.toUInt8 = 0) (w : World) :
    Calls Tryd.prog 73 #[.string s, .string t, .string u, .int .i64 (-1)] w fun e w' => e = .returned (.string s) ∧ w' = w := by
  have hq : (t.toList == u.toList) = false := hne
  have HT := Lib.hid ht
  have HH := Lib.hid h
  clear ht h hne
  go_enter Tryd.func73, Tryd.ntmps73
  go_wp2_with fail
  refine (Count_none s t c hc HT.out HH.out _).mono ?_
  rintro e w1 ⟨rfl, rfl⟩
  go_wp2
  go_ret
  exact ⟨rfl, rfl⟩
set_option maxRecDepth 20000 in
theorem ReplaceAll_none (s t u : ByteArray) (c : Nat) (hc : c < 256) (ht : t = ⟨#[UInt8.ofNat c]⟩) (hne : (t.toList == u.toList) = false) (h : Lib.countByte s.data.toList (c : Int).toNat.toUInt8 = 0) (w : World) :
    Calls Tryd.prog 63 #[.string s, .string t, .string u] w fun e w' => e = .returned (.string s) ∧ w' = w := by
  have HT := Lib.hid ht
  have HN := Lib.hid hne
  have HH := Lib.hid h
  clear ht h hne
  go_enter Tryd.func63, Tryd.ntmps63
  go_wp2_with fail
  refine (Replace_none s t u c hc HT.out HN.out HH.out _).mono ?_
  rintro e w1 ⟨rfl, rfl⟩
  go_wp2
  go_ret
  exact ⟨rfl, rfl⟩
theorem HasSuffix_yes (s t : ByteArray) (n m : Nat) (hn : s.size = n) (hm : t.size = m) (hle : m ≤ n) (hs : n ≤ 1099511627776) (h : ((s.extract (n - m) n).toList == t.toList) = true) (w : World) :
    Calls Tryd.prog 74 #[.string s, .string t] w fun e w' => e = .returned (.bool true) ∧ w' = w := by
  have d1 : decide (m ≤ n) = true := decide_eq_true hle
  have w1 : IntKind.i64.wrap ((n : Int) - m) = (n : Int) - m := wrap_id (by omega) (by omega)
  have i0 : (0 : Int) ≤ (n : Int) - m := by omega
  have i1 : (m : Int) ≤ n := by omega
  have i2 : (n : Int) - m ≤ n := by omega
  have t1 : ((n : Int) - m).toNat = n - m := by omega
  go_enter Tryd.func74, Tryd.ntmps74
  go_wp2
  go_ret
  exact ⟨rfl, rfl⟩
theorem litCutSuffix_yes (s t : ByteArray) (n m : Nat) (hn : s.size = n) (hm : t.size = m) (hle : m ≤ n) (hs : n ≤ 1099511627776) (h : ((s.extract (n - m) n).toList == t.toList) = true) (w : World) :
    Calls Tryd.prog 70 #[.string s, .string t] w fun e w' => e = .returned (.tuple #[.string (s.extract 0 (n - m)), .bool true]) ∧ w' = w := by
  have w1 : IntKind.i64.wrap ((n : Int) - m) = (n : Int) - m := wrap_id (by omega) (by omega)
  have i0 : (0 : Int) ≤ (n : Int) - m := by omega
  have i1 : (m : Int) ≤ n := by omega
  have i2 : (n : Int) - m ≤ n := by omega
  have t1 : ((n : Int) - m).toNat = n - m := by omega
  go_enter Tryd.func70, Tryd.ntmps70
  go_wp2_with fail
  refine (HasSuffix_yes s t n m hn hm hle hs h _).mono ?_
  rintro e w1 ⟨rfl, rfl⟩
  go_wp2
  go_ret2
  exact ⟨rfl, rfl⟩
theorem CutSuffix_yes (s t : ByteArray) (n m : Nat) (hn : s.size = n) (hm : t.size = m) (hle : m ≤ n) (hs : n ≤ 1099511627776) (h : ((s.extract (n - m) n).toList == t.toList) = true) (w : World) :
    Calls Tryd.prog 60 #[.string s, .string t] w fun e w' => e = .returned (.tuple #[.string (s.extract 0 (n - m)), .bool true]) ∧ w' = w := by
  go_enter Tryd.func60, Tryd.ntmps60
  go_wp2_with fail
  refine (litCutSuffix_yes s t n m hn hm hle hs h _).mono ?_
  rintro e w1 ⟨rfl, rfl⟩
  go_wp2
  go_ret2
  exact ⟨rfl, rfl⟩
end Go.Proofs.YtcfbfmgckaehdaaDoor
namespace Go.Proofs.YtcfbfmgckaehdaaDoor
open Go.RowKit Go.Proofs.YtcfbfmgckaehdaaDoorW.PrintWords
/-- K is a key: what it spells ahead of its two signs is q. -/
structure KeyOk (K S : ByteArray) (q : List Int) : Prop where
  size : K.size = 24
  cut : K.extract 0 (24 - 2) = S
  end2 : ((K.extract (24 - 2) 24).toList == (⟨#[61, 61]⟩ : ByteArray).toList) = true
  no45 : (if posOf ((45 : Nat) : Int) (bytesOf S) < S.size then ((posOf ((45 : Nat) : Int) (bytesOf S) : Nat) : Int) else -1) = -1
  no95 : (if posOf ((95 : Nat) : Int) (bytesOf S) < S.size then ((posOf ((95 : Nat) : Int) (bytesOf S) : Nat) : Int) else -1) = -1
  no43 : Lib.countByte S.data.toList ((43 : Nat) : Int).toNat.toUInt8 = 0
  no47 : Lib.countByte S.data.toList ((47 : Nat) : Int).toNat.toUInt8 = 0
  short : S.size ≤ 35184372088832
  spelt : unRun (bytesOf S) 0 0 [] = some q
  len : q.length = 16
theorem lit_ne (a b : UInt8) (h : (a == b) = false) : ((⟨#[a]⟩ : ByteArray).toList == (⟨#[b]⟩ : ByteArray).toList) = false := by
  rw [ByteArray.toList_eq, ByteArray.toList_eq]
  show ([a] == [b]) = false
  simpa using h
set_option maxHeartbeats 1600000 in
theorem right_yes (K S : ByteArray) (q : List Int) (h : KeyOk K S q) (w : World) :
    Calls Tryd.prog 55 #[.string K] w fun e w' => e = .returned (.bool true) ∧ Below w.heap.size w w' := by
  have H := Lib.hid h
  clear h
  go_enter Tryd.func55, Tryd.ntmps55
  go_wp2_with fail
  refine (CutSuffix_yes K ⟨#[61, 61]⟩ 24 2 H.out.size rfl (by decide) (by decide) H.out.end2 _).mono ?_
  rintro e w1 ⟨rfl, rfl⟩
  rw [H.out.cut]
  go_wp2_with fail
  refine (IndexByte_calls S 45 (by decide) _).mono ?_
  rintro e w2 ⟨rfl, rfl⟩
  rw [H.out.no45]
  go_wp2_with fail
  refine (IndexByte_calls S 95 (by decide) _).mono ?_
  rintro e w3 ⟨rfl, rfl⟩
  rw [H.out.no95]
  go_wp2_with fail
  refine (ReplaceAll_none S ⟨#[43]⟩ ⟨#[45]⟩ 43 (by decide) rfl (lit_ne _ _ (by decide)) H.out.no43 _).mono ?_
  rintro e w4 ⟨rfl, rfl⟩
  go_wp2_with fail
  refine (ReplaceAll_none S ⟨#[47]⟩ ⟨#[95]⟩ 47 (by decide) rfl (lit_ne _ _ (by decide)) H.out.no47 _).mono ?_
  rintro e w5 ⟨rfl, rfl⟩
  go_wp2_with fail
  refine (Unspell_calls S _ H.out.short).mono ?_
  rintro e w6 ⟨v6, rfl, ho6, hb6⟩
  rw [H.out.spelt] at ho6 ⊢
  obtain ⟨A6, c6, rfl, _, _⟩ := ho6.reads
  have e1 : ((some q).getD []).length = 16 := H.out.len
  have e2 : (some q).isSome = true := rfl
  rw [e1, e2]
  have HB := Lib.hid hb6
  clear ho6 hb6 e1 e2
  go_wp2
  go_ret
  exact ⟨rfl, HB.out⟩
end Go.Proofs.YtcfbfmgckaehdaaDoor
namespace Go.Proofs.YtcfbfmgckaehdaaDoor
open Go.RowKit Go.Proofs.YtcfbfmgckaehdaaDoorW.PrintWords
/-- What every key is followed by. -/
def guid : ByteArray := ⟨#[50, 53, 56, 69, 65, 70, 65, 53, 45, 69, 57, 49, 52, 45, 52, 55, 68, 65, 45, 57, 53, 67, 65, 45, 67, 53, 65, 66, 48, 68, 67, 56, 53, 66, 49, 49]⟩
set_option maxRecDepth 20000 in
set_option maxHeartbeats 1600000 in
theorem Accept_yes (K S T : ByteArray) (q dg : List Int) (R : ByteArray) (h : KeyOk K S q) (hT : K ++ guid = T) (hTs : T.size ≤ 1099511627776) (hd : sha1 (bytesOf T) = dg) (hl : dg.length = 20) (hR : strOfNums (b64 dg) = R) (w : World) :
    Calls Tryd.prog 37 #[.string K] w fun e w' => e = .returned (.tuple #[.string R, .int .i64 0]) ∧ Below w.heap.size w w' := by
  have HK := Lib.hid h
  have HT := Lib.hid (show K ++ ⟨#[50, 53, 56, 69, 65, 70, 65, 53, 45, 69, 57, 49, 52, 45, 52, 55, 68, 65, 45, 57, 53, 67, 65, 45, 67, 53, 65, 66, 48, 68, 67, 56, 53, 66, 49, 49]⟩ = T from hT)
  have HD := Lib.hid (show sha1 (bytesOf T) = dg ∧ dg.length = 20 ∧ strOfNums (b64 dg) = R ∧ T.size ≤ 1099511627776 from ⟨hd, hl, hR, hTs⟩)
  clear h hT hd hl hR hTs
  have kb := fun W => print_bytes (P := Tryd.prog) 9 22 5 Tryd.underlying9 Tryd.underlying22 Tryd.underlying5 T W
  have add1 : ∀ W, (Op.stringOp .add K ⟨#[50, 53, 56, 69, 65, 70, 65, 53, 45, 69, 57, 49, 52, 45, 52, 55, 68, 65, 45, 57, 53, 67, 65, 45, 67, 53, 65, 66, 48, 68, 67, 56, 53, 66, 49, 49]⟩).run Tryd.prog W = .ok (.string T) W := fun W => by rw [← HT.out]; exact run_add_ _ _ _ _ (by rw [HK.out.size]; decide)
  go_enter Tryd.func37, Tryd.ntmps37
  go_wp2_with fail
  refine (right_yes K S q HK.out _).mono ?_
  rintro e w1 ⟨rfl, hb1⟩
  have HB1 := Lib.hid hb1
  clear hb1
  go_wp2_with fail
  refine (Sha1_calls _ _ _ _ (str_reads w1 T (by have := HD.out; omega)) (Bytes_bytesOf T) (grownCap_ge _ _ _ _) HD.out.2.2.2).mono ?_
  rintro e w2 ⟨rfl, hb2⟩
  rw [HD.out.1]
  have hb02 : Below w.heap.size w w2 := below_step (bytes_below HB1.out HB1.out.size _ _) hb2
  obtain ⟨g, hg⟩ : ∃ g, g = w2.heap.size := ⟨_, rfl⟩
  obtain ⟨W3, hW3⟩ : ∃ W3, W3 = w2.alloc (.cells #[.int .u8 0, .int .u8 0, .int .u8 0, .int .u8 0, .int .u8 0, .int .u8 0, .int .u8 0, .int .u8 0, .int .u8 0, .int .u8 0, .int .u8 0, .int .u8 0, .int .u8 0, .int .u8 0, .int .u8 0, .int .u8 0, .int .u8 0, .int .u8 0, .int .u8 0, .int .u8 0] 91) := ⟨_, rfl⟩
  have hk : Blk W3 g 91 .u8 (List.replicate 20 0) := by rw [hW3, hg]; exact Blk.new w2 91 .u8 (List.replicate 20 0)
  have HB3 := Lib.hid (show Below w.heap.size w W3 ∧ w.heap.size ≤ g from ⟨below_step hb02 (by rw [hW3]; exact below_alloc (Below.refl _ _) _), by rw [hg]; exact hb02.size⟩)
  have HK3 := Lib.hid hk
  have HW := Lib.hid (show g = w2.heap.size ∧ W3 = w2.alloc _ from ⟨hg, hW3⟩)
  clear hb2 hb02 hg hW3 hk kb add1
  go_upto_region 4 with (refine gate_ (.store 91 (.tmp 4) (.tmp 11)) rfl ?_; rw [← HW.out.1, ← HW.out.2]; refine store_blk2 (m := dg) rfl rfl rfl rfl rfl HK3.out (by rw [HD.out.2.1]; rfl) (by rw [HD.out.2.1]; kernel_rfl) ?_; intro w5 hk5 hb5 _; have HK5 := Lib.hid hk5; have HB5 := Lib.hid (hb5 _ _ HB3.out.1 HB3.out.2); clear hk5 hb5)
  have hrow := HK5.out.row (by rw [HD.out.2.1]; decide)
  rw [HD.out.2.1] at hrow
  have HR := Lib.hid hrow
  clear hrow
  go_wp2_with fail
  refine (Base64_calls _ _ dg _ HR.out (by rw [← HD.out.1]; exact sha1_Bytes _) (by decide) (by decide)).mono ?_
  rintro e w6 ⟨rfl, hb6⟩
  rw [HD.out.2.2.1]
  have HB6 := Lib.hid (below_step HB5.out hb6)
  clear hb6
  go_wp2
  go_ret2
  exact ⟨rfl, HB6.out⟩
end Go.Proofs.YtcfbfmgckaehdaaDoor
namespace Go.Proofs.YtcfbfmgckaehdaaDoor
open Go.RowKit Go.Proofs.YtcfbfmgckaehdaaDoorW.PrintWords
set_option maxHeartbeats 1600000 in
theorem SameFrame_true {n m : Nat} (fin : Bool) (op : Int) (A : Option Addr) (c : Nat) (l : List Int) (A1 : Option Addr) (c1 : Nat) (w : World) (hr : Rd w A n l) (hr1 : Rd w A1 m l) :
    Calls Tryd.prog 17 #[.agg #[.bool fin, .int .i64 op, .slice A n c], .agg #[.bool fin, .int .i64 op, .slice A1 m c1]] w fun e w' => e = .returned (.bool true) ∧ Below w.heap.size w w' := by
  obtain ⟨g0, hg0⟩ : ∃ g, g = w.heap.size := ⟨_, rfl⟩
  obtain ⟨g1, hg1⟩ : ∃ g, g = g0 + 1 := ⟨_, rfl⟩
  obtain ⟨W0, hW0⟩ : ∃ W0, W0 = w.alloc (.cells #[.bool fin, .int .i64 op, .slice A n c] 26) := ⟨_, rfl⟩
  obtain ⟨W1, hW1⟩ : ∃ W1, W1 = W0.alloc (.cells #[.bool fin, .int .i64 op, .slice A1 m c1] 26) := ⟨_, rfl⟩
  have hz0 : W0.heap.size = g1 := by rw [hW0, size_alloc, hg1, hg0]
  have hb0 : Below w.heap.size w W0 := by rw [hW0]; exact below_alloc (Below.refl _ _) _
  have hb01 : Below W0.heap.size W0 W1 := by rw [hW1]; exact below_alloc (Below.refl _ _) _
  have hb1 := below_step hb0 hb01
  have hp0 : Whole W0 g0 26 #[.bool fin, .int .i64 op, .slice A n c] := by rw [hW0, hg0]; exact Whole.new w _ _
  have hk0 := hp0.below hb01 hp0.lt
  have hk1 : Whole W1 g1 26 #[.bool fin, .int .i64 op, .slice A1 m c1] := by rw [hW1, ← hz0]; exact Whole.new W0 _ _
  have HS := Lib.hid (show g0 = w.heap.size ∧ W0 = w.alloc _ ∧ W1 = W0.alloc _ ∧ g1 = g0 + 1 from ⟨hg0, hW0, hW1, hg1⟩)
  have HB := Lib.hid hb1
  have x0 := hk0.cell 0 _ rfl
  have x1 := hk0.cell 1 _ rfl
  have x2 := hk0.cell 2 _ rfl
  have y0 := hk1.cell 0 _ rfl
  have y1 := hk1.cell 1 _ rfl
  have y2 := hk1.cell 2 _ rfl
  have k0 := Kd.C_string (P := Tryd.prog) (src := 22) (dst := 9) (e := 5) Tryd.underlying22 Tryd.underlying5 Tryd.underlying9 (c := c) (Kd.C_below hr hb1)
  have k1 := Kd.C_string (P := Tryd.prog) (src := 22) (dst := 9) (e := 5) Tryd.underlying22 Tryd.underlying5 Tryd.underlying9 (c := c1) (Kd.C_below hr1 hb1)
  have e1 : (op == op) = true := by simp
  clear hr hr1 hg0 hg1 hz0 hb0 hb01 hb1 hp0 hk0 hk1 hW0 hW1
  go_enter Tryd.func17, Tryd.ntmps17
  go_upto_region 1 with (fail)
  rw [← HS.out.1, ← HS.out.2.1, ← HS.out.2.2.2, ← HS.out.2.2.1]
  cases fin
  all_goals
    go_wp2
    go_ret
    exact ⟨by simp, HB.out⟩
end Go.Proofs.YtcfbfmgckaehdaaDoor
namespace Go.Proofs.YtcfbfmgckaehdaaDoor
open Go.RowKit Go.Proofs.YtcfbfmgckaehdaaDoorW.PrintWords
def keyK : ByteArray := ⟨#[100, 71, 104, 108, 73, 72, 78, 104, 98, 88, 66, 115, 90, 83, 66, 117, 98, 50, 53, 106, 90, 81, 61, 61]⟩
def keyS : ByteArray := ⟨#[100, 71, 104, 108, 73, 72, 78, 104, 98, 88, 66, 115, 90, 83, 66, 117, 98, 50, 53, 106, 90, 81]⟩
theorem key_ok : KeyOk keyK keyS [116, 104, 101, 32, 115, 97, 109, 112, 108, 101, 32, 110, 111, 110, 99, 101] where
  size := by decide +kernel
  cut := by decide +kernel
  end2 := by decide +kernel
  no45 := by decide +kernel
  no95 := by decide +kernel
  no43 := by decide +kernel
  no47 := by decide +kernel
  short := by decide +kernel
  spelt := by decide +kernel
  len := by decide +kernel
theorem key_sha : sha1 (bytesOf (keyK ++ guid)) = [179, 122, 79, 44, 192, 98, 79, 22, 144, 246, 70, 6, 207, 56, 89, 69, 178, 190, 196, 234] := by decide +kernel
theorem key_b64 : strOfNums (b64 [179, 122, 79, 44, 192, 98, 79, 22, 144, 246, 70, 6, 207, 56, 89, 69, 178, 190, 196, 234]) = ⟨#[115, 51, 112, 80, 76, 77, 66, 105, 84, 120, 97, 81, 57, 107, 89, 71, 122, 122, 104, 90, 82, 98, 75, 43, 120, 79, 111, 61]⟩ := by decide +kernel
theorem awake_wr : wrE ⟨true, 1, [72, 101, 108, 108, 111]⟩ 4 = 0 := by decide +kernel
theorem awake_bytes : wrL ⟨true, 1, [72, 101, 108, 108, 111]⟩ [55, 250, 33, 61] = [129, 133, 55, 250, 33, 61, 127, 159, 77, 81, 88] := by decide +kernel
theorem awake_rd : (rdF [129, 5] true).2.2 = 1002 := by decide +kernel
set_option maxRecDepth 20000 in
set_option maxHeartbeats 4000000 in
theorem wsAwake_calls (w : World) : Calls Tryd.prog 13 #[] w fun e w' => e = .returned (.bool true) ∧ Below w.heap.size w w' := by
  have kc := fun (w : World) (C : Array Value) (n c g : Nat) (hg : g = w.heap.size) => Joins.run_convert_bytes_const_at (P := Tryd.prog) w 22 5 C n c g hg Tryd.underlying22 Tryd.underlying5
  go_enter Tryd.func13, Tryd.ntmps13
  go_wp2_with fail
  refine (Accept_yes keyK keyS _ _ [179, 122, 79, 44, 192, 98, 79, 22, 144, 246, 70, 6, 207, 56, 89, 69, 178, 190, 196, 234] ⟨#[115, 51, 112, 80, 76, 77, 66, 105, 84, 120, 97, 81, 57, 107, 89, 71, 122, 122, 104, 90, 82, 98, 75, 43, 120, 79, 111, 61]⟩ key_ok rfl (by decide +kernel) key_sha rfl key_b64 _).mono ?_
  rintro e w1 ⟨rfl, hb1⟩
  have HB1 := Lib.hid hb1
  clear hb1
  go_wp2_with fail
  have hm1 : Rd ((w1.alloc (.cells #[.int .u8 72, .int .u8 101, .int .u8 108, .int .u8 108, .int .u8 111] 5 (5, 6))).alloc (.cells #[.int .u8 55, .int .u8 250, .int .u8 33, .int .u8 61] 5)) (some ⟨w1.heap.size + 1, 0, none⟩) 4 [55, 250, 33, 61] := by
    have h := C_const (w1.alloc (.cells #[.int .u8 72, .int .u8 101, .int .u8 108, .int .u8 108, .int .u8 111] 5 (5, 6))) 5 [55, 250, 33, 61] (0, 0) (by decide)
    rw [size_alloc] at h
    exact h
  refine (WsWrite_calls true 1 _ _ [72, 101, 108, 108, 111] _ _ [55, 250, 33, 61] _ (Kd.C_alloc (C_const w1 5 [72, 101, 108, 108, 111] (5, 6) (by decide)) _) (Nat.le_refl 5) (by unfold Bytes; decide) (by decide) hm1 (Nat.le_refl 4)).mono ?_
  rintro e w4 ⟨v4, rfl, ho4, hb4⟩
  have he : wrE ⟨true, 1, [72, 101, 108, 108, 111]⟩ ([55, 250, 33, 61] : List Int).length = 0 := awake_wr
  rw [he] at ho4 ⊢
  rw [if_pos rfl, awake_bytes] at ho4
  obtain ⟨A4, c4, rfl, _, hr4⟩ := ho4.reads
  have H4 := Lib.hid (show Rd w4 A4 11 [129, 133, 55, 250, 33, 61, 127, 159, 77, 81, 88] ∧ Below w.heap.size w w4 from ⟨hr4, below_step (below_alloc (below_alloc HB1.out _) _) hb4⟩)
  have e11 : ([129, 133, 55, 250, 33, 61, 127, 159, 77, 81, 88] : List Int).length = 11 := rfl
  rw [e11]
  clear ho4 hr4 hb4 hm1 he e11
  go_wp2_with fail
  refine (WsRead_calls _ _ [129, 5] true _ (C_const w4 5 [129, 5] (0, 0) (by decide)) (Nat.le_refl 2) (by unfold Bytes; decide) (by decide)).mono ?_
  rintro e w5 ⟨f, k, why, v5, rfl, hF, ho5, hb5⟩
  have hy : why = 1002 := by have h := awake_rd; rw [hF] at h; exact h
  subst hy
  obtain ⟨A5, c5, rfl, _, _⟩ := ho5.reads
  have hb45 : Below w4.heap.size w4 w5 := below_step (below_alloc (Below.refl _ _) _) hb5
  have H5 := Lib.hid (show Rd w5 A4 11 [129, 133, 55, 250, 33, 61, 127, 159, 77, 81, 88] ∧ Below w.heap.size w w5 from ⟨Kd.C_below H4.out.1 hb45, below_step H4.out.2 hb45⟩)
  clear hb5 hb45 ho5 hF
  have hm2 : ∀ o, Rd ((w5.alloc o).alloc (.cells #[.int .u8 129, .int .u8 133, .int .u8 55, .int .u8 250, .int .u8 33, .int .u8 61, .int .u8 127, .int .u8 159, .int .u8 77, .int .u8 81, .int .u8 88] 5)) (some ⟨w5.heap.size + 1, 0, none⟩) 11 [129, 133, 55, 250, 33, 61, 127, 159, 77, 81, 88] := fun o => by
    have h := C_const (w5.alloc o) 5 [129, 133, 55, 250, 33, 61, 127, 159, 77, 81, 88] (0, 0) (by decide)
    rw [size_alloc] at h
    exact h
  go_wp2_with fail
  refine (Equal_true _ _ [129, 133, 55, 250, 33, 61, 127, 159, 77, 81, 88] _ _ [129, 133, 55, 250, 33, 61, 127, 159, 77, 81, 88] _ (Kd.C_alloc (Kd.C_alloc H5.out.1 _) _) (hm2 _) (by unfold Bytes; decide) rfl).mono ?_
  rintro e w6 ⟨rfl, hd6⟩
  have H6 := Lib.hid (below_step (below_alloc (below_alloc H5.out.2 _) _) hd6.below)
  clear hd6
  go_wp2
  go_ret
  exact ⟨rfl, H6.out⟩
end Go.Proofs.YtcfbfmgckaehdaaDoor
namespace Go.Proofs.YtcfbfmgckaehdaaDoor
open Go.Shelf Go.RowKit Go.Proofs.YtcfbfmgckaehdaaDoorW.PrintWords
def laysGrow_ren : Go.Shelf.Ren := ⟨fun | 4 => 45 | n => n, fun | 0 => 0 | 3 => 3 | 4 => 4 | 9 => 9 | 20 => 20 | 22 => 22 | 25 => 5 | n => n, fun | n => n⟩
theorem laysGrow : Go.Proofs.Lays8.n4 Tryd.prog laysGrow_ren := {
  mixed := by kernel_rfl
  f4 := ⟨Tryd.f45.name, by kernel_rfl, Tryd.func45.trans (congrArg some (by kernel_rfl))⟩
  t0 := Tryd.underlying0
  a0 := Tryd.isAgg0
  z0 := Tryd.sizeOf0
  v0 := Tryd.zeroValue0
  t3 := Tryd.underlying3
  a3 := Tryd.isAgg3
  z3 := Tryd.sizeOf3
  v3 := Tryd.zeroValue3
  t4 := Tryd.underlying4
  a4 := Tryd.isAgg4
  z4 := Tryd.sizeOf4
  v4 := Tryd.zeroValue4
  t9 := Tryd.underlying9
  a9 := Tryd.isAgg9
  z9 := Tryd.sizeOf9
  v9 := Tryd.zeroValue9
  t20 := Tryd.underlying20
  a20 := Tryd.isAgg20
  z20 := Tryd.sizeOf20
  v20 := Tryd.zeroValue20
  t22 := Tryd.underlying22
  a22 := Tryd.isAgg22
  z22 := Tryd.sizeOf22
  v22 := Tryd.zeroValue22 }
theorem u8_info : ∃ i, Tryd.prog.info? 5 = some i ∧ i.zero = some (.int .u8 0) ∧ i.size = 1 ∧ i.bytes = 1 := by
  have h : (Tryd.prog.info? 5).map (fun i => (i.zero, i.size, i.bytes)) = some (some (.int .u8 0), 1, 1) := by kernel_rfl
  obtain ⟨i, hi, he⟩ := Option.map_eq_some_iff.1 h
  simp only [Prod.mk.injEq] at he
  exact ⟨i, hi, he.1, he.2.1, he.2.2⟩
theorem Grow_calls (n : Nat) (w : World) (hn : n ≤ 140737488355328) :
    Calls Tryd.prog 45 #[.slice none 0 0, .int .i64 n] w fun e w' => ∃ v0_ : Value, e = .returned (v0_) ∧ Own w w' v0_ [] ∧ Below w.heap.size w w' := by
  by_cases h0 : n = 0
  · subst h0
    exact (Any8.slices_Grow_room laysGrow none 0 0 0 w (by omega) (by omega) (by omega) (by omega)).mono fun e w' ⟨h, k⟩ => ⟨_, h, Own.nil _ _, k ▸ Below.refl _ _⟩
  · obtain ⟨i, hi, hz, hs, hb⟩ := u8_info
    refine (Any8.slices_Grow_grow laysGrow i (.int .u8 0) hi hz (by omega) none 0 0 n [] w (by omega) (by omega) (by rw [hb]; omega) (by omega) (by simp) (fun _ => rfl) (fun _ h => by cases h)).mono ?_
    rintro e w' ⟨rfl, rfl⟩
    refine ⟨_, rfl, Kd.R_of_own ?_ (fun _ _ => trivial), below_alloc (below_drew (Below.refl _ _)) _⟩
    refine World.ownsRow_made w.drew _ _ (Nat.le_refl _) (grownCap_le_maxLen w (0 + n) 0 5 (by unfold maxLen; omega)) ?_
    have hge : 0 + n ≤ grownCap w (0 + n) 0 (laysGrow_ren.t 25) := grownCap_ge w _ _ _
    have hz1 : (Value.int IntKind.u8 0).cells.size = 1 := rfl
    simp only [Array.size_append, size_zeroCells, hz1]
    simp only [List.size_toArray, List.length_nil]
    omega
end Go.Proofs.YtcfbfmgckaehdaaDoor
namespace Go.Proofs.YtcfbfmgckaehdaaDoor
open Go.RowKit Go.Proofs.YtcfbfmgckaehdaaDoorW.PrintWords
set_option maxHeartbeats 800000 in
theorem Concat_calls {n0 n1 : Nat} (A0 : Option Addr) (c0 : Nat) (l0 : List Int) (A1 : Option Addr) (c1 : Nat) (l1 : List Int) (g : Nat) (w : World) (hr0 : Rd w A0 n0 l0) (hr1 : Rd w A1 n1 l1)
    (h0 : w.cell? ⟨g, 0, none⟩ = some (.slice A0 n0 c0)) (h1 : w.cell? ⟨g, 1, none⟩ = some (.slice A1 n1 c1)) (hs : n0 + n1 ≤ 140737488355328) :
    Calls Tryd.prog 20 #[.slice (some ⟨g, 0, none⟩) 2 2] w fun e w' => ∃ v0_ : Value, e = .returned (v0_) ∧ Own w w' v0_ (l0 ++ l1) ∧ Below w.heap.size w w' := by
  have HR0 := Lib.hid hr0
  have HR1 := Lib.hid hr1
  have HC0 := Lib.hid h0
  have HC1 := Lib.hid h1
  have hl0 := Kd.C_len hr0
  have hl1 := Kd.C_len hr1
  have HL0 := Lib.hid hl0
  have HL1 := Lib.hid hl1
  clear hr0 hr1 h0 h1 hl0 hl1
  go_enter Tryd.func20, Tryd.ntmps20
  go_wp2
  go_loopw [3, 11] (fun s i wr => w = wr ∧ ((i = .int .i64 0 ∧ s = .int .i64 0) ∨ (i = .int .i64 1 ∧ s = .int .i64 n0) ∨ (i = .int .i64 2 ∧ s = .int .i64 ((n0 : Int) + n1)))) (fun _ i _ => 2 - (intOf i).toNat)
  case atStart => exact ⟨rfl, .inl ⟨rfl, rfl⟩⟩
  case round =>
    obtain ⟨rfl, ⟨rfl, rfl⟩ | ⟨rfl, rfl⟩ | ⟨rfl, rfl⟩⟩ := hrel
    · have hx := HC0.out
      go_wp2
      go_roundw
      case rel => exact ⟨by first | rfl | trivial, .inr (.inl ⟨rfl, rfl⟩)⟩
      case measure => simp [intOf]
    · have hx := HC1.out
      have hw : IntKind.i64.wrap ((n0 : Int) + n1) = n0 + n1 := wrap_id (by omega) (by omega)
      have hd : decide ((n0 : Int) + n1 < 0) = false := decide_eq_false (by omega)
      go_wp2
      go_roundw
      case rel => exact ⟨by first | rfl | trivial, .inr (.inr ⟨rfl, by first | rfl | (rw [hw]) | go_num⟩)⟩
      case measure => simp [intOf]
    · rw [show (n0 : Int) + n1 = ((n0 + n1 : Nat) : Int) by omega]
      go_wp2_with fail
      refine (Grow_calls (n0 + n1) _ hs).mono ?_
      rintro e w1 ⟨v1, rfl, ho1, hb1⟩
      have HO1 := Lib.hid ho1
      have HB1 := Lib.hid hb1
      clear ho1 hb1
      go_wp2
      go_loopw [6, 27] (fun v i wr => ∃ l, Hid (Own w wr v l) ∧ Hid (Below w.heap.size w wr) ∧ ((i = .int .i64 0 ∧ Hid (l = [])) ∨ (i = .int .i64 1 ∧ Hid (l = l0)) ∨ (i = .int .i64 2 ∧ Hid (l = l0 ++ l1)))) (fun _ i _ => 2 - (intOf i).toNat)
      case atStart => exact ⟨[], HO1, HB1, .inl ⟨rfl, Lib.hid rfl⟩⟩
      case round =>
        obtain ⟨l, HO, HB, ⟨rfl, HL⟩ | ⟨rfl, HL⟩ | ⟨rfl, HL⟩⟩ := hrel
        · have hx := pw_cell_below HB.out HC0.out
          go_wp2_with (at_builtin; refine app_row HO.out (Kd.C_below HR0.out HB.out) HB.out (by rw [HL.out]; simp; omega) rfl rfl rfl rfl ?_)
          intro v3 w3 ho3 hb3 _ _
          have HO3 := Lib.hid ho3
          have HB3 := Lib.hid hb3
          have HL3 := Lib.hid (show l ++ l0 = l0 by rw [HL.out]; rfl)
          clear ho3 hb3 hx
          go_wp2
          go_roundw
          case rel => exact ⟨_, HO3, HB3, .inr (.inl ⟨rfl, HL3⟩)⟩
          case measure => simp [intOf]
        · have hx := pw_cell_below HB.out HC1.out
          go_wp2_with (at_builtin; refine app_row HO.out (Kd.C_below HR1.out HB.out) HB.out (by rw [HL.out, HL0.out]; omega) rfl rfl rfl rfl ?_)
          intro v3 w3 ho3 hb3 _ _
          have HO3 := Lib.hid ho3
          have HB3 := Lib.hid hb3
          have HL3 := Lib.hid (show l ++ l1 = l0 ++ l1 by rw [HL.out])
          clear ho3 hb3 hx
          go_wp2
          go_roundw
          case rel => exact ⟨_, HO3, HB3, .inr (.inr ⟨rfl, HL3⟩)⟩
          case measure => simp [intOf]
        · go_wp2
          go_ret
          exact ⟨_, rfl, HO.out.cast HL.out, HB.out⟩
end Go.Proofs.YtcfbfmgckaehdaaDoor
