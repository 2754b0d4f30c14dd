/- The texts Unspell, AuthSigned, UnframeRef, IndexByte, WsAccept, WsRight, WsKey in one. -/
import Derived.Test.YtcfbfmgckaehdaaDoorProg
import Derived.Test.YtcfbfmgckaehdaaDoorG01
import Derived.Test.YtcfbfmgckaehdaaDoorG02
import Derived.Test.YtcfbfmgckaehdaaDoorG04
import Derived.Test.YtcfbfmgckaehdaaDoorG07
import Derived.Test.YtcfbfmgckaehdaaDoorG10
import Derived.Test.YtcfbfmgckaehdaaDoorG11
import Derived.Laws.MakeOwn
import Derived.Lib.BitFns
import Derived.Shelf.Strconv.Itoa0
import Derived.StillTailTactics
import Derived.Lib.Bytealg
import Derived.Lib.IndexBytes
namespace Go.Proofs.YtcfbfmgckaehdaaDoor
open Go.RowKit Go.Proofs.YtcfbfmgckaehdaaDoorW.PrintWords
theorem or_shl6 (x d : Int) (x0 : 0 ≤ x) (x1 : x < 36028797018963968) (d0 : 0 ≤ d) (d1 : d < 64) : bits .or .i64 (x * 64) d = x * 64 + d :=
  bits_join .i64 63 (by decide) wraps_i64 6 (x * 64) d (by omega) (by omega) (by omega) (by omega) (by omega) (by omega)
theorem and_mask (j : Nat) (hj : j ≤ 32) (x : Int) (h0 : 0 ≤ x) (h1 : x < 9223372036854775808) (m : Int) (hm : m = 2 ^ j - 1) : bits .and .i64 x m = x % 2 ^ j := by
  obtain ⟨k, rfl⟩ := Int.eq_ofNat_of_zero_le h0
  have h2 : (2 : Nat) ^ j ≤ 2 ^ 32 := Nat.pow_le_pow_right (by decide) hj
  have h3 : 1 ≤ (2 : Nat) ^ j := Nat.one_le_two_pow
  have h := and_i64 k (2 ^ j - 1) (by omega) (by omega)
  rw [Nat.and_two_pow_sub_one_eq_mod] at h
  have e : m = ((2 ^ j - 1 : Nat) : Int) := by rw [hm, Int.ofNat_sub h3]; simp
  rw [e, h]
  simp
theorem str_reads (W : World) (s : ByteArray) (hs : s.size ≤ 9223372036854775807) : Rd (Lib.bytesWorld W 5 s) (some ⟨W.heap.size, 0, none⟩) s.size (bytesOf s) :=
  Kd.C_of_reads (d := (0 : Int)) (h1 := fun _ => rfl) (bytes_reads W 5 s hs)
set_option maxHeartbeats 1600000 in
theorem Unspell_calls (s : ByteArray) (w : World) (hs : s.size ≤ 35184372088832) :
    Calls Tryd.prog 62 #[.string s] w fun e w' => ∃ v0_ : Value, e = .returned (.tuple #[v0_, .bool (unRun (bytesOf s) 0 0 []).isSome]) ∧ Own w w' v0_ ((unRun (bytesOf s) 0 0 []).getD []) ∧ Below w.heap.size w w' := by
  obtain ⟨R, hR⟩ : ∃ R, R = unRun (bytesOf s) 0 0 [] := ⟨_, rfl⟩
  rw [← hR]
  have HRR := Lib.hid hR
  have HY := Lib.hid (Bytes_bytesOf s)
  have HL := Lib.hid (bytesOf_length s)
  clear hR
  have kb := fun W => print_bytes (P := Tryd.prog) 9 22 5 Tryd.underlying9 Tryd.underlying22 Tryd.underlying5 s W
  go_enter Tryd.func62, Tryd.ntmps62
  go_wp2
  have hr0 := str_reads w s (by omega)
  have hb0 : Below w.heap.size w (Lib.bytesWorld w 5 s) := bytes_below (Below.refl _ _) (Nat.le_refl _) _ _
  obtain ⟨c0, hc0⟩ : ∃ c0, c0 = grownCap w s.size 0 5 := ⟨_, rfl⟩
  rw [← hc0]
  obtain ⟨w0, hw0⟩ : ∃ w0, w0 = Lib.bytesWorld w 5 s := ⟨_, rfl⟩
  rw [← hw0] at hr0 hb0 ⊢
  have HR := Lib.hid hr0
  have HB0 := Lib.hid hb0
  obtain ⟨ad, had⟩ : ∃ ad : Addr, ad = ⟨w.heap.size, 0, none⟩ := ⟨_, rfl⟩
  rw [← had] at HR ⊢
  clear hc0 hr0 hb0 kb had hw0
  go_loopw [4, 5, 6, 13] (fun v hd mn i wr => ∃ (k : Nat) (h : Int) (m : Nat) (O : List Int), k ≤ s.size ∧ i = .int .i64 k ∧ hd = .int .i64 h ∧ mn = .int .i64 m ∧ (m = 0 ∨ m = 2 ∨ m = 4 ∨ m = 6) ∧ ((m = 0 → h = 0) ∧ (m = 2 → h < 4) ∧ (m = 4 → h < 16) ∧ 0 ≤ h ∧ h < 64) ∧ Hid (unRun ((bytesOf s).drop k) h m O = R) ∧ Hid (Own w0 wr v O) ∧ Hid (Below w0.heap.size w0 wr) ∧ O.length ≤ k) (fun _ _ _ i _ => s.size - (intOf i).toNat)
  case atStart => exact ⟨0, 0, 0, [], by omega, rfl, rfl, rfl, by omega, by omega, Lib.hid (by rw [List.drop_zero, HRR.out]), Lib.hid (Own.nil w0 w0), Lib.hid (Below.refl _ _), by simp⟩
  case round =>
    obtain ⟨k, h, m, O, hk, rfl, rfl, rfl, hm, hh, HS, HO, HB, hOl⟩ := hrel
    by_cases hkn : k < s.size
    · have dkn : decide ((k : Int) < s.size) = true := decide_eq_true (by omega)
      obtain ⟨x, hx⟩ : ∃ x, x = rd (bytesOf s) k := ⟨_, rfl⟩
      obtain ⟨x0, x1⟩ := bytes_rd HY.out k (by rw [HL.out]; exact hkn)
      rw [← hx] at x0 x1
      have HDR := Lib.hid (show (bytesOf s).drop k = x :: (bytesOf s).drop (k + 1) by rw [hx]; exact drop_cons _ k (by rw [HL.out]; exact hkn))
      obtain ⟨ad', e, hcell⟩ := Rd.cells (Kd.C_below HR.out HB.out) (by omega)
      cases e
      have hxc := hcell k hkn
      rw [← hx] at hxc
      clear hcell hx
      have hx6 : sixOf x < 64 := by
        by_cases h6 : 0 ≤ sixOf x
        · exact (alpha_sixOf x x0 x1 h6).2
        · omega
      obtain ⟨y, hy⟩ : ∃ y, y = sixOf x := ⟨_, rfl⟩
      rw [← hy] at hx6
      have HYE := Lib.hid hy
      clear hy
      by_cases hy0 : y < 0
      · have dy : decide (y < 0) = true := decide_eq_true hy0
        have HE := Lib.hid (show R = none by rw [← HS.out, HDR.out, unRun, if_pos (by rw [← HYE.out]; exact hy0)])
        go_wp2_with fail
        refine (six_calls x _ x0 x1).mono ?_
        rintro e w1 ⟨rfl, hd1⟩
        have HB1 := Lib.hid (below_step HB.out hd1.below)
        rw [← HYE.out]
        clear hd1
        go_wp2
        go_ret2
        exact ⟨_, by rw [HE.out]; rfl, by rw [HE.out]; exact Own.nil _ _, below_step HB0.out HB1.out⟩
      · have dy : decide (y < 0) = false := decide_eq_false hy0
        have y0 : 0 ≤ y := by omega
        have y1 := hx6
        rcases hm with rfl | rfl | rfl | rfl
        · obtain rfl : h = 0 := hh.1 rfl
          have hor : bits .or .i64 0 y = y := by have := or_shl6 0 y (by omega) (by omega) y0 y1; rwa [Int.zero_mul, Int.zero_add] at this
          have HS2 := Lib.hid (show unRun ((bytesOf s).drop (k + 1)) y 6 O = R by rw [← HS.out, HDR.out, unRun, if_neg (by rw [← HYE.out]; omega), if_neg (by omega), ← HYE.out]; simp)
          go_wp2_with fail
          refine (six_calls x _ x0 x1).mono ?_
          rintro e w1 ⟨rfl, hd1⟩
          have HB1 := Lib.hid (below_step HB.out hd1.below)
          have HO1 := Lib.hid (HO.out.below hd1.below)
          rw [← HYE.out]
          clear hd1
          go_wp2
          go_roundw
          case rel => exact ⟨k + 1, y, 6, O, by omega, by go_num, by go_num, rfl, by omega, by omega, HS2, HO1, HB1, by omega⟩
          case measure => simp [intOf]; omega
        · have hor : bits .or .i64 (h * 64) y = h * 64 + y := or_shl6 h y (by omega) (by omega) y0 y1
          have hwh : IntKind.i64.wrap (h * 64) = h * 64 := wrap_id (by omega) (by omega)
          obtain ⟨Hh, hH⟩ : ∃ Hh, Hh = h * 64 + y := ⟨_, rfl⟩
          rw [← hH] at hor
          have hH0 : 0 ≤ Hh ∧ Hh < 4096 := by omega
          have hand : bits .and .i64 Hh 0 = Hh % 1 := and_mask 0 (by omega) Hh (by omega) (by omega) 0 (by decide)
          have hu8 : IntKind.u8.wrap (Hh) = Hh % 256 := by rw [IntKind.wrap_u8]
          have HS2 := Lib.hid (show unRun ((bytesOf s).drop (k + 1)) (Hh % 1) 0 (O ++ [Hh % 256]) = R by rw [← HS.out, HDR.out, unRun, if_neg (by rw [← HYE.out]; omega), if_pos (by omega), ← HYE.out, ← hH]; simp)
          clear hH
          go_wp2_with fail
          refine (six_calls x _ x0 x1).mono ?_
          rintro e w1 ⟨rfl, hd1⟩
          have HB1 := Lib.hid (below_step HB.out hd1.below)
          have HO1 := Lib.hid (HO.out.below hd1.below)
          rw [← HYE.out]
          clear hd1
          go_wp2_with (at_builtin; refine app_one HO1.out HB1.out (by omega) rfl rfl rfl rfl ?_)
          intro v3 w3 ho3 hb3 _ _
          have HO3 := Lib.hid (ho3.cast (show _ = O ++ [Hh % 256] from by first | rfl | rw [hu8]))
          have HB3 := Lib.hid hb3
          clear ho3 hb3
          go_wp2
          go_roundw
          case rel => exact ⟨k + 1, Hh % 1, 0, O ++ [Hh % 256], by omega, by go_num, by first | rfl | go_num, rfl, by omega, by omega, HS2, HO3, HB3, by simp; omega⟩
          case measure => simp [intOf]; omega
        · have hor : bits .or .i64 (h * 64) y = h * 64 + y := or_shl6 h y (by omega) (by omega) y0 y1
          have hwh : IntKind.i64.wrap (h * 64) = h * 64 := wrap_id (by omega) (by omega)
          obtain ⟨Hh, hH⟩ : ∃ Hh, Hh = h * 64 + y := ⟨_, rfl⟩
          rw [← hH] at hor
          have hH0 : 0 ≤ Hh ∧ Hh < 4096 := by omega
          have hand : bits .and .i64 Hh 3 = Hh % 4 := and_mask 2 (by omega) Hh (by omega) (by omega) 3 (by decide)
          have hu8 : IntKind.u8.wrap (Hh / 4) = Hh / 4 % 256 := by rw [IntKind.wrap_u8]
          have HS2 := Lib.hid (show unRun ((bytesOf s).drop (k + 1)) (Hh % 4) 2 (O ++ [Hh / 4 % 256]) = R by rw [← HS.out, HDR.out, unRun, if_neg (by rw [← HYE.out]; omega), if_pos (by omega), ← HYE.out, ← hH]; simp)
          clear hH
          go_wp2_with fail
          refine (six_calls x _ x0 x1).mono ?_
          rintro e w1 ⟨rfl, hd1⟩
          have HB1 := Lib.hid (below_step HB.out hd1.below)
          have HO1 := Lib.hid (HO.out.below hd1.below)
          rw [← HYE.out]
          clear hd1
          go_wp2_with (at_builtin; refine app_one HO1.out HB1.out (by omega) rfl rfl rfl rfl ?_)
          intro v3 w3 ho3 hb3 _ _
          have HO3 := Lib.hid (ho3.cast (show _ = O ++ [Hh / 4 % 256] from by first | rfl | rw [hu8]))
          have HB3 := Lib.hid hb3
          clear ho3 hb3
          go_wp2
          go_roundw
          case rel => exact ⟨k + 1, Hh % 4, 2, O ++ [Hh / 4 % 256], by omega, by go_num, by first | rfl | go_num, rfl, by omega, by omega, HS2, HO3, HB3, by simp; omega⟩
          case measure => simp [intOf]; omega
        · have hor : bits .or .i64 (h * 64) y = h * 64 + y := or_shl6 h y (by omega) (by omega) y0 y1
          have hwh : IntKind.i64.wrap (h * 64) = h * 64 := wrap_id (by omega) (by omega)
          obtain ⟨Hh, hH⟩ : ∃ Hh, Hh = h * 64 + y := ⟨_, rfl⟩
          rw [← hH] at hor
          have hH0 : 0 ≤ Hh ∧ Hh < 4096 := by omega
          have hand : bits .and .i64 Hh 15 = Hh % 16 := and_mask 4 (by omega) Hh (by omega) (by omega) 15 (by decide)
          have hu8 : IntKind.u8.wrap (Hh / 16) = Hh / 16 % 256 := by rw [IntKind.wrap_u8]
          have HS2 := Lib.hid (show unRun ((bytesOf s).drop (k + 1)) (Hh % 16) 4 (O ++ [Hh / 16 % 256]) = R by rw [← HS.out, HDR.out, unRun, if_neg (by rw [← HYE.out]; omega), if_pos (by omega), ← HYE.out, ← hH]; simp)
          clear hH
          go_wp2_with fail
          refine (six_calls x _ x0 x1).mono ?_
          rintro e w1 ⟨rfl, hd1⟩
          have HB1 := Lib.hid (below_step HB.out hd1.below)
          have HO1 := Lib.hid (HO.out.below hd1.below)
          rw [← HYE.out]
          clear hd1
          go_wp2_with (at_builtin; refine app_one HO1.out HB1.out (by omega) rfl rfl rfl rfl ?_)
          intro v3 w3 ho3 hb3 _ _
          have HO3 := Lib.hid (ho3.cast (show _ = O ++ [Hh / 16 % 256] from by first | rfl | rw [hu8]))
          have HB3 := Lib.hid hb3
          clear ho3 hb3
          go_wp2
          go_roundw
          case rel => exact ⟨k + 1, Hh % 16, 4, O ++ [Hh / 16 % 256], by omega, by go_num, by first | rfl | go_num, rfl, by omega, by omega, HS2, HO3, HB3, by simp; omega⟩
          case measure => simp [intOf]; omega
    · obtain rfl : k = s.size := by omega
      have dkn : decide ((s.size : Int) < s.size) = false := decide_eq_false (by omega)
      have HD := Lib.hid (show (bytesOf s).drop s.size = [] from List.drop_of_length_le (by rw [HL.out]; exact Nat.le_refl _))
      by_cases hne : m = 6 ∨ h ≠ 0
      · have HE := Lib.hid (show R = none by rw [← HS.out, HD.out, unRun, if_pos hne])
        by_cases h6 : m = 6
        case' pos =>
          have d6 : ((m : Int) == 6) = true := beq_iff_eq.2 (by omega)
        case' neg =>
          have d6 : ((m : Int) == 6) = false := beq_eq_false_iff_ne.2 (by omega)
          have d7 : (h == 0) = false := beq_eq_false_iff_ne.2 (by omega)
          have d8 : (h != 0) = true := by rw [bne, d7]; rfl
        all_goals
          clear hm hh hne h6
          go_wp2
          go_ret2
          exact ⟨_, by rw [HE.out]; rfl, by rw [HE.out]; exact Own.nil _ _, below_step HB0.out HB.out⟩
      · have HE := Lib.hid (show R = some O by rw [← HS.out, HD.out, unRun, if_neg hne])
        have d6 : ((m : Int) == 6) = false := beq_eq_false_iff_ne.2 (by omega)
        obtain rfl : h = 0 := by omega
        clear hm hh hne
        go_wp2
        go_ret2
        exact ⟨_, by rw [HE.out]; rfl, by rw [HE.out]; exact HO.out.lower HB0.out.size, below_step HB0.out HB.out⟩
end Go.Proofs.YtcfbfmgckaehdaaDoor
namespace Go.Proofs.YtcfbfmgckaehdaaDoor
open Go.RowKit Go.Proofs.YtcfbfmgckaehdaaDoorW.PrintWords
theorem run_add_ (P : Program) (a b : ByteArray) (w : World) (h : a.size + b.size ≤ 9223372036854775807) : (Op.stringOp .add a b).run P w = .ok (.string (a ++ b)) w := run_string_add_sum w a b h
end Go.Proofs.YtcfbfmgckaehdaaDoor
namespace Go.Proofs.YtcfbfmgckaehdaaDoor
open Go.RowKit Go.Proofs.YtcfbfmgckaehdaaDoorW.PrintWords
theorem Rd.len {w : World} {A : Option Addr} {n m : Nat} {l : List Int} (h : Rd w A n l) (e : m = n) : Rd w A m l := e ▸ h
end Go.Proofs.YtcfbfmgckaehdaaDoor
namespace Go.Proofs.YtcfbfmgckaehdaaDoor
open Go.RowKit Go.Proofs.YtcfbfmgckaehdaaDoorW.PrintWords
/-- Where a byte stands first; the length, if it does not. -/
def posOf (c : Int) : List Int → Nat
  | [] => 0
  | x :: t => if x = c then 0 else posOf c t + 1
theorem indexByte_pos (c : Nat) (hc : c < 256) : ∀ (l : List UInt8), Lib.indexByte l (c : Int).toNat.toUInt8 = if posOf c (l.map fun b => (b.toNat : Int)) < l.length then ((posOf c (l.map fun b => (b.toNat : Int)) : Nat) : Int) else -1
  | [] => rfl
  | b :: t => by
    have ih := indexByte_pos c hc t
    have hcc : ((c : Int).toNat.toUInt8).toNat = c := by
      rw [Int.toNat_natCast]
      exact UInt8.toNat_ofNat_of_lt' hc
    rw [Lib.indexByte, List.map_cons, posOf]
    by_cases hb : (b.toNat : Int) = c
    · have e : (b == (c : Int).toNat.toUInt8) = true := by
        rw [beq_iff_eq]
        apply UInt8.toNat_inj.1
        rw [hcc]
        omega
      rw [e, if_pos rfl, if_pos hb, if_pos (by simp)]
      rfl
    · have e : (b == (c : Int).toNat.toUInt8) = false := by
        rw [beq_eq_false_iff_ne]
        intro h
        apply hb
        rw [h, hcc]
      rw [e, if_neg (by simp), if_neg hb, ih]
      by_cases h2 : posOf c (t.map fun b => (b.toNat : Int)) < t.length
      · rw [if_pos h2, if_neg (by rw [beq_iff_eq]; omega), if_pos (by simp only [List.length_cons]; omega)]
        omega
      · rw [if_neg h2, if_pos (by decide), if_neg (by simp only [List.length_cons]; omega)]
theorem indexByte_str (c : Nat) (hc : c < 256) (s : ByteArray) : Lib.indexByte s.data.toList (c : Int).toNat.toUInt8 = if posOf c (bytesOf s) < s.size then ((posOf c (bytesOf s) : Nat) : Int) else -1 := by
  have h := indexByte_pos c hc s.data.toList
  rw [data_length] at h
  exact h
set_option maxRecDepth 20000 in
set_option maxHeartbeats 400000 in
theorem litIndexByte_calls (s : ByteArray) (c : Nat) (hc : c < 256) (w : World) :
    Calls Tryd.prog 71 #[.string s, .int .u8 c] w fun e w' => e = .returned (.int .i64 (if posOf c (bytesOf s) < s.size then ((posOf c (bytesOf s) : Nat) : Int) else -1)) ∧ w' = w := by
  rw [← indexByte_str c hc s]
  go_enter Tryd.func71, Tryd.ntmps71
  go_wp2
  rw [run_callFunc_extern Tryd.func75 (by kernel_rfl) (by kernel_rfl) (by kernel_rfl) (e := Extern.BytealgIndexByte.indexByte) (by kernel_rfl), Lib.run_indexByteString]
  simp only [Result.andThen]
  rw [Oper.upon_value]
  go_wp2
  go_ret
  exact ⟨rfl, rfl⟩
set_option maxRecDepth 20000 in
set_option maxHeartbeats 400000 in
theorem IndexByte_calls (s : ByteArray) (c : Nat) (hc : c < 256) (w : World) :
    Calls Tryd.prog 61 #[.string s, .int .u8 c] w fun e w' => e = .returned (.int .i64 (if posOf c (bytesOf s) < s.size then ((posOf c (bytesOf s) : Nat) : Int) else -1)) ∧ w' = w := by
  obtain ⟨r, hr⟩ : ∃ r, r = (if posOf c (bytesOf s) < s.size then ((posOf c (bytesOf s) : Nat) : Int) else -1) := ⟨_, rfl⟩
  rw [← hr]
  have HR := Lib.hid hr
  clear hr
  go_enter Tryd.func61, Tryd.ntmps61
  go_wp2_with fail
  refine (litIndexByte_calls s c hc _).mono ?_
  rintro e w1 ⟨rfl, rfl⟩
  rw [← HR.out]
  go_wp2
  go_ret
  exact ⟨rfl, rfl⟩
end Go.Proofs.YtcfbfmgckaehdaaDoor
namespace Go.Proofs.YtcfbfmgckaehdaaDoor
open Go.RowKit Go.Proofs.YtcfbfmgckaehdaaDoorW.PrintWords
set_option maxRecDepth 20000 in
theorem Count_none (s t : ByteArray) (c : Nat) (hc : c < 256) (ht : t = ⟨#[UInt8.ofNat c]⟩) (h : Lib.countByte s.data.toList (c : Int).toNat.toUInt8 = 0) (w : World) :
    Calls Tryd.prog 76 #[.string s, .string t] w fun e w' => e = .returned (.int .i64 0) ∧ w' = w := by
  have h1 : t.size = 1 := by rw [ht]; rfl
  have hb : ∀ h, ((t[0]'h).toNat : Int) = c := by
    subst ht
    intro h
    show (((UInt8.ofNat c).toNat : Nat) : Int) = c
    rw [UInt8.toNat_ofNat_of_lt' (by show c < 256; omega)]
  have i0 : 0 < t.size := by omega
  have HC := Lib.hid h
  clear ht h
  obtain ⟨m, hm⟩ : ∃ m : Nat, m = t.size := ⟨_, rfl⟩
  go_enter Tryd.func76, Tryd.ntmps76
  go_wp2
  rw [run_callFunc_extern Tryd.func83 (by kernel_rfl) (by kernel_rfl) (by kernel_rfl) (e := Extern.BytealgCount.count) (by kernel_rfl), Lib.run_countString, HC.out]
  simp only [Result.andThen]
  rw [Oper.upon_value]
  go_wp2
  go_ret
  exact ⟨rfl, rfl⟩
set_option maxRecDepth 20000 in
theorem Replace_none (s t u : ByteArray) (c : Nat) (hc : c < 256) (ht : t = ⟨#[UInt8.ofNat c]⟩) (hne : (t.toList == u.toList) = false) (h : Lib.countByte s.data.toList (c : Int).toNat.toUInt8 = 0) (w : World) :
    Calls Tryd.prog 73 #[.string s, .string t, .string u, .int .i64 (-1)] w fun e w' => e = .returned (.string s) ∧ w' = w := by
  have hq : (t.toList == u.toList) = false := hne
  have HT := Lib.hid ht
  have HH := Lib.hid h
  clear ht h hne
  go_enter Tryd.func73, Tryd.ntmps73
  go_wp2_with fail
  refine (Count_none s t c hc HT.out HH.out _).mono ?_
  rintro e w1 ⟨rfl, rfl⟩
  go_wp2
  go_ret
  exact ⟨rfl, rfl⟩
set_option maxRecDepth 20000 in
theorem ReplaceAll_none (s t u : ByteArray) (c : Nat) (hc : c < 256) (ht : t = ⟨#[UInt8.ofNat c]⟩) (hne : (t.toList == u.toList) = false) (h : Lib.countByte s.data.toList (c : Int).toNat.toUInt8 = 0) (w : World) :
    Calls Tryd.prog 63 #[.string s, .string t, .string u] w fun e w' => e = .returned (.string s) ∧ w' = w := by
  have HT := Lib.hid ht
  have HN := Lib.hid hne
  have HH := Lib.hid h
  clear ht h hne
  go_enter Tryd.func63, Tryd.ntmps63
  go_wp2_with fail
  refine (Replace_none s t u c hc HT.out HN.out HH.out _).mono ?_
  rintro e w1 ⟨rfl, rfl⟩
  go_wp2
  go_ret
  exact ⟨rfl, rfl⟩
theorem HasSuffix_yes (s t : ByteArray) (n m : Nat) (hn : s.size = n) (hm : t.size = m) (hle : m ≤ n) (hs : n ≤ 1099511627776) (h : ((s.extract (n - m) n).toList == t.toList) = true) (w : World) :
    Calls Tryd.prog 74 #[.string s, .string t] w fun e w' => e = .returned (.bool true) ∧ w' = w := by
  have d1 : decide (m ≤ n) = true := decide_eq_true hle
  have w1 : IntKind.i64.wrap ((n : Int) - m) = (n : Int) - m := wrap_id (by omega) (by omega)
  have i0 : (0 : Int) ≤ (n : Int) - m := by omega
  have i1 : (m : Int) ≤ n := by omega
  have i2 : (n : Int) - m ≤ n := by omega
  have t1 : ((n : Int) - m).toNat = n - m := by omega
  go_enter Tryd.func74, Tryd.ntmps74
  go_wp2
  go_ret
  exact ⟨rfl, rfl⟩
theorem litCutSuffix_yes (s t : ByteArray) (n m : Nat) (hn : s.size = n) (hm : t.size = m) (hle : m ≤ n) (hs : n ≤ 1099511627776) (h : ((s.extract (n - m) n).toList == t.toList) = true) (w : World) :
    Calls Tryd.prog 70 #[.string s, .string t] w fun e w' => e = .returned (.tuple #[.string (s.extract 0 (n - m)), .bool true]) ∧ w' = w := by
  have w1 : IntKind.i64.wrap ((n : Int) - m) = (n : Int) - m := wrap_id (by omega) (by omega)
  have i0 : (0 : Int) ≤ (n : Int) - m := by omega
  have i1 : (m : Int) ≤ n := by omega
  have i2 : (n : Int) - m ≤ n := by omega
  have t1 : ((n : Int) - m).toNat = n - m := by omega
  go_enter Tryd.func70, Tryd.ntmps70
  go_wp2_with fail
  refine (HasSuffix_yes s t n m hn hm hle hs h _).mono ?_
  rintro e w1 ⟨rfl, rfl⟩
  go_wp2
  go_ret2
  exact ⟨rfl, rfl⟩
theorem CutSuffix_yes (s t : ByteArray) (n m : Nat) (hn : s.size = n) (hm : t.size = m) (hle : m ≤ n) (hs : n ≤ 1099511627776) (h : ((s.extract (n - m) n).toList == t.toList) = true) (w : World) :
    Calls Tryd.prog 60 #[.string s, .string t] w fun e w' => e = .returned (.tuple #[.string (s.extract 0 (n - m)), .bool true]) ∧ w' = w := by
  go_enter Tryd.func60, Tryd.ntmps60
  go_wp2_with fail
  refine (litCutSuffix_yes s t n m hn hm hle hs h _).mono ?_
  rintro e w1 ⟨rfl, rfl⟩
  go_wp2
  go_ret2
  exact ⟨rfl, rfl⟩
end Go.Proofs.YtcfbfmgckaehdaaDoor
namespace Go.Proofs.YtcfbfmgckaehdaaDoor
open Go.RowKit Go.Proofs.YtcfbfmgckaehdaaDoorW.PrintWords
/-- K is a key: what it spells ahead of its two signs is q. -/
structure KeyOk (K S : ByteArray) (q : List Int) : Prop where
  size : K.size = 24
  cut : K.extract 0 (24 - 2) = S
  end2 : ((K.extract (24 - 2) 24).toList == (⟨#[61, 61]⟩ : ByteArray).toList) = true
  no45 : (if posOf ((45 : Nat) : Int) (bytesOf S) < S.size then ((posOf ((45 : Nat) : Int) (bytesOf S) : Nat) : Int) else -1) = -1
  no95 : (if posOf ((95 : Nat) : Int) (bytesOf S) < S.size then ((posOf ((95 : Nat) : Int) (bytesOf S) : Nat) : Int) else -1) = -1
  no43 : Lib.countByte S.data.toList ((43 : Nat) : Int).toNat.toUInt8 = 0
  no47 : Lib.countByte S.data.toList ((47 : Nat) : Int).toNat.toUInt8 = 0
  short : S.size ≤ 35184372088832
  spelt : unRun (bytesOf S) 0 0 [] = some q
  len : q.length = 16
theorem lit_ne (a b : UInt8) (h : (a == b) = false) : ((⟨#[a]⟩ : ByteArray).toList == (⟨#[b]⟩ : ByteArray).toList) = false := by
  rw [ByteArray.toList_eq, ByteArray.toList_eq]
  show ([a] == [b]) = false
  simpa using h
set_option maxHeartbeats 1600000 in
theorem right_yes (K S : ByteArray) (q : List Int) (h : KeyOk K S q) (w : World) :
    Calls Tryd.prog 55 #[.string K] w fun e w' => e = .returned (.bool true) ∧ Below w.heap.size w w' := by
  have H := Lib.hid h
  clear h
  go_enter Tryd.func55, Tryd.ntmps55
  go_wp2_with fail
  refine (CutSuffix_yes K ⟨#[61, 61]⟩ 24 2 H.out.size rfl (by decide) (by decide) H.out.end2 _).mono ?_
  rintro e w1 ⟨rfl, rfl⟩
  rw [H.out.cut]
  go_wp2_with fail
  refine (IndexByte_calls S 45 (by decide) _).mono ?_
  rintro e w2 ⟨rfl, rfl⟩
  rw [H.out.no45]
  go_wp2_with fail
  refine (IndexByte_calls S 95 (by decide) _).mono ?_
  rintro e w3 ⟨rfl, rfl⟩
  rw [H.out.no95]
  go_wp2_with fail
  refine (ReplaceAll_none S ⟨#[43]⟩ ⟨#[45]⟩ 43 (by decide) rfl (lit_ne _ _ (by decide)) H.out.no43 _).mono ?_
  rintro e w4 ⟨rfl, rfl⟩
  go_wp2_with fail
  refine (ReplaceAll_none S ⟨#[47]⟩ ⟨#[95]⟩ 47 (by decide) rfl (lit_ne _ _ (by decide)) H.out.no47 _).mono ?_
  rintro e w5 ⟨rfl, rfl⟩
  go_wp2_with fail
  refine (Unspell_calls S _ H.out.short).mono ?_
  rintro e w6 ⟨v6, rfl, ho6, hb6⟩
  rw [H.out.spelt] at ho6 ⊢
  obtain ⟨A6, c6, rfl, _, _⟩ := ho6.reads
  have e1 : ((some q).getD []).length = 16 := H.out.len
  have e2 : (some q).isSome = true := rfl
  rw [e1, e2]
  have HB := Lib.hid hb6
  clear ho6 hb6 e1 e2
  go_wp2
  go_ret
  exact ⟨rfl, HB.out⟩
end Go.Proofs.YtcfbfmgckaehdaaDoor
namespace Go.Proofs.YtcfbfmgckaehdaaDoor
open Go.RowKit Go.Proofs.YtcfbfmgckaehdaaDoorW.PrintWords
/-- What every key is followed by. -/
def guid : ByteArray := ⟨#[50, 53, 56, 69, 65, 70, 65, 53, 45, 69, 57, 49, 52, 45, 52, 55, 68, 65, 45, 57, 53, 67, 65, 45, 67, 53, 65, 66, 48, 68, 67, 56, 53, 66, 49, 49]⟩
set_option maxRecDepth 20000 in
set_option maxHeartbeats 1600000 in
theorem Accept_yes (K S T : ByteArray) (q dg : List Int) (R : ByteArray) (h : KeyOk K S q) (hT : K ++ guid = T) (hTs : T.size ≤ 1099511627776) (hd : sha1 (bytesOf T) = dg) (hl : dg.length = 20) (hR : strOfNums (b64 dg) = R) (w : World) :
    Calls Tryd.prog 37 #[.string K] w fun e w' => e = .returned (.tuple #[.string R, .int .i64 0]) ∧ Below w.heap.size w w' := by
  have HK := Lib.hid h
  have HT := Lib.hid (show K ++ ⟨#[50, 53, 56, 69, 65, 70, 65, 53, 45, 69, 57, 49, 52, 45, 52, 55, 68, 65, 45, 57, 53, 67, 65, 45, 67, 53, 65, 66, 48, 68, 67, 56, 53, 66, 49, 49]⟩ = T from hT)
  have HD := Lib.hid (show sha1 (bytesOf T) = dg ∧ dg.length = 20 ∧ strOfNums (b64 dg) = R ∧ T.size ≤ 1099511627776 from ⟨hd, hl, hR, hTs⟩)
  clear h hT hd hl hR hTs
  have kb := fun W => print_bytes (P := Tryd.prog) 9 22 5 Tryd.underlying9 Tryd.underlying22 Tryd.underlying5 T W
  have add1 : ∀ W, (Op.stringOp .add K ⟨#[50, 53, 56, 69, 65, 70, 65, 53, 45, 69, 57, 49, 52, 45, 52, 55, 68, 65, 45, 57, 53, 67, 65, 45, 67, 53, 65, 66, 48, 68, 67, 56, 53, 66, 49, 49]⟩).run Tryd.prog W = .ok (.string T) W := fun W => by rw [← HT.out]; exact run_add_ _ _ _ _ (by rw [HK.out.size]; decide)
  go_enter Tryd.func37, Tryd.ntmps37
  go_wp2_with fail
  refine (right_yes K S q HK.out _).mono ?_
  rintro e w1 ⟨rfl, hb1⟩
  have HB1 := Lib.hid hb1
  clear hb1
  go_wp2_with fail
  refine (Sha1_calls _ _ _ _ (str_reads w1 T (by have := HD.out; omega)) (Bytes_bytesOf T) (grownCap_ge _ _ _ _) HD.out.2.2.2).mono ?_
  rintro e w2 ⟨rfl, hb2⟩
  rw [HD.out.1]
  have hb02 : Below w.heap.size w w2 := below_step (bytes_below HB1.out HB1.out.size _ _) hb2
  obtain ⟨g, hg⟩ : ∃ g, g = w2.heap.size := ⟨_, rfl⟩
  obtain ⟨W3, hW3⟩ : ∃ W3, W3 = w2.alloc (.cells #[.int .u8 0, .int .u8 0, .int .u8 0, .int .u8 0, .int .u8 0, .int .u8 0, .int .u8 0, .int .u8 0, .int .u8 0, .int .u8 0, .int .u8 0, .int .u8 0, .int .u8 0, .int .u8 0, .int .u8 0, .int .u8 0, .int .u8 0, .int .u8 0, .int .u8 0, .int .u8 0] 91) := ⟨_, rfl⟩
  have hk : Blk W3 g 91 .u8 (List.replicate 20 0) := by rw [hW3, hg]; exact Blk.new w2 91 .u8 (List.replicate 20 0)
  have HB3 := Lib.hid (show Below w.heap.size w W3 ∧ w.heap.size ≤ g from ⟨below_step hb02 (by rw [hW3]; exact below_alloc (Below.refl _ _) _), by rw [hg]; exact hb02.size⟩)
  have HK3 := Lib.hid hk
  have HW := Lib.hid (show g = w2.heap.size ∧ W3 = w2.alloc _ from ⟨hg, hW3⟩)
  clear hb2 hb02 hg hW3 hk kb add1
  go_upto_region 4 with (refine gate_ (.store 91 (.tmp 4) (.tmp 11)) rfl ?_; rw [← HW.out.1, ← HW.out.2]; refine store_blk2 (m := dg) rfl rfl rfl rfl rfl HK3.out (by rw [HD.out.2.1]; rfl) (by rw [HD.out.2.1]; kernel_rfl) ?_; intro w5 hk5 hb5 _; have HK5 := Lib.hid hk5; have HB5 := Lib.hid (hb5 _ _ HB3.out.1 HB3.out.2); clear hk5 hb5)
  have hrow := HK5.out.row (by rw [HD.out.2.1]; decide)
  rw [HD.out.2.1] at hrow
  have HR := Lib.hid hrow
  clear hrow
  go_wp2_with fail
  refine (Base64_calls _ _ dg _ HR.out (by rw [← HD.out.1]; exact sha1_Bytes _) (by decide) (by decide)).mono ?_
  rintro e w6 ⟨rfl, hb6⟩
  rw [HD.out.2.2.1]
  have HB6 := Lib.hid (below_step HB5.out hb6)
  clear hb6
  go_wp2
  go_ret2
  exact ⟨rfl, HB6.out⟩
end Go.Proofs.YtcfbfmgckaehdaaDoor
