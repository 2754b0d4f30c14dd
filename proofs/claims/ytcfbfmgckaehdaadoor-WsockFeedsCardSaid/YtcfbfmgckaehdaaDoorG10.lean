/- The texts Sec, Sha256, Base64, MacLaw, Awake in one. -/
import Derived.Test.YtcfbfmgckaehdaaDoorG01
import Derived.Test.YtcfbfmgckaehdaaDoorG03
import Derived.Test.YtcfbfmgckaehdaaDoorG06
import Derived.Test.YtcfbfmgckaehdaaDoorG07
import Derived.ArgAppend
import Derived.Lib.SmallJoins
namespace Go.Proofs.YtcfbfmgckaehdaaDoor
open Go.RowKit Go.Proofs.YtcfbfmgckaehdaaDoorW.PrintWords
structure Sec where
  id : Int
  key : List Int
structure Clm where
  client : ByteArray
  group : ByteArray
  upto : Int
/-- A claim's cells. -/
def Clm.cells (c : Clm) : Array Value := #[.string c.client, .string c.group, .int .i64 c.upto]
def Clm.none : Clm := ⟨ByteArray.empty, ByteArray.empty, 0⟩
def Sec.none : Sec := ⟨0, []⟩
def secK : Kd Sec := Kd.iso (Kd.pair (Kd.int .i64) (Kd.slice 5 (Kd.int .u8))) (fun x : Sec => (x.id, x.key))
abbrev RdS (w : World) (A : Option Addr) (n : Nat) (L : List Sec) : Prop := Kd.C secK w A n L
theorem RdS.at {w : World} {A : Option Addr} {n : Nat} {L : List Sec} (h : RdS w A n L) (i : Nat) (hi : i < n) : ∃ ad Ai ci, A = some ad ∧ w.cell? (ad.add (i * 2)) = some (.int .i64 (L.getD i Sec.none).id) ∧
    w.cell? ⟨(ad.add (i * 2)).block, (ad.add (i * 2)).off + 1, none⟩ = some (.slice Ai (L.getD i Sec.none).key.length ci) ∧ (L.getD i Sec.none).key.length ≤ ci ∧ Rd w Ai (L.getD i Sec.none).key.length (L.getD i Sec.none).key := by
  obtain ⟨ad, c, e, _, hK, hc0⟩ := Kd.C_get h Sec.none (i : Int) (by omega) (by omega)
  simp only [Int.toNat_natCast] at hK hc0
  have hc : ∀ j u, c[j]? = some u → w.cell? (ad.add (i * 2 + j)) = some u := hc0
  obtain ⟨_, _, rfl, rfl, ⟨Ai, ci, rfl, l1, g1⟩⟩ := hK
  exact ⟨ad, Ai, ci, e, hc 0 _ rfl, by rw [← add_field _ _ 1 (by omega)]; exact hc 1 _ rfl, l1, g1⟩
/-- Every key's numbers are bytes, every ID is one of 64 bits. -/
def SecOk (L : List Sec) : Prop := ∀ s ∈ L, Bytes s.key ∧ -9223372036854775808 ≤ s.id ∧ s.id ≤ 9223372036854775807
theorem SecOk.at {L : List Sec} (h : SecOk L) (i : Nat) (hi : i < L.length) : Bytes (L.getD i Sec.none).key ∧ -9223372036854775808 ≤ (L.getD i Sec.none).id ∧ (L.getD i Sec.none).id ≤ 9223372036854775807 := by
  rw [List.getD_eq_getElem?_getD, List.getElem?_eq_getElem hi]
  exact h _ (List.getElem_mem hi)
end Go.Proofs.YtcfbfmgckaehdaaDoor
namespace Go.Proofs.YtcfbfmgckaehdaaDoor
open Go.RowKit Go.Proofs.YtcfbfmgckaehdaaDoorW.PrintWords
def St8.l (s : St8) : List Int := [s.a, s.b, s.c, s.d, s.e, s.f, s.g, s.h]
def St8.ok (s : St8) : Prop := Ws s.l
end Go.Proofs.YtcfbfmgckaehdaaDoor
namespace Go.Proofs.YtcfbfmgckaehdaaDoor
open Go.RowKit Go.Proofs.YtcfbfmgckaehdaaDoorW.PrintWords
/-- The letters, in their order. -/
def b64S : ByteArray := ⟨#[65, 66, 67, 68, 69, 70, 71, 72, 73, 74, 75, 76, 77, 78, 79, 80, 81, 82, 83, 84, 85, 86, 87, 88, 89, 90, 97, 98, 99, 100, 101, 102, 103, 104, 105, 106, 107, 108, 109, 110, 111, 112, 113, 114, 115, 116, 117, 118, 119, 120, 121, 122, 48, 49, 50, 51, 52, 53, 54, 55, 56, 57, 43, 47]⟩
def b64L (n : Int) : Int := bt b64S n
/-- The i-th letter of three bytes, of which n are there. -/
def quad (x : Int) (n i : Nat) : Int := if n < i then 61 else b64L (x / 2 ^ (18 - 6 * i) % 64)
def x3 (l : List Int) : Int := rd l 0 * 65536 + rd l 1 * 256 + rd l 2
/-- Four letters of the first bytes. -/
def grp (l : List Int) : List Int := (List.range 4).map (quad (x3 l) (min 3 l.length))
/-- Bytes in base64, filled up. -/
def b64 : List Int → List Int
  | [] => []
  | [a] => grp [a]
  | [a, b] => grp [a, b]
  | a :: b :: c :: t => grp [a, b, c] ++ b64 t
theorem b64_step : ∀ (l : List Int), 0 < l.length → b64 l = grp l ++ b64 (l.drop (min 3 l.length))
  | [a], _ => by simp [b64]
  | [a, b], _ => by simp [b64]
  | a :: b :: c :: t, _ => by
    have e1 : min 3 (a :: b :: c :: t).length = 3 := by simp
    have e2 : grp (a :: b :: c :: t) = grp [a, b, c] := by
      unfold grp
      rw [e1]
      rfl
    rw [e2, e1, b64]
    rfl
theorem wrap_idn {x : Int} (h0 : 0 ≤ x) (h1 : x < 9223372036854775808) : IntKind.i64.wrap x = x := by rw [IntKind.wrap_i64]; omega
theorem and_63' (x : Int) (h0 : 0 ≤ x) (h1 : x < 9223372036854775808) : bits .and .i64 x 63 = x % 64 := by
  obtain ⟨k, rfl⟩ := Int.eq_ofNat_of_zero_le h0
  have h := and_i64 k 63 (by omega) (by omega)
  have e : k &&& 63 = k % 64 := Nat.and_two_pow_sub_one_eq_mod k 6
  rw [e] at h
  exact h.trans (by omega)
theorem or3 (a b c : Int) (a0 : 0 ≤ a) (a1 : a < 256) (b0 : 0 ≤ b) (b1 : b < 256) (c0 : 0 ≤ c) (c1 : c < 256) : bits .or .i64 (bits .or .i64 (a * 65536) (b * 256)) c = a * 65536 + b * 256 + c := by
  rw [bits_join .i64 63 (by decide) wraps_i64 16 (a * 65536) (b * 256) (by omega) (by omega) (by omega) (by omega) (by omega) (by omega),
    bits_join .i64 63 (by decide) wraps_i64 8 (a * 65536 + b * 256) c (by omega) (by omega) (by omega) (by omega) (by omega) (by omega)]
/-- copy of the first bytes of a row into a block's part. -/
theorem Blk.copyMin {w : World} {g t off m c dLen dCap ty : Nat} {a : Addr} {l ys : List Int} (h : Blk w g t .u8 l) (hr : Rd w (some a) m ys) (ho : off + min m dLen ≤ l.length) :
    (Builtin.copy_ #[22, 22] ty #[.slice (some ⟨g, off, none⟩) dLen dCap, .slice (some a) m c]).run Tryd.prog w = .ok (.int .i64 (min m dLen : Nat)) (w.setCells g off (nums .u8 (ys.take (min m dLen)))) ∧ Blk (w.setCells g off (nums .u8 (ys.take (min m dLen)))) g t .u8 (l.take off ++ ys.take (min m dLen) ++ l.drop (off + (ys.take (min m dLen)).length)) := by
  have hl := Kd.C_len hr
  have hcell : ∀ j, j < m → w.cell? (a.add j) = some (.int .u8 (rd ys j)) := by
    intro j hj
    obtain ⟨ad', e, hx⟩ := Kd.at_int hr j (by omega) (by omega)
    cases e
    exact hx
  generalize hk : min m dLen = k at *
  have hkm : k ≤ m := by omega
  have hnl : (nums .u8 (ys.take k)).length = k := by simp [nums, hl]; omega
  constructor
  · have := run_copy_cells (P := Tryd.prog) w 22 22 ty 5 g off dLen dCap a m c (nums .u8 (ys.take k)) Tryd.underlying22 info_u8s
      (by rw [hnl]; exact hk.symm)
      (fun j v hv => by
        have hj : j < k := by have := (List.getElem?_eq_some_iff.1 hv).1; omega
        rw [hcell j (by omega), ← hv]
        simp [nums, rd, List.getD_eq_getElem?_getD, hj, show j < ys.length by omega])
      (fun j hj => by rw [h.cell (off + j) (by omega)]; rfl)
      (fun j hj => h.free (off + j))
      (fun v hv => by simp only [nums, List.mem_map] at hv; obtain ⟨x, _, rfl⟩ := hv; rfl)
    rw [hnl] at this
    exact this
  · obtain ⟨cur', h1, h2, h3⟩ := setCells_row (nums .u8 (ys.take k)) off w _ h (by rw [hnl]; simp [nums]; omega)
    unfold Blk
    rw [h1]
    congr 1
    congr 1
    apply Array.ext'
    rw [h3]
    simp [nums, List.map_take, List.map_drop]
theorem grow_at (O : List Int) (x : Int) (m i : Nat) : O ++ (List.range i).map (quad x m) ++ [quad x m i] = O ++ (List.range (i + 1)).map (quad x m) := by
  rw [List.range_succ, List.map_append, List.append_assoc]
  rfl
set_option maxRecDepth 20000 in
set_option maxHeartbeats 4000000 in
theorem Base64_calls {n : Nat} (A0 : Option Addr) (c0 : Nat) (l0 : List Int) (w : World) (hr0 : Rd w A0 n l0) (hb0 : Bytes l0) (hc0 : n ≤ c0) (hs : n ≤ 1099511627776) :
    Calls Tryd.prog 57 #[.slice A0 n c0] w fun e w' => e = .returned (.string (strOfNums (b64 l0))) ∧ Below w.heap.size w w' := by
  have HR := Lib.hid (show Rd w A0 n l0 ∧ Bytes l0 ∧ n ≤ 1099511627776 from ⟨hr0, hb0, hs⟩)
  clear hr0 hb0 hs
  go_enter Tryd.func57, Tryd.ntmps57
  go_wp2
  go_loopw [0, 3] (fun b v wr => ∃ (A : Option Addr) (m c : Nat) (O r : List Int), b = .slice A m c ∧ m ≤ c ∧ Hid (Rd w A m r ∧ Bytes r ∧ Own w wr v O ∧ O ++ b64 r = b64 l0 ∧ Below w.heap.size w wr ∧ O.length + 4 * m ≤ 4 * n ∧ n ≤ 1099511627776)) (fun b _ _ => slenB b)
  case atStart => exact ⟨A0, n, c0, [], l0, rfl, hc0, Lib.hid ⟨HR.out.1, HR.out.2.1, Own.nil w w, rfl, Below.refl _ _, by simp, HR.out.2.2⟩⟩
  case round =>
    obtain ⟨A, m, c, O, r, rfl, hmc, H⟩ := hrel
    by_cases hm0 : 0 < m
    · have dn : decide (0 < (m : Int)) = true := decide_eq_true (by omega)
      have dn' : decide (0 < m) = true := decide_eq_true hm0
      obtain ⟨g4, hg4⟩ : ∃ g4, g4 = wr.heap.size := ⟨_, rfl⟩
      obtain ⟨W1, hW1⟩ : ∃ W1, W1 = wr.alloc (.cells #[.int .u8 0, .int .u8 0, .int .u8 0] 110) := ⟨_, rfl⟩
      have hB1 : Below g4 wr W1 := by rw [hW1, hg4]; exact below_alloc (Below.refl _ _) _
      have hK4 : Blk W1 g4 110 .u8 [0, 0, 0] := by rw [hW1, hg4]; exact Blk.new wr 110 .u8 [0, 0, 0]
      have hr1 : Rd W1 A m r := Kd.C_below (Kd.C_below H.out.1 H.out.2.2.2.2.1) (hg4 ▸ hB1)
      obtain ⟨ad, rfl, _⟩ := Rd.cells hr1 hm0
      obtain ⟨k, hk⟩ : ∃ k, k = min m 3 := ⟨_, rfl⟩
      have hcp := Blk.copyMin (off := 0) (dLen := 3) (dCap := 3) (ty := 3) (c := c) hK4 hr1 (by show 0 + min m 3 ≤ 3; omega)
      rw [← hk] at hcp
      obtain ⟨hcp1, hK5⟩ := hcp
      obtain ⟨W2, hW2⟩ : ∃ W2, W2 = W1.setCells g4 0 (nums .u8 (r.take k)) := ⟨_, rfl⟩
      rw [← hW2] at hcp1 hK5
      have hrl : r.length = m := Kd.C_len hr1
      have hB2 : Below g4 wr W2 := by rw [hW2]; exact Below.setCells_ hB1 (Nat.le_refl _) _
      have hcell : ∀ j, j < 3 → W2.cell? ⟨g4, j, none⟩ = some (.int .u8 (rd r (j : Int))) := by
        intro j hj
        have h1 := hK5.cell j (by simp [hrl]; omega)
        rw [h1]
        congr 2
        unfold rd
        simp only [Int.toNat_natCast, List.getD_eq_getElem?_getD, List.take_zero, List.nil_append, Nat.zero_add, List.length_take]
        rcases Nat.lt_or_ge j k with hjk | hjk
        · rw [List.getElem?_append_left (by simp [hrl]; omega), List.getElem?_take_of_lt hjk]
        · rw [List.getElem?_append_right (by simp [hrl]; omega), List.getElem?_eq_none (l := r) (by omega)]
          simp only [List.length_take, List.getElem?_drop, Option.getD_none]
          have : min k r.length + (j - min k r.length) = j := by omega
          rw [this]
          rcases (by omega : j = 0 ∨ j = 1 ∨ j = 2) with rfl | rfl | rfl <;> rfl
      have x0 := hcell 0 (by omega)
      have x1 := hcell 1 (by omega)
      have x2 := hcell 2 (by omega)
      have hrng : ∀ j : Nat, 0 ≤ rd r (j : Int) ∧ rd r (j : Int) < 256 := by
        intro j
        rcases Nat.lt_or_ge j r.length with h | h
        · exact bytes_rd H.out.2.1 j h
        · unfold rd
          simp [List.getD_eq_getElem?_getD, List.getElem?_eq_none (l := r) (show r.length ≤ j by omega)]
      obtain ⟨r00, r01⟩ := hrng 0
      obtain ⟨r10, r11⟩ := hrng 1
      obtain ⟨r20, r21⟩ := hrng 2
      obtain ⟨b0, hb0⟩ : ∃ b, b = rd r ((0 : Nat) : Int) := ⟨_, rfl⟩
      obtain ⟨b1, hb1⟩ : ∃ b, b = rd r ((1 : Nat) : Int) := ⟨_, rfl⟩
      obtain ⟨b2, hb2⟩ : ∃ b, b = rd r ((2 : Nat) : Int) := ⟨_, rfl⟩
      rw [← hb0] at x0 r00 r01
      rw [← hb1] at x1 r10 r11
      rw [← hb2] at x2 r20 r21
      obtain ⟨X, hX⟩ : ∃ X, X = b0 * 65536 + b1 * 256 + b2 := ⟨_, rfl⟩
      have hor := or3 b0 b1 b2 r00 r01 r10 r11 r20 r21
      rw [← hX] at hor
      have HX := Lib.hid (show 0 ≤ X ∧ X < 16777216 ∧ X = x3 r from ⟨by omega, by omega, by rw [hX, hb0, hb1, hb2]; rfl⟩)
      have hw0 : IntKind.i64.wrap b0 = b0 := wrap_idn (by omega) (by omega)
      have hw1 : IntKind.i64.wrap b1 = b1 := wrap_idn (by omega) (by omega)
      have hw2 : IntKind.i64.wrap b2 = b2 := wrap_idn (by omega) (by omega)
      have hw3 : IntKind.i64.wrap (b0 * 65536) = b0 * 65536 := wrap_idn (by omega) (by omega)
      have hw4 : IntKind.i64.wrap (b1 * 256) = b1 * 256 := wrap_idn (by omega) (by omega)
      have HO2 := Lib.hid (show Own w W2 _ O from H.out.2.2.1.below (hg4 ▸ hB2))
      have HB2 := Lib.hid (show Below w.heap.size w W2 from H.out.2.2.2.2.1.trans (hB2.mono (by rw [hg4]; exact H.out.2.2.2.2.1.size)))
      have HM := Lib.hid (show k = min m 3 ∧ 1 ≤ k ∧ k ≤ 3 ∧ k ≤ m ∧ r.length = m ∧ Rd w (some ad) m r ∧ O.length + 4 * m ≤ 4 * n ∧ n ≤ 1099511627776 from ⟨hk, by omega, by omega, by omega, hrl, H.out.1, H.out.2.2.2.2.2.1, H.out.2.2.2.2.2.2⟩)
      have HW1 := Lib.hid hW1
      have HG4 := Lib.hid hg4
      clear hk hb0 hb1 hb2 hX hcell hrng hK4 hK5 hB1 hB2 hr1 hrl hW2 r00 r01 r10 r11 r20 r21
      go_upto_region 5 with (fail)
      rw [← hg4, ← hW1]
      clear hg4 hW1
      go_wp2_with fail
      go_loopw [3, 32] (fun v' i wi => ∃ (j : Nat), i = .int .i64 j ∧ j ≤ 4 ∧ Hid (Own w wi v' (O ++ (List.range j).map (quad X k)) ∧ Below w.heap.size w wi)) (fun _ i _ => 4 - (intOf i).toNat)
      case atStart => exact ⟨0, rfl, by omega, Lib.hid ⟨HO2.out.cast (by simp), HB2.out⟩⟩
      case round =>
        obtain ⟨j, rfl, hj, HJ⟩ := hrel
        have hlen : (O ++ (List.range j).map (quad X k)).length + 1 ≤ 140737488355328 := by have := HM.out; simp; omega
        have HGR := Lib.hid (grow_at O X k j)
        by_cases hj4 : j < 4
        · have d4 : decide ((j : Int) < 4) = true := decide_eq_true (by omega)
          have d4' : decide (j < 4) = true := decide_eq_true hj4
          obtain ⟨OJ, hOJ⟩ : ∃ OJ, OJ = O ++ (List.range j).map (quad X k) := ⟨_, rfl⟩
          rw [← hOJ] at HJ hlen HGR
          clear hOJ
          by_cases hkj : k < j
          · have dk : decide ((k : Int) < j) = true := decide_eq_true (by omega)
            have dk' : decide (k < j) = true := decide_eq_true hkj
            have HQ := Lib.hid (show quad X k j = 61 from if_pos hkj)
            go_wp2_with (at_builtin; refine app_one HJ.out.1 HJ.out.2 hlen rfl rfl rfl rfl ?_)
            intro v3 w3 ho3 hb3 hg3 hv3
            have HJ3 := Lib.hid (show Own w w3 v3 (O ++ (List.range (j + 1)).map (quad X k)) ∧ Below w.heap.size w w3 from ⟨ho3.cast (by rw [← HGR.out, HQ.out]), hb3⟩)
            clear ho3 hb3
            go_wp2
            go_roundw
            case rel => exact ⟨j + 1, by go_num, by omega, HJ3⟩
            case measure => simp [intOf]; omega
          · have dk : decide ((k : Int) < j) = false := decide_eq_false (by omega)
            have dk' : decide (k < j) = false := decide_eq_false hkj
            obtain ⟨N, hN⟩ : ∃ N, N = X / 2 ^ (18 - 6 * j) % 64 := ⟨_, rfl⟩
            have HQ := Lib.hid (show quad X k j = b64L N by unfold quad; rw [if_neg hkj, hN])
            have hN0 : 0 ≤ N ∧ N < 64 := by omega
            have hbn : N.toNat < b64S.size := by show N.toNat < 64; omega
            have HA := Lib.hid (bt_at b64S N hbn)
            have N0 := hN0.1
            have N1 := hN0.2
            rcases (by omega : j = 0 ∨ j = 1 ∨ j = 2 ∨ j = 3) with rfl | rfl | rfl | rfl
            · have hA : bits .and .i64 (X / 262144) 63 = N := by have := HX.out; rw [and_63' _ (by omega) (by omega), hN]; simp
              clear hN hN0
              go_wp2_with (at_builtin; refine app_one HJ.out.1 HJ.out.2 hlen rfl rfl rfl rfl ?_)
              intro v3 w3 ho3 hb3 hg3 hv3
              have HJ3 := Lib.hid (show Own w w3 v3 (O ++ (List.range (0 + 1)).map (quad X k)) ∧ Below w.heap.size w w3 from ⟨ho3.cast (by rw [← HGR.out, HQ.out]; exact congrArg (fun x => OJ ++ [x]) HA.out), hb3⟩)
              clear ho3 hb3
              go_wp2
              go_roundw
              case rel => exact ⟨0 + 1, by go_num, by omega, HJ3⟩
              case measure => simp [intOf]
            · have hA : bits .and .i64 (X / 4096) 63 = N := by have := HX.out; rw [and_63' _ (by omega) (by omega), hN]; simp
              clear hN hN0
              go_wp2_with (at_builtin; refine app_one HJ.out.1 HJ.out.2 hlen rfl rfl rfl rfl ?_)
              intro v3 w3 ho3 hb3 hg3 hv3
              have HJ3 := Lib.hid (show Own w w3 v3 (O ++ (List.range (1 + 1)).map (quad X k)) ∧ Below w.heap.size w w3 from ⟨ho3.cast (by rw [← HGR.out, HQ.out]; exact congrArg (fun x => OJ ++ [x]) HA.out), hb3⟩)
              clear ho3 hb3
              go_wp2
              go_roundw
              case rel => exact ⟨1 + 1, by go_num, by omega, HJ3⟩
              case measure => simp [intOf]
            · have hA : bits .and .i64 (X / 64) 63 = N := by have := HX.out; rw [and_63' _ (by omega) (by omega), hN]; simp
              clear hN hN0
              go_wp2_with (at_builtin; refine app_one HJ.out.1 HJ.out.2 hlen rfl rfl rfl rfl ?_)
              intro v3 w3 ho3 hb3 hg3 hv3
              have HJ3 := Lib.hid (show Own w w3 v3 (O ++ (List.range (2 + 1)).map (quad X k)) ∧ Below w.heap.size w w3 from ⟨ho3.cast (by rw [← HGR.out, HQ.out]; exact congrArg (fun x => OJ ++ [x]) HA.out), hb3⟩)
              clear ho3 hb3
              go_wp2
              go_roundw
              case rel => exact ⟨2 + 1, by go_num, by omega, HJ3⟩
              case measure => simp [intOf]
            · have hA : bits .and .i64 X 63 = N := by have := HX.out; rw [and_63' _ (by omega) (by omega), hN]; simp
              clear hN hN0
              go_wp2_with (at_builtin; refine app_one HJ.out.1 HJ.out.2 hlen rfl rfl rfl rfl ?_)
              intro v3 w3 ho3 hb3 hg3 hv3
              have HJ3 := Lib.hid (show Own w w3 v3 (O ++ (List.range (3 + 1)).map (quad X k)) ∧ Below w.heap.size w w3 from ⟨ho3.cast (by rw [← HGR.out, HQ.out]; exact congrArg (fun x => OJ ++ [x]) HA.out), hb3⟩)
              clear ho3 hb3
              go_wp2
              go_roundw
              case rel => exact ⟨3 + 1, by go_num, by omega, HJ3⟩
              case measure => simp [intOf]
        · obtain rfl : j = 4 := by omega
          have HF := Lib.hid (show O ++ (List.range 4).map (quad X k) ++ b64 (r.drop k) = b64 l0 by
            rw [← H.out.2.2.2.1, b64_step r (by have := HM.out; omega), List.append_assoc]
            unfold grp
            rw [HM.out.2.2.2.2.1, HX.out.2.2, HM.out.1, Nat.min_comm m 3])
          have HJ2 := Lib.hid (show Own w wr _ (O ++ (List.range 4).map (quad X k)) from HJ.out.1)
          have hdr : Rd w (if c = k then some ad else some (ad.add k)) (m - k) (r.drop k) := by
            have h1 := HM.out.2.2.2.2.2.1
            have hl := HM.out.2.2.2.2.1
            rw [← hl] at h1
            have := Kd.C_drop (k := Kd.int .u8) (m := k) (c := c) h1 (by have := HM.out; omega) (by omega)
            rw [show k * (Kd.int .u8).sz = k from Nat.mul_one k, List.length_drop, hl] at this
            exact this
          have hby : Bytes (r.drop k) := fun x hx => H.out.2.1 x (List.mem_of_mem_drop hx)
          have hln : (O ++ (List.range 4).map (quad X k)).length + 4 * (m - k) ≤ 4 * n := by have := HM.out; simp; omega
          have hbw := HJ.out.2
          have k1 := HM.out.2.1
          have k2 : (k : Int) ≤ m := by have := HM.out; omega
          have k3 : (m : Int) ≤ c := by omega
          have k4 : (k : Int) ≤ c := by omega
          have km : k ≤ m := by omega
          have kmin : min (3 : Int) (m : Int) = k := by have := HM.out; omega
          have kmin' : min 3 m = k := by have := HM.out; omega
          by_cases hck : c = k
          · subst hck
            obtain rfl : m = c := by omega
            rw [if_pos rfl] at hdr
            have HN := Lib.hid (show Rd w (some ad) 0 (r.drop m) ∧ Bytes (r.drop m) ∧ Own w wr _ (O ++ (List.range 4).map (quad X m)) ∧ O ++ (List.range 4).map (quad X m) ++ b64 (r.drop m) = b64 l0 ∧ Below w.heap.size w wr ∧ (O ++ (List.range 4).map (quad X m)).length + 4 * 0 ≤ 4 * n ∧ n ≤ 1099511627776 from ⟨by rw [Nat.sub_self] at hdr; exact hdr, hby, HJ2.out, HF.out, hbw, by rw [Nat.sub_self] at hln; exact hln, HM.out.2.2.2.2.2.2.2⟩)
            clear hdr hby hln hbw H HJ
            go_wp2
            go_roundw
            case rel => exact ⟨some ad, 0, 0, _, _, by first | rfl | go_num, by omega, HN⟩
            case measure => simp [slenB]; omega
          · rw [if_neg hck] at hdr
            have HN := Lib.hid (show Rd w (some (ad.add k)) (m - k) (r.drop k) ∧ Bytes (r.drop k) ∧ Own w wr _ (O ++ (List.range 4).map (quad X k)) ∧ O ++ (List.range 4).map (quad X k) ++ b64 (r.drop k) = b64 l0 ∧ Below w.heap.size w wr ∧ (O ++ (List.range 4).map (quad X k)).length + 4 * (m - k) ≤ 4 * n ∧ n ≤ 1099511627776 from ⟨hdr, hby, HJ2.out, HF.out, hbw, hln, HM.out.2.2.2.2.2.2.2⟩)
            clear hdr hby hln hbw H HJ
            go_wp2
            go_roundw
            case rel =>
              refine ⟨some (ad.add k), m - k, c - k, _, _, ?_, Nat.sub_le_sub_right hmc k, HN⟩
              first | rfl | rw [show (if (m : Int) < 3 then (m : Int) else 3) = k by have := HM.out; split <;> omega, Int.toNat_natCast]
            case measure => simp [slenB]; omega
    · obtain rfl : m = 0 := by omega
      have hr0 : r = [] := List.eq_nil_of_length_eq_zero (Kd.C_len H.out.1)
      have hO : O = b64 l0 := by rw [← H.out.2.2.2.1, hr0]; simp [b64]
      have hown := H.out.2.2.1
      rw [hO] at hown
      have HB := Lib.hid H.out.2.2.2.2.1
      obtain ⟨A9, c9, hv9, hc9, hr9⟩ := hown.reads
      subst hv9
      have kC := Kd.C_string (P := Tryd.prog) (src := 22) (dst := 9) (e := 5) (c := c9) Tryd.underlying22 Tryd.underlying5 Tryd.underlying9 hr9
      clear H hown hr9 hr0 hO
      go_wp2
      go_ret
      exact ⟨rfl, HB.out⟩
end Go.Proofs.YtcfbfmgckaehdaaDoor
namespace Go.Proofs.YtcfbfmgckaehdaaDoor
open Go.RowKit Go.Proofs.YtcfbfmgckaehdaaDoorW.PrintWords
theorem be4_Bytes (x : Int) : Bytes (be4 x) := by
  intro y hy
  unfold be4 at hy
  simp only [List.mem_cons, List.not_mem_nil, or_false] at hy
  rcases hy with rfl | rfl | rfl | rfl <;> omega
theorem app_Bytes {a b : List Int} (h : Bytes a) (k : Bytes b) : Bytes (a ++ b) := by
  intro x hx
  rcases List.mem_append.1 hx with hx | hx
  · exact h x hx
  · exact k x hx
theorem sha1_Bytes (l : List Int) : Bytes (sha1 l) := by
  unfold sha1
  repeat' apply app_Bytes
  all_goals exact be4_Bytes _
section
variable {ops : Array Oper} {rest : List Oper} {o : Oper} {a : Act} {Q : Exit → Act → World → Prop} {w : World}
theorem Blk.row {g t : Nat} {l : List Int} (h : Blk w g t .u8 l) (hm : l.length ≤ 9223372036854775807) : Rd w (some ⟨g, 0, none⟩) l.length l := by
  refine Kd.C_of_reads (d := (0 : Int)) (h1 := fun _ => rfl) ⟨rfl, hm, fun _ => ⟨_, rfl, fun j hj => ?_⟩⟩
  rw [add_plain]
  have := h.cell j hj
  rw [this]
  simp [rd, hj]
end
end Go.Proofs.YtcfbfmgckaehdaaDoor
namespace Go.Proofs.YtcfbfmgckaehdaaDoor
open Go.RowKit Go.Proofs.YtcfbfmgckaehdaaDoorW.PrintWords
section
variable {ops : Array Oper} {rest : List Oper} {o : Oper} {a : Act} {Q : Exit → Act → World → Prop} {w : World}
theorem store_blk2 {g t : Nat} {k : IntKind} {l m : List Int} {T : TypeId} {p x : Operand} (hgd : o.guard = none) (hN : o.dst = none) (ho : o.op = .store T p x) (hp : a.eval p = .pointer (some ⟨g, 0, none⟩)) (hx : a.eval x = .agg (nums k m).toArray) (h : Blk w g t k l) (hl : m.length = l.length)
    (ht : (Tryd.prog.info? T).map (·.size) = some m.length) (hK : ∀ w1, Blk w1 g t k m → (∀ B a0, Below B a0 w → B ≤ g → Below B a0 w1) → (∀ g' t' k' l', g' ≠ g → Blk w g' t' k' l' → Blk w1 g' t' k' l') → wpList Tryd.prog ops Q rest a w1) : wpList Tryd.prog ops Q (o :: rest) a w := by
  have hnm : (nums k m).length = m.length := by simp [nums]
  have hrun := run_store_run (P := Tryd.prog) (w := w) (g := g) (o := 0) T (.agg (nums k m).toArray) (nums k m) h rfl (by rw [hnm]; exact ht) (by rw [hnm, hl]; simp [nums]) (fun q hq => by simp only [nums, List.mem_map] at hq; obtain ⟨x, _, rfl⟩ := hq; rfl)
  obtain ⟨cur', h1, h2, h3⟩ := setCells_row (nums k m) 0 w _ h (by rw [hnm, hl]; simp [nums])
  refine wpList_plain hgd fun K hK' => ?_
  unfold Oper.wp execOp
  simp only [ho, hp, hx, Sem.run_bind, Sem.run_pure, Result.andThen_ok, hrun]
  show K (a.put o.dst undef) _
  rw [hN]
  refine hK' a _ (hK _ ?_ ?_ ?_)
  · unfold Blk
    rw [h1]
    rw [show cur' = (nums k m).toArray from Array.ext' (by rw [h3]; simp [nums, hl])]
  · intro B a0 hb hB
    exact Below.setCells_ hb hB _
  · intro g' t' k' l' hne hb
    exact hb.farCells hne _
end
end Go.Proofs.YtcfbfmgckaehdaaDoor
