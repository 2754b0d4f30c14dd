/- The texts WsFd, OpenStruct, WsOpenFd, Bits, WsLaw, Sum, Equal, Compare, Unframe, WsHead in one. -/
import Derived.Test.YtcfbfmgckaehdaaDoorG01
import Derived.Deep.SlicePairs
import Derived.Lib.SmallJoins
import Derived.ProofKit
import Derived.Laws.IdiomArrays
import Derived.Laws.BitsLemmas
import Derived.Lib.Bytealg
import Derived.Shelf.Small.Strs
import Derived.Lib.BitFns
import Derived.Laws.StructEq
namespace Go.Proofs.YtcfbfmgckaehdaaDoor
open Go.RowKit Go.Proofs.YtcfbfmgckaehdaaDoorW.PrintWords
/-- Bytes that are fed, or (ask) an event that is asked for. -/
structure Fd where
  ask : Bool
  bytes : List Int
def Fd.none : Fd := ⟨false, []⟩
def fdK : Kd Fd := Kd.iso (Kd.pair Kd.bool (Kd.slice 5 (Kd.int .u8))) (fun x : Fd => (x.ask, x.bytes))
abbrev RdFd (w : World) (A : Option Addr) (n : Nat) (L : List Fd) : Prop := Kd.C fdK w A n L
theorem RdFd.at {w : World} {A : Option Addr} {n : Nat} {L : List Fd} (h : RdFd w A n L) (i : Nat) (hi : i < n) : ∃ ad Ai ci, A = some ad ∧ w.cell? (ad.add (i * 2)) = some (.bool (L.getD i Fd.none).ask) ∧
    w.cell? ⟨(ad.add (i * 2)).block, (ad.add (i * 2)).off + 1, none⟩ = some (.slice Ai (L.getD i Fd.none).bytes.length ci) ∧ (L.getD i Fd.none).bytes.length ≤ ci ∧ Rd w Ai (L.getD i Fd.none).bytes.length (L.getD i Fd.none).bytes := by
  obtain ⟨ad, c, e, _, hK, hc0⟩ := Kd.C_get h Fd.none (i : Int) (by omega) (by omega)
  simp only [Int.toNat_natCast] at hK hc0
  have hc : ∀ j u, c[j]? = some u → w.cell? (ad.add (i * 2 + j)) = some u := hc0
  obtain ⟨_, _, rfl, rfl, ⟨Ai, ci, rfl, l1, g1⟩⟩ := hK
  exact ⟨ad, Ai, ci, e, hc 0 _ rfl, by rw [← add_field _ _ 1 (by omega)]; exact hc 1 _ rfl, l1, g1⟩
def FdOk (L : List Fd) : Prop := ∀ s ∈ L, Bytes s.bytes
theorem FdOk.at {L : List Fd} (h : FdOk L) (i : Nat) (hi : i < L.length) : Bytes (L.getD i Fd.none).bytes := by
  rw [List.getD_eq_getElem?_getD, List.getElem?_eq_getElem hi]
  exact h _ (List.getElem_mem hi)
end Go.Proofs.YtcfbfmgckaehdaaDoor
namespace Go.Proofs.YtcfbfmgckaehdaaDoor
open Go.RowKit Go.ChangeShapes Go.WideShapes Go.Proofs.YtcfbfmgckaehdaaDoorW.PrintWords
section
variable {H : Type} {enc : TypeId × Value → H} {W : World} {base : Nat} {spare : Nat → Bool} {held : Bool} {fuel : Nat} {cs : List Value} {x : DataW H × List MemPlace}
theorem cells_u8 : Tryd.prog.cellsOf 5 = 1 := by kernel_rfl
theorem wf_Bytes {l : List Int} (h : ∀ y ∈ l, (Lit.int .u8 y).wf = true) : Bytes l := by
  intro y hy
  have h1 := h y hy
  simp [Lit.wf, IntKind.min, IntKind.max, IntKind.signed, IntKind.bits] at h1
  omega
/-- A row of bytes in a cell. -/
theorem open_bytes_cell (h : DataW.trod enc Tryd.prog W base spare held fuel 22 cs = some x) : ∃ (A : Option Addr) (n c : Nat) (l : List Int), cs = [.slice A n c] ∧ Rd W A n l ∧ n ≤ c ∧ Bytes l := by
  rcases open_ints Tryd.underlying22 Tryd.underlying5 cells_u8 h with ⟨rfl, _⟩ | ⟨a, len, cap, zs, rfl, _, hl, hm, hz, _, hcell, hwf⟩
  · exact ⟨none, 0, 0, [], rfl, Rd.empty _ _, Nat.le_refl _, Bytes.nil⟩
  · have hzl : len ≤ zs.length := by rw [hz]; split <;> omega
    refine ⟨some a, len, cap, zs.take len, rfl, Rd.mk (by simp; omega) (by simp only [maxLen] at hm; omega) fun j hj => ?_, hl, (wf_Bytes hwf).tk _⟩
    rw [hcell j (by omega)]
    congr 2
    unfold rd
    simp only [Int.toNat_natCast, List.getD_eq_getElem?_getD, List.getElem?_take]
    rw [if_pos hj]
end
end Go.Proofs.YtcfbfmgckaehdaaDoor
namespace Go.Proofs.YtcfbfmgckaehdaaDoor
open Go.RowKit Go.ChangeShapes Go.WideShapes Go.Proofs.YtcfbfmgckaehdaaDoorW.PrintWords
section
variable {H : Type} {enc : TypeId × Value → H} {W : World} {base : Nat} {spare : Nat → Bool} {held : Bool} {fuel : Nat} {cs : List Value} {x : DataW H × List MemPlace}
set_option maxRecDepth 100000 in
theorem open_feeds (h : DataW.trod enc Tryd.prog W base spare held fuel 62 cs = some x) : ∃ (A : Option Addr) (n c : Nat) (L : List Fd), cs = [.slice A n c] ∧ RdFd W A n L ∧ n ≤ c ∧ FdOk L := by
  rcases Deep.open_slice_pairs Tryd.underlying62 Tryd.underlying70 (by kernel_rfl) rfl rfl (by kernel_rfl) (by kernel_rfl) h with ⟨rfl, _⟩ | ⟨a, len, cap, m, k, V0, V1, D0, D1, P0, P1, rfl, _, hl, hm, hmm, _, hx⟩
  · exact ⟨none, 0, 0, [], rfl, Kd.C_nil _ _, Nat.le_refl _, fun _ h => by cases h⟩
  have hlm : len ≤ m := by rw [hmm]; split <;> omega
  have each : ∀ i, i < len → ∃ q : Bool × (Option Addr × Nat × List Int), W.cell? (a.add (i * 2)) = some (.bool q.1) ∧ W.cell? (a.add (i * 2 + 1)) = some (.slice q.2.1 q.2.2.2.length q.2.2.1) ∧ Rd W q.2.1 q.2.2.2.length q.2.2.2 ∧ q.2.2.2.length ≤ q.2.2.1 ∧ Bytes q.2.2.2 := by
    intro i hi
    obtain ⟨h0, h1, h2, h3⟩ := hx i (by omega)
    obtain ⟨y0, e0, _⟩ := DataW.trod_bool Tryd.underlying4 h2
    obtain ⟨Ai, n, c, l, e1, hr, hc, hb⟩ := open_bytes_cell h3
    simp only [List.cons.injEq, and_true] at e0 e1
    have hln := Kd.C_len hr
    subst hln
    exact ⟨(y0, Ai, c, l), by rw [h0, e0], by rw [h1, e1], hr, hc, hb⟩
  obtain ⟨q, hq⟩ := Deep.choose_lt each
  refine ⟨some a, len, cap, (List.range len).map fun i => ⟨(q i).1, (q i).2.2.2⟩, rfl, ⟨by simp, by simp only [maxLen] at hm; omega, fun _ => ⟨a, rfl, fun j p hj => ?_⟩⟩, hl, fun s hs => ?_⟩
  · rw [List.getElem?_map] at hj
    have hjl : j < len := by
      rcases Nat.lt_or_ge j len with h | h
      · exact h
      · rw [List.getElem?_eq_none (by simpa using h)] at hj
        cases hj
    rw [List.getElem?_range hjl] at hj
    simp only [Option.map_some, Option.some.injEq] at hj
    subst hj
    obtain ⟨h0, h1, hr, hc, _⟩ := hq j hjl
    refine ⟨[.bool (q j).1, .slice (q j).2.1 (q j).2.2.2.length (q j).2.2.1], rfl, ⟨[.bool (q j).1], [.slice (q j).2.1 (q j).2.2.2.length (q j).2.2.1], rfl, rfl, ⟨(q j).2.1, (q j).2.2.1, rfl, hc, hr⟩⟩, fun i u hu => ?_⟩
    rcases i with _ | _ | i
    · rw [show fdK.sz = 2 from rfl, Nat.add_zero, h0]
      simpa using hu
    · rw [show fdK.sz = 2 from rfl, h1]
      simpa using hu
    · simp at hu
  · obtain ⟨i, hi, rfl⟩ := List.mem_map.1 hs
    obtain ⟨_, _, _, _, hb⟩ := hq i (List.mem_range.1 hi)
    exact hb
end
end Go.Proofs.YtcfbfmgckaehdaaDoor
namespace Go.Proofs.YtcfbfmgckaehdaaDoor
open Go.RowKit
theorem wraps_u32 (n : Int) (h₀ : 0 ≤ n) (h₁ : n < 2 ^ 32) : IntKind.u32.wrap n = n := by rw [IntKind.wrap_u32]; omega
theorem wraps_i64 (n : Int) (h₀ : 0 ≤ n) (h₁ : n < 2 ^ 63) : IntKind.i64.wrap n = n := by rw [IntKind.wrap_i64]; omega
theorem bits_xor_nat (k : IntKind) (j : Nat) (hj : j ≤ k.bits) (hk : ∀ n : Int, 0 ≤ n → n < 2 ^ j → k.wrap n = n) (a b : Nat) (ha : a < 2 ^ j) (hb : b < 2 ^ j) :
    bits .xor k a b = ((a ^^^ b : Nat) : Int) := by
  have hp : 2 ^ j ≤ 2 ^ k.bits := Nat.pow_le_pow_right (by decide) hj
  have ha' : a % 2 ^ k.bits = a := Nat.mod_eq_of_lt (Nat.lt_of_lt_of_le ha hp)
  have hb' : b % 2 ^ k.bits = b := Nat.mod_eq_of_lt (Nat.lt_of_lt_of_le hb hp)
  have cast : ∀ n : Nat, n < 2 ^ j → ((n : Nat) : Int) < 2 ^ j := fun n h => by exact_mod_cast h
  simp only [bits, BitVec.ofInt_natCast, BitVec.toNat_xor, BitVec.toNat_ofNat, ha', hb']
  exact hk _ (Int.natCast_nonneg _) (cast _ (Nat.xor_lt_two_pow ha hb))
theorem xor_u32 (a b : Nat) (ha : a < 4294967296) (hb : b < 4294967296) : bits .xor .u32 a b = ((a ^^^ b : Nat) : Int) := bits_xor_nat .u32 32 (by decide) wraps_u32 a b ha hb
theorem xor_u8 (a b : Nat) (ha : a < 256) (hb : b < 256) : bits .xor .u8 a b = ((a ^^^ b : Nat) : Int) := bits_xor_nat .u8 8 (by decide) wraps_u8 a b ha hb
theorem and_u8 (a b : Nat) (ha : a < 256) (hb : b < 256) : bits .and .u8 a b = ((a &&& b : Nat) : Int) := (bits_nat .u8 8 (by decide) wraps_u8 a b ha hb).1
theorem or_u8 (a b : Nat) (ha : a < 256) (hb : b < 256) : bits .or .u8 a b = ((a ||| b : Nat) : Int) := (bits_nat .u8 8 (by decide) wraps_u8 a b ha hb).2
theorem and_i64 (a b : Nat) (ha : a < 9223372036854775808) (hb : b < 9223372036854775808) : bits .and .i64 a b = ((a &&& b : Nat) : Int) := (bits_nat .i64 63 (by decide) wraps_i64 a b ha hb).1
end Go.Proofs.YtcfbfmgckaehdaaDoor
namespace Go.Proofs.YtcfbfmgckaehdaaDoor
open Go.RowKit Go.Proofs.YtcfbfmgckaehdaaDoorW.PrintWords
/-- A frame. -/
structure Frm where
  fin : Bool
  op : Int
  load : List Int
def zeroF : Frm := ⟨false, 0, []⟩
def knownB (op : Int) : Bool := decide (0 ≤ op ∧ op ≤ 2 ∨ 8 ≤ op ∧ op ≤ 10)
/-- A load turned by a mask. -/
def maskL (m l : List Int) : List Int := (List.range l.length).map fun i => bits .xor .u8 (rd l (i : Nat)) (rd m ((i % 4 : Nat) : Int))
def badF (c : Int) : Bool := decide (c / 16 % 8 ≠ 0) || !knownB (c % 16) || (decide (8 ≤ c % 16) && decide (c < 128))
def badS (c d : Int) (mask : Bool) : Bool := (decide (128 ≤ d) != mask) || (decide (8 ≤ c % 16) && decide (125 < d % 128))
/-- A number of bytes, the highest first. -/
def numL (l : List Int) : Int := l.foldl (fun x c => 256 * x + c) 0
/-- How long a load is, where its mask or it begins, why not. -/
def lenR (b : List Int) : Int × Int × Int :=
  if rd b 1 % 128 ≤ 125 then (rd b 1 % 128, 2, 0)
  else if rd b 1 % 128 = 126 then
    if b.length < 4 then (0, 0, 1) else if numL ((b.drop 2).take 2) ≤ 125 then (0, 0, 1002) else if 16384 < numL ((b.drop 2).take 2) then (0, 0, 1009) else (numL ((b.drop 2).take 2), 4, 0)
  else if b.length < 10 then (0, 0, 1) else if 128 ≤ rd b 2 ∨ numL ((b.drop 2).take 8) ≤ 65535 then (0, 0, 1002) else (0, 0, 1009)
def bodyR (b : List Int) (mask : Bool) (n t : Nat) : Frm × Int × Int :=
  if mask then
    if b.length < t + 4 + n then (zeroF, 0, 1) else (⟨decide (128 ≤ rd b 0), rd b 0 % 16, maskL ((b.drop t).take 4) ((b.drop (t + 4)).take n)⟩, ((t + 4 + n : Nat) : Int), 0)
  else if b.length < t + n then (zeroF, 0, 1) else (⟨decide (128 ≤ rd b 0), rd b 0 % 16, (b.drop t).take n⟩, ((t + n : Nat) : Int), 0)
/-- The frame with which bytes begin, how many bytes it has, why there is none. -/
def rdF (b : List Int) (mask : Bool) : Frm × Int × Int :=
  if b.length = 0 then (zeroF, 0, 1)
  else if badF (rd b 0) then (zeroF, 0, 1002)
  else if b.length = 1 then (zeroF, 0, 1)
  else if badS (rd b 0) (rd b 1) mask then (zeroF, 0, 1002)
  else if (lenR b).2.2 ≠ 0 then (zeroF, 0, (lenR b).2.2)
  else bodyR b mask (lenR b).1.toNat (lenR b).2.1.toNat
/-- Why a frame can't be written. -/
def wrE (f : Frm) (m : Nat) : Int :=
  if m ≠ 0 ∧ m ≠ 4 then 1 else if (!knownB f.op || (decide (8 ≤ f.op) && (!f.fin || decide (125 < f.load.length)))) = true then 90 else if 16384 < f.load.length then 4 else 0
def topF (fin : Bool) (op : Int) : Int := if fin then op + 128 else op
def sizeF (m n : Nat) : Int := (if n ≤ 125 then (n : Int) else 126) + (if m = 4 then 128 else 0)
def moreF (n : Nat) : List Int := if n ≤ 125 then [] else [(n : Int) / 256, (n : Int) % 256]
/-- A frame's bytes. -/
def wrL (f : Frm) (m : List Int) : List Int :=
  [topF f.fin f.op, sizeF m.length f.load.length] ++ moreF f.load.length ++ m ++ (if m.length = 4 then maskL m f.load else f.load)
/-! ### The mask -/
theorem maskL_length (m l : List Int) : (maskL m l).length = l.length := by simp [maskL]
theorem maskL_at (m l : List Int) (i : Nat) (h : i < l.length) : rd (maskL m l) (i : Nat) = bits .xor .u8 (rd l (i : Nat)) (rd m ((i % 4 : Nat) : Int)) := by
  rw [rd_get _ i (by rw [maskL_length]; exact h)]
  simp [maskL]
theorem xor_u8r (a b : Int) : 0 ≤ bits .xor .u8 a b ∧ bits .xor .u8 a b < 256 := by
  have := bits_within .xor .u8 a b
  have e1 : IntKind.u8.min = 0 := rfl
  have e2 : IntKind.u8.max = 255 := rfl
  omega
theorem maskL_Bytes (m l : List Int) : Bytes (maskL m l) := by
  intro x hx
  unfold maskL at hx
  obtain ⟨i, _, rfl⟩ := List.mem_map.1 hx
  exact xor_u8r _ _
theorem xor_zero8 (a : Int) (ha : 0 ≤ a ∧ a < 256) : bits .xor .u8 a 0 = a := by
  obtain ⟨x, rfl⟩ := Int.eq_ofNat_of_zero_le ha.1
  have := xor_u8 x 0 (by omega) (by omega)
  rw [Nat.xor_zero] at this
  exact this
theorem rd_ext {l k : List Int} (h : l.length = k.length) (he : ∀ i : Nat, i < l.length → rd l (i : Nat) = rd k (i : Nat)) : l = k := by
  apply List.ext_getElem h
  intro i h1 h2
  have := he i h1
  rwa [rd_get l i h1, rd_get k i h2] at this
theorem rd_bytes0 {l : List Int} (h : Bytes l) (i : Nat) : 0 ≤ rd l (i : Nat) ∧ rd l (i : Nat) < 256 := by
  by_cases hi : i < l.length
  · exact bytes_rd h i hi
  · unfold rd
    rw [Int.toNat_natCast, List.getD_eq_getElem?_getD, List.getElem?_eq_none (by omega)]
    simp
theorem maskL_zero (l : List Int) (hl : Bytes l) : maskL [0, 0, 0, 0] l = l := by
  apply rd_ext (maskL_length _ _)
  intro i hi
  rw [maskL_length] at hi
  rw [maskL_at _ _ i hi]
  have h4 : rd [0, 0, 0, 0] ((i % 4 : Nat) : Int) = 0 := by
    have : i % 4 < 4 := Nat.mod_lt _ (by decide)
    have h : i % 4 = 0 ∨ i % 4 = 1 ∨ i % 4 = 2 ∨ i % 4 = 3 := by omega
    rcases h with h | h | h | h <;> rw [h] <;> rfl
  rw [h4]
  exact xor_zero8 _ (bytes_rd hl i hi)
/-- The first k bytes turned. -/
def maskUp (m l : List Int) (k : Nat) : List Int := (maskL m l).take k ++ l.drop k
theorem maskUp_zero (m l : List Int) : maskUp m l 0 = l := by simp [maskUp]
theorem maskUp_all (m l : List Int) : maskUp m l l.length = maskL m l := by unfold maskUp; rw [List.take_of_length_le (by rw [maskL_length]; exact Nat.le_refl _), List.drop_length, List.append_nil]
theorem maskUp_length (m l : List Int) (k : Nat) : (maskUp m l k).length = l.length := by unfold maskUp; rw [List.length_append, List.length_take, List.length_drop, maskL_length]; omega
theorem maskUp_at (m l : List Int) (k : Nat) (hk : k < l.length) : rd (maskUp m l k) (k : Nat) = rd l (k : Nat) := by
  have h1 : ((maskL m l).take k).length = k := by rw [List.length_take, maskL_length]; omega
  unfold rd maskUp
  simp only [Int.toNat_natCast, List.getD_eq_getElem?_getD]
  rw [List.getElem?_append_right (by omega), h1, Nat.sub_self, List.getElem?_drop, Nat.add_zero]
theorem maskUp_set (m l : List Int) (k : Nat) (hk : k < l.length) : (maskUp m l k).set k (bits .xor .u8 (rd l (k : Nat)) (rd m ((k % 4 : Nat) : Int))) = maskUp m l (k + 1) := by
  have h1 : ((maskL m l).take k).length = k := by rw [List.length_take, maskL_length]; omega
  have h2 : k < (maskL m l).length := by rw [maskL_length]; exact hk
  rw [← maskL_at m l k hk, rd_get _ k h2]
  unfold maskUp
  rw [List.set_append_right _ _ (by omega), h1, Nat.sub_self, List.drop_eq_getElem_cons hk, List.set_cons_zero, List.take_succ_eq_append_getElem h2, List.append_assoc]
  rfl
/-! ### A byte's bits -/
theorem byte_bits (c : Int) (h : 0 ≤ c ∧ c < 256) : bits .and .u8 c 15 = c % 16 ∧ bits .and .u8 c 127 = c % 128 ∧ (bits .and .u8 c 112 == 0) = decide (c / 16 % 8 = 0) ∧ (bits .and .u8 c 128 == 0) = decide (c < 128) := by
  obtain ⟨x, rfl⟩ := Int.eq_ofNat_of_zero_le h.1
  have hx : x < 256 := by omega
  have key : ∀ y : Fin 256, ((y.val &&& 15 : Nat) = y.val % 16 ∧ (y.val &&& 127 : Nat) = y.val % 128) ∧ ((y.val &&& 112 = 0) ↔ y.val / 16 % 8 = 0) ∧ ((y.val &&& 128 = 0) ↔ y.val < 128) := by decide +kernel
  obtain ⟨⟨k1, k2⟩, k3, k4⟩ := key ⟨x, hx⟩
  simp only at k1 k2 k3 k4
  have e1 := and_u8 x 15 hx (by decide)
  have e2 := and_u8 x 127 hx (by decide)
  have e3 := and_u8 x 112 hx (by decide)
  have e4 := and_u8 x 128 hx (by decide)
  refine ⟨?_, ?_, ?_, ?_⟩
  · rw [show ((15 : Nat) : Int) = 15 from rfl] at e1; rw [e1, k1]; omega
  · rw [show ((127 : Nat) : Int) = 127 from rfl] at e2; rw [e2, k2]; omega
  · rw [show ((112 : Nat) : Int) = 112 from rfl] at e3
    rw [e3, Bool.eq_iff_iff]
    simp only [beq_iff_eq, decide_eq_true_eq]
    constructor
    · intro h; have := k3.1 (by omega); omega
    · intro h; have := k3.2 (by omega); omega
  · rw [show ((128 : Nat) : Int) = 128 from rfl] at e4
    rw [e4, Bool.eq_iff_iff]
    simp only [beq_iff_eq, decide_eq_true_eq]
    constructor
    · intro h; have := k4.1 (by omega); omega
    · intro h; have := k4.2 (by omega); omega
theorem or_128 (c : Int) (h : 0 ≤ c ∧ c < 128) : bits .or .u8 c 128 = c + 128 ∧ bits .or .u8 128 c = c + 128 ∧ bits .or .u8 0 c = c := by
  obtain ⟨x, rfl⟩ := Int.eq_ofNat_of_zero_le h.1
  have hx : x < 128 := by omega
  have key : ∀ y : Fin 128, (y.val ||| 128 : Nat) = y.val + 128 ∧ (128 ||| y.val : Nat) = y.val + 128 ∧ (0 ||| y.val : Nat) = y.val := by decide +kernel
  obtain ⟨k1, k2, k3⟩ := key ⟨x, hx⟩
  simp only at k1 k2 k3
  have e1 := or_u8 x 128 (by omega) (by decide)
  have e2 := or_u8 128 x (by decide) (by omega)
  have e3 := or_u8 0 x (by decide) (by omega)
  rw [k1] at e1
  rw [k2] at e2
  rw [k3] at e3
  exact ⟨e1.trans (by omega), e2.trans (by omega), e3⟩
/-! ### Numbers of bytes -/
theorem numL_snoc (l : List Int) (c : Int) : numL (l ++ [c]) = 256 * numL l + c := by simp [numL]
theorem numL_take (l : List Int) (k : Nat) (h : k < l.length) : numL (l.take (k + 1)) = 256 * numL (l.take k) + rd l (k : Nat) := by
  rw [List.take_succ_eq_append_getElem h, numL_snoc, rd_get l k h]
theorem numL_range (l : List Int) (hl : Bytes l) : ∀ k, k ≤ l.length → 0 ≤ numL (l.take k) ∧ numL (l.take k) < ((256 ^ k : Nat) : Int)
  | 0, _ => by simp [numL]
  | k + 1, h => by
    obtain ⟨i0, i1⟩ := numL_range l hl k (by omega)
    obtain ⟨c0, c1⟩ := bytes_rd hl k (by omega)
    rw [numL_take l k (by omega)]
    have e : ((256 ^ (k + 1) : Nat) : Int) = 256 * ((256 ^ k : Nat) : Int) := by rw [Nat.pow_succ]; omega
    omega
/-- The highest byte. -/
theorem numL_high (l : List Int) (hl : Bytes l) : ∀ k, k < l.length → rd l 0 * ((256 ^ k : Nat) : Int) ≤ numL (l.take (k + 1)) ∧ numL (l.take (k + 1)) < (rd l 0 + 1) * ((256 ^ k : Nat) : Int)
  | 0, h => by
    rw [numL_take l 0 h]
    simp [numL]
    omega
  | k + 1, h => by
    obtain ⟨i0, i1⟩ := numL_high l hl k (by omega)
    obtain ⟨c0, c1⟩ := bytes_rd hl (k + 1) h
    rw [numL_take l (k + 1) h]
    have e : ((256 ^ (k + 1) : Nat) : Int) = 256 * ((256 ^ k : Nat) : Int) := by rw [Nat.pow_succ]; omega
    rw [e]
    generalize ((256 ^ k : Nat) : Int) = p at i0 i1 ⊢
    have e1 : rd l 0 * (256 * p) = 256 * (rd l 0 * p) := by rw [Int.mul_left_comm]
    have e2 : (rd l 0 + 1) * (256 * p) = 256 * ((rd l 0 + 1) * p) := by rw [Int.mul_left_comm]
    rw [e1, e2]
    generalize rd l 0 * p = a at i0 ⊢
    generalize (rd l 0 + 1) * p = z at i1 ⊢
    omega
/-! ### What is written is read -/
theorem known_cases {op : Int} (h : knownB op = true) : op = 0 ∨ op = 1 ∨ op = 2 ∨ op = 8 ∨ op = 9 ∨ op = 10 := by
  have := of_decide_eq_true h
  omega
theorem wrE_ok {f : Frm} {m : Nat} (h : wrE f m = 0) : (m = 0 ∨ m = 4) ∧ knownB f.op = true ∧ (8 ≤ f.op → f.fin = true ∧ f.load.length ≤ 125) ∧ f.load.length ≤ 16384 := by
  unfold wrE at h
  split at h
  · cases h
  rename_i h1
  split at h
  · cases h
  rename_i h2
  split at h
  · cases h
  rename_i h3
  simp only [Bool.or_eq_true, Bool.and_eq_true, Bool.not_eq_true', decide_eq_true_eq, not_or, not_and, Bool.not_eq_false] at h2
  refine ⟨by omega, h2.1, fun h8 => ?_, by omega⟩
  have h4 := h2.2 h8
  exact ⟨h4.1, by omega⟩
end Go.Proofs.YtcfbfmgckaehdaaDoor
namespace Go.Proofs.YtcfbfmgckaehdaaDoor
open Go.RowKit Go.Proofs.YtcfbfmgckaehdaaDoorW.PrintWords
/-- One bit's step, as the walk spells it. -/
def sumBit (c : Int) : Int := bits BinOp.xor IntKind.u32 (c / 2) (bits BinOp.and IntKind.u32 2197175160 (-(bits BinOp.and IntKind.u32 c 1) % 4294967296))
def sumByte (c x : Int) : Int := iter sumBit 8 (bits BinOp.xor IntKind.u32 c (x % 4294967296))
def sumBytes (l : List Int) : Int := l.foldl sumByte 4294967295
def wireSum (l : List Int) : Int := bits .xor .u32 4294967295 (sumBytes l)
def wire_Sum.f (l : List Int) : Option Int := some (wireSum l)
end Go.Proofs.YtcfbfmgckaehdaaDoor
namespace Go.Proofs.YtcfbfmgckaehdaaDoor
open Go.RowKit Go.Proofs.YtcfbfmgckaehdaaDoorW.PrintWords
set_option maxHeartbeats 800000 in
theorem Equal_calls {n m : Nat} (A0 : Option Addr) (c0 : Nat) (l0 : List Int) (A1 : Option Addr) (c1 : Nat) (l1 : List Int) (w : World) (hr0 : Kd.C (Kd.int .u8) w A0 n l0) (hr1 : Kd.C (Kd.int .u8) w A1 m l1) (hb0 : Bytes l0) (hb1 : Bytes l1) :
    Calls Tryd.prog 18 #[.slice A0 n c0, .slice A1 m c1] w fun e w' => e = .returned (.bool (decide (l0 = l1))) ∧ Drawn0 w w' := by
  have k0 := Kd.C_string (P := Tryd.prog) (src := 22) (dst := 9) (e := 5) Tryd.underlying22 Tryd.underlying5 Tryd.underlying9 (c := c0) hr0
  have k1 := Kd.C_string (P := Tryd.prog) (src := 22) (dst := 9) (e := 5) Tryd.underlying22 Tryd.underlying5 Tryd.underlying9 (c := c1) hr1
  clear hr0 hr1
  go_enter Tryd.func18, Tryd.ntmps18
  go_wp2
  go_ret
  exact ⟨ret_bool (strOf_eql hb0 hb1), Drawn0.refl _⟩
theorem Equal_true {n m : Nat} (A0 : Option Addr) (c0 : Nat) (l0 : List Int) (A1 : Option Addr) (c1 : Nat) (l1 : List Int) (w : World) (hr0 : Kd.C (Kd.int .u8) w A0 n l0) (hr1 : Kd.C (Kd.int .u8) w A1 m l1) (hb0 : Bytes l0) (he : l0 = l1) :
    Calls Tryd.prog 18 #[.slice A0 n c0, .slice A1 m c1] w fun e w' => e = .returned (.bool true) ∧ Drawn0 w w' := by
  subst he
  exact (Equal_calls A0 c0 l0 A1 c1 l0 w hr0 hr1 hb0 hb0).mono fun e w' ⟨h, k⟩ => ⟨by rw [h, decide_eq_true rfl], k⟩
end Go.Proofs.YtcfbfmgckaehdaaDoor
namespace Go.Proofs.YtcfbfmgckaehdaaDoor
open Go.RowKit Go.Proofs.YtcfbfmgckaehdaaDoorW.PrintWords
theorem Rd.take {w : World} {A : Option Addr} {n : Nat} {l : List Int} (h : Rd w A n l) (m : Nat) (hm : m ≤ n) : Rd w A m (l.take m) := by
  have hl := Kd.C_len h
  have := Kd.C_take (k := Kd.int .u8) (m := m) (hl ▸ h) (by omega)
  rwa [List.length_take, Nat.min_eq_left (by omega)] at this
end Go.Proofs.YtcfbfmgckaehdaaDoor
namespace Go.Proofs.YtcfbfmgckaehdaaDoor
open Go.RowKit Go.Proofs.YtcfbfmgckaehdaaDoorW.PrintWords
theorem Rd.lit {w : World} {ad : Addr} {n : Nat} {l : List Int} (h : ∀ j, j < n → w.cell? (ad.add j) = some (.int .u8 (rd l j))) (j : Nat) (hj : j + 1 < n) : w.cell? ⟨ad.block, ad.off + (j + 1), none⟩ = some (.int .u8 (rd l ((j + 1 : Nat) : Int))) := by
  have := h (j + 1) hj
  unfold Addr.add at this
  rwa [if_neg (by omega)] at this
theorem wrap_id {x : Int} (h0 : 0 ≤ x) (h1 : x < 9223372036854775808) : IntKind.i64.wrap x = x := by rw [IntKind.wrap_i64]; omega
end Go.Proofs.YtcfbfmgckaehdaaDoor
namespace Go.Proofs.YtcfbfmgckaehdaaDoor
open Go.RowKit Go.Proofs.YtcfbfmgckaehdaaDoorW.PrintWords
theorem known_calls (op : Int) (w : World) : Calls Tryd.prog 43 #[.int .i64 op] w fun e w' => e = .returned (.bool (knownB op)) ∧ w' = w := by
  by_cases hk : knownB op = true
  · rw [hk]
    rcases known_cases hk with rfl | rfl | rfl | rfl | rfl | rfl
    all_goals
      clear hk
      go_enter Tryd.func43, Tryd.ntmps43
      go_wp2
      go_ret
      exact ⟨rfl, rfl⟩
  · have hn : ¬ (0 ≤ op ∧ op ≤ 2 ∨ 8 ≤ op ∧ op ≤ 10) := fun h => hk (decide_eq_true h)
    have h0 : (op == 0) = false := by rw [beq_eq_false_iff_ne]; omega
    have h1 : (op == 1) = false := by rw [beq_eq_false_iff_ne]; omega
    have h2 : (op == 2) = false := by rw [beq_eq_false_iff_ne]; omega
    have h8 : (op == 8) = false := by rw [beq_eq_false_iff_ne]; omega
    have h9 : (op == 9) = false := by rw [beq_eq_false_iff_ne]; omega
    have h10 : (op == 10) = false := by rw [beq_eq_false_iff_ne]; omega
    rw [show knownB op = false from by simpa using hk]
    clear hk hn
    go_enter Tryd.func43, Tryd.ntmps43
    go_wp2
    go_ret
    exact ⟨rfl, rfl⟩
theorem knownRef_calls (op : Int) (w : World) : Calls Tryd.prog 42 #[.int .i64 op] w fun e w' => e = .returned (.bool (knownB op)) ∧ w' = w := by
  by_cases h0 : 0 ≤ op
  · have d0 : decide (0 ≤ op) = true := decide_eq_true h0
    by_cases h2 : op ≤ 2
    · have d2 : decide (op ≤ 2) = true := decide_eq_true h2
      rw [show knownB op = true from decide_eq_true (by omega)]
      clear h0 h2
      go_enter Tryd.func42, Tryd.ntmps42
      go_wp2
      go_ret
      exact ⟨rfl, rfl⟩
    · have d2 : decide (op ≤ 2) = false := decide_eq_false h2
      by_cases h8 : 8 ≤ op
      · have d8 : decide (8 ≤ op) = true := decide_eq_true h8
        obtain ⟨b, hb⟩ : ∃ b, b = decide (op ≤ 10) := ⟨_, rfl⟩
        rw [show knownB op = b by rw [hb]; unfold knownB; rw [decide_eq_decide]; omega]
        have db : decide (op ≤ 10) = b := hb.symm
        clear h0 h2 h8 hb
        go_enter Tryd.func42, Tryd.ntmps42
        go_wp2
        go_ret
        exact ⟨rfl, rfl⟩
      · have d8 : decide (8 ≤ op) = false := decide_eq_false h8
        rw [show knownB op = false from decide_eq_false (by omega)]
        clear h0 h2 h8
        go_enter Tryd.func42, Tryd.ntmps42
        go_wp2
        go_ret
        exact ⟨rfl, rfl⟩
  · have d0 : decide (0 ≤ op) = false := decide_eq_false h0
    have d8 : decide (8 ≤ op) = false := decide_eq_false (by omega)
    rw [show knownB op = false from decide_eq_false (by omega)]
    clear h0
    go_enter Tryd.func42, Tryd.ntmps42
    go_wp2
    go_ret
    exact ⟨rfl, rfl⟩
theorem control_calls (op : Int) (w : World) : Calls Tryd.prog 44 #[.int .i64 op] w fun e w' => e = .returned (.bool (decide (8 ≤ op))) ∧ w' = w := by
  go_enter Tryd.func44, Tryd.ntmps44
  go_wp2
  go_ret
  exact ⟨rfl, rfl⟩
def firstE (c : Int) : Int := if badF c then 1002 else 0
def secondE (c d : Int) (mask : Bool) : Int := if badS c d mask then 1002 else 0
theorem wsFirst_calls (c : Int) (w : World) (h : 0 ≤ c ∧ c < 256) : Calls Tryd.prog 38 #[.int .u8 c] w fun e w' => e = .returned (.int .i64 (firstE c)) ∧ w' = w := by
  obtain ⟨b15, _, b112, b128⟩ := byte_bits c h
  have w16 : IntKind.i64.wrap (c % 16) = c % 16 := wrap_id (by omega) (by omega)
  obtain ⟨o, ho⟩ : ∃ o, o = c % 16 := ⟨_, rfl⟩
  have he : firstE c = if (decide (c / 16 % 8 ≠ 0) || !knownB o || (decide (8 ≤ o) && decide (c < 128))) = true then 1002 else 0 := by rw [ho]; rfl
  rw [← ho] at b15 w16
  rw [he]
  have n112 : (bits .and .u8 c 112 != 0) = decide (c / 16 % 8 ≠ 0) := by unfold bne; rw [b112, decide_not]
  clear he ho b112 h
  obtain ⟨z, hz⟩ : ∃ z, z = decide (c / 16 % 8 ≠ 0) := ⟨_, rfl⟩
  rw [← hz] at n112 ⊢
  clear hz
  cases z
  · cases hk : knownB o
    · have HK := Lib.hid hk
      simp only [Bool.not_false, Bool.or_true, Bool.true_or, if_true]
      clear hk
      go_enter Tryd.func38, Tryd.ntmps38
      go_wp2_with fail
      refine (known_calls o _).mono ?_
      rintro e w' ⟨rfl, rfl⟩
      rw [HK.out]
      go_wp2
      go_ret
      exact ⟨rfl, rfl⟩
    · have HK := Lib.hid hk
      clear hk
      cases hd : decide (8 ≤ o) <;> cases hc : decide (c < 128) <;> rw [hc] at b128
      all_goals
        simp only [Bool.not_true, Bool.or_false, Bool.false_or, Bool.and_true, Bool.and_false, Bool.false_eq_true, if_true, if_false]
        go_enter Tryd.func38, Tryd.ntmps38
        go_wp2_with fail
        refine (known_calls o _).mono ?_
        rintro e w' ⟨rfl, rfl⟩
        rw [HK.out]
        go_wp2_with fail
        refine (control_calls o _).mono ?_
        rintro e w' ⟨rfl, rfl⟩
        go_wp2
        go_ret
        exact ⟨rfl, rfl⟩
  · simp only [Bool.true_or, if_true]
    go_enter Tryd.func38, Tryd.ntmps38
    go_wp2
    go_ret
    exact ⟨rfl, rfl⟩
theorem second_calls {n : Nat} (A0 : Option Addr) (c0 : Nat) (l : List Int) (mask : Bool) (w : World) (hr : Rd w A0 n l) (hb : Bytes l) (hn : 2 ≤ n) :
    Calls Tryd.prog 39 #[.slice A0 n c0, .bool mask] w fun e w' => e = .returned (.int .i64 (secondE (rd l 0) (rd l 1) mask)) ∧ w' = w := by
  have hlen := Kd.C_len hr
  have hmax := Kd.C_max hr
  obtain ⟨ad, rfl, hcell⟩ := Rd.cells hr (by omega)
  have x0 := hcell 0 (by omega)
  rw [Addr.add_zero'] at x0
  have x1 : w.cell? ⟨ad.block, ad.off + 1, none⟩ = some (.int .u8 (rd l 1)) := Rd.lit hcell 0 (by omega)
  have r0 : 0 ≤ rd l 0 ∧ rd l 0 < 256 := bytes_rd hb 0 (by omega)
  have r1 : 0 ≤ rd l 1 ∧ rd l 1 < 256 := bytes_rd hb 1 (by omega)
  simp only [Int.natCast_zero] at x0
  obtain ⟨c, hc⟩ : ∃ c, c = rd l 0 := ⟨_, rfl⟩
  obtain ⟨d, hd⟩ : ∃ d, d = rd l 1 := ⟨_, rfl⟩
  rw [← hc] at x0 r0 ⊢
  rw [← hd] at x1 r1 ⊢
  obtain ⟨b15, _, _, _⟩ := byte_bits c r0
  obtain ⟨_, b127, _, b128⟩ := byte_bits d r1
  have w16 : IntKind.i64.wrap (c % 16) = c % 16 := wrap_id (by omega) (by omega)
  have n0 : 0 < n := by omega
  have n1 : 1 < n := by omega
  have i0 : (0 : Int) < n := by omega
  have i1 : (1 : Int) < n := by omega
  clear hc hd r0 r1 hcell hr hb hlen hmax
  obtain ⟨o, ho⟩ : ∃ o, o = c % 16 := ⟨_, rfl⟩
  have hS : secondE c d mask = if ((!decide (d < 128)) != mask || (decide (8 ≤ o) && decide (125 < d % 128))) = true then 1002 else 0 := by
    unfold secondE badS
    rw [ho, show decide (128 ≤ d) = !decide (d < 128) by rw [← decide_not, decide_eq_decide]; omega]
  rw [hS]
  rw [← ho] at b15 w16
  have n128 : (bits .and .u8 d 128 != 0) = !decide (d < 128) := by unfold bne; rw [b128]
  clear ho hS b128
  cases h128 : decide (d < 128) <;> cases mask <;> rw [h128] at n128 <;> cases hd : decide (8 ≤ o) <;> cases h125 : decide (125 < d % 128)
  all_goals
    simp only [Bool.not_true, Bool.not_false] at n128
    simp only [Bool.not_true, Bool.not_false, bne_self_eq_false, show (true != false) = true from rfl, show (false != true) = true from rfl, Bool.true_or, Bool.false_or, Bool.and_true, Bool.and_false, Bool.and_self, Bool.false_eq_true, if_true, if_false]
    go_enter Tryd.func39, Tryd.ntmps39
    first
      | (go_wp2_with fail
         refine (control_calls o _).mono ?_
         rintro e w' ⟨rfl, rfl⟩
         go_wp2
         go_ret
         exact ⟨rfl, rfl⟩)
      | (go_wp2
         go_ret
         exact ⟨rfl, rfl⟩)
end Go.Proofs.YtcfbfmgckaehdaaDoor
