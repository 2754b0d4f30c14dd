/- The texts WsLaw, Sum, Equal, Compare, Unframe, WsHead in one. -/
import Derived.Test.YtcfbfmgckaehdaaDoorG01
import Derived.Lib.Bytealg
import Derived.Shelf.Small.Strs
import Derived.Lib.BitFns
import Derived.Laws.StructEq
namespace Go.Proofs.YtcfbfmgckaehdaaDoor
open Go.RowKit Go.Proofs.YtcfbfmgckaehdaaDoorW.PrintWords
/-- A frame. -/
structure Frm where
  fin : Bool
  op : Int
  load : List Int
def zeroF : Frm := ⟨false, 0, []⟩
def knownB (op : Int) : Bool := decide (0 ≤ op ∧ op ≤ 2 ∨ 8 ≤ op ∧ op ≤ 10)
/-- A load turned by a mask. -/
def maskL (m l : List Int) : List Int := (List.range l.length).map fun i => bits .xor .u8 (rd l (i : Nat)) (rd m ((i % 4 : Nat) : Int))
def badF (c : Int) : Bool := decide (c / 16 % 8 ≠ 0) || !knownB (c % 16) || (decide (8 ≤ c % 16) && decide (c < 128))
def badS (c d : Int) (mask : Bool) : Bool := (decide (128 ≤ d) != mask) || (decide (8 ≤ c % 16) && decide (125 < d % 128))
/-- A number of bytes, the highest first. -/
def numL (l : List Int) : Int := l.foldl (fun x c => 256 * x + c) 0
/-- How long a load is, where its mask or it begins, why not. -/
def lenR (b : List Int) : Int × Int × Int :=
  if rd b 1 % 128 ≤ 125 then (rd b 1 % 128, 2, 0)
  else if rd b 1 % 128 = 126 then
    if b.length < 4 then (0, 0, 1) else if numL ((b.drop 2).take 2) ≤ 125 then (0, 0, 1002) else if 16384 < numL ((b.drop 2).take 2) then (0, 0, 1009) else (numL ((b.drop 2).take 2), 4, 0)
  else if b.length < 10 then (0, 0, 1) else if 128 ≤ rd b 2 ∨ numL ((b.drop 2).take 8) ≤ 65535 then (0, 0, 1002) else (0, 0, 1009)
def bodyR (b : List Int) (mask : Bool) (n t : Nat) : Frm × Int × Int :=
  if mask then
    if b.length < t + 4 + n then (zeroF, 0, 1) else (⟨decide (128 ≤ rd b 0), rd b 0 % 16, maskL ((b.drop t).take 4) ((b.drop (t + 4)).take n)⟩, ((t + 4 + n : Nat) : Int), 0)
  else if b.length < t + n then (zeroF, 0, 1) else (⟨decide (128 ≤ rd b 0), rd b 0 % 16, (b.drop t).take n⟩, ((t + n : Nat) : Int), 0)
/-- The frame with which bytes begin, how many bytes it has, why there is none. -/
def rdF (b : List Int) (mask : Bool) : Frm × Int × Int :=
  if b.length = 0 then (zeroF, 0, 1)
  else if badF (rd b 0) then (zeroF, 0, 1002)
  else if b.length = 1 then (zeroF, 0, 1)
  else if badS (rd b 0) (rd b 1) mask then (zeroF, 0, 1002)
  else if (lenR b).2.2 ≠ 0 then (zeroF, 0, (lenR b).2.2)
  else bodyR b mask (lenR b).1.toNat (lenR b).2.1.toNat
/-- Why a frame can't be written. -/
def wrE (f : Frm) (m : Nat) : Int :=
  if m ≠ 0 ∧ m ≠ 4 then 1 else if (!knownB f.op || (decide (8 ≤ f.op) && (!f.fin || decide (125 < f.load.length)))) = true then 90 else if 16384 < f.load.length then 4 else 0
def topF (fin : Bool) (op : Int) : Int := if fin then op + 128 else op
def sizeF (m n : Nat) : Int := (if n ≤ 125 then (n : Int) else 126) + (if m = 4 then 128 else 0)
def moreF (n : Nat) : List Int := if n ≤ 125 then [] else [(n : Int) / 256, (n : Int) % 256]
/-- A frame's bytes. -/
def wrL (f : Frm) (m : List Int) : List Int :=
  [topF f.fin f.op, sizeF m.length f.load.length] ++ moreF f.load.length ++ m ++ (if m.length = 4 then maskL m f.load else f.load)
/-! ### The mask -/
theorem maskL_length (m l : List Int) : (maskL m l).length = l.length := by simp [maskL]
theorem maskL_at (m l : List Int) (i : Nat) (h : i < l.length) : rd (maskL m l) (i : Nat) = bits .xor .u8 (rd l (i : Nat)) (rd m ((i % 4 : Nat) : Int)) := by
  rw [rd_get _ i (by rw [maskL_length]; exact h)]
  simp [maskL]
theorem xor_u8r (a b : Int) : 0 ≤ bits .xor .u8 a b ∧ bits .xor .u8 a b < 256 := by
  have := bits_within .xor .u8 a b
  have e1 : IntKind.u8.min = 0 := rfl
  have e2 : IntKind.u8.max = 255 := rfl
  omega
theorem maskL_Bytes (m l : List Int) : Bytes (maskL m l) := by
  intro x hx
  unfold maskL at hx
  obtain ⟨i, _, rfl⟩ := List.mem_map.1 hx
  exact xor_u8r _ _
theorem xor_back (a b : Int) (ha : 0 ≤ a ∧ a < 256) (hb : 0 ≤ b ∧ b < 256) : bits .xor .u8 (bits .xor .u8 a b) b = a := by
  obtain ⟨x, rfl⟩ := Int.eq_ofNat_of_zero_le ha.1
  obtain ⟨y, rfl⟩ := Int.eq_ofNat_of_zero_le hb.1
  have hx : x < 256 := by omega
  have hy : y < 256 := by omega
  rw [xor_u8 x y hx hy, xor_u8 (x ^^^ y) y (Nat.xor_lt_two_pow (n := 8) hx hy) hy, Nat.xor_assoc, Nat.xor_self, Nat.xor_zero]
theorem xor_zero8 (a : Int) (ha : 0 ≤ a ∧ a < 256) : bits .xor .u8 a 0 = a := by
  obtain ⟨x, rfl⟩ := Int.eq_ofNat_of_zero_le ha.1
  have := xor_u8 x 0 (by omega) (by omega)
  rw [Nat.xor_zero] at this
  exact this
theorem rd_ext {l k : List Int} (h : l.length = k.length) (he : ∀ i : Nat, i < l.length → rd l (i : Nat) = rd k (i : Nat)) : l = k := by
  apply List.ext_getElem h
  intro i h1 h2
  have := he i h1
  rwa [rd_get l i h1, rd_get k i h2] at this
theorem rd_bytes0 {l : List Int} (h : Bytes l) (i : Nat) : 0 ≤ rd l (i : Nat) ∧ rd l (i : Nat) < 256 := by
  by_cases hi : i < l.length
  · exact bytes_rd h i hi
  · unfold rd
    rw [Int.toNat_natCast, List.getD_eq_getElem?_getD, List.getElem?_eq_none (by omega)]
    simp
theorem maskL_back (m l : List Int) (hm : Bytes m) (hl : Bytes l) : maskL m (maskL m l) = l := by
  apply rd_ext (by rw [maskL_length, maskL_length])
  intro i hi
  rw [maskL_length, maskL_length] at hi
  rw [maskL_at _ _ i (by rw [maskL_length]; exact hi), maskL_at _ _ i hi]
  exact xor_back _ _ (bytes_rd hl i hi) (rd_bytes0 hm _)
theorem maskL_zero (l : List Int) (hl : Bytes l) : maskL [0, 0, 0, 0] l = l := by
  apply rd_ext (maskL_length _ _)
  intro i hi
  rw [maskL_length] at hi
  rw [maskL_at _ _ i hi]
  have h4 : rd [0, 0, 0, 0] ((i % 4 : Nat) : Int) = 0 := by
    have : i % 4 < 4 := Nat.mod_lt _ (by decide)
    have h : i % 4 = 0 ∨ i % 4 = 1 ∨ i % 4 = 2 ∨ i % 4 = 3 := by omega
    rcases h with h | h | h | h <;> rw [h] <;> rfl
  rw [h4]
  exact xor_zero8 _ (bytes_rd hl i hi)
/-- The first k bytes turned. -/
def maskUp (m l : List Int) (k : Nat) : List Int := (maskL m l).take k ++ l.drop k
theorem maskUp_zero (m l : List Int) : maskUp m l 0 = l := by simp [maskUp]
theorem maskUp_all (m l : List Int) : maskUp m l l.length = maskL m l := by unfold maskUp; rw [List.take_of_length_le (by rw [maskL_length]; exact Nat.le_refl _), List.drop_length, List.append_nil]
theorem maskUp_length (m l : List Int) (k : Nat) : (maskUp m l k).length = l.length := by unfold maskUp; rw [List.length_append, List.length_take, List.length_drop, maskL_length]; omega
theorem maskUp_at (m l : List Int) (k : Nat) (hk : k < l.length) : rd (maskUp m l k) (k : Nat) = rd l (k : Nat) := by
  have h1 : ((maskL m l).take k).length = k := by rw [List.length_take, maskL_length]; omega
  unfold rd maskUp
  simp only [Int.toNat_natCast, List.getD_eq_getElem?_getD]
  rw [List.getElem?_append_right (by omega), h1, Nat.sub_self, List.getElem?_drop, Nat.add_zero]
theorem maskUp_set (m l : List Int) (k : Nat) (hk : k < l.length) : (maskUp m l k).set k (bits .xor .u8 (rd l (k : Nat)) (rd m ((k % 4 : Nat) : Int))) = maskUp m l (k + 1) := by
  have h1 : ((maskL m l).take k).length = k := by rw [List.length_take, maskL_length]; omega
  have h2 : k < (maskL m l).length := by rw [maskL_length]; exact hk
  rw [← maskL_at m l k hk, rd_get _ k h2]
  unfold maskUp
  rw [List.set_append_right _ _ (by omega), h1, Nat.sub_self, List.drop_eq_getElem_cons hk, List.set_cons_zero, List.take_succ_eq_append_getElem h2, List.append_assoc]
  rfl
/-! ### A byte's bits -/
theorem byte_bits (c : Int) (h : 0 ≤ c ∧ c < 256) : bits .and .u8 c 15 = c % 16 ∧ bits .and .u8 c 127 = c % 128 ∧ (bits .and .u8 c 112 == 0) = decide (c / 16 % 8 = 0) ∧ (bits .and .u8 c 128 == 0) = decide (c < 128) := by
  obtain ⟨x, rfl⟩ := Int.eq_ofNat_of_zero_le h.1
  have hx : x < 256 := by omega
  have key : ∀ y : Fin 256, ((y.val &&& 15 : Nat) = y.val % 16 ∧ (y.val &&& 127 : Nat) = y.val % 128) ∧ ((y.val &&& 112 = 0) ↔ y.val / 16 % 8 = 0) ∧ ((y.val &&& 128 = 0) ↔ y.val < 128) := by decide +kernel
  obtain ⟨⟨k1, k2⟩, k3, k4⟩ := key ⟨x, hx⟩
  simp only at k1 k2 k3 k4
  have e1 := and_u8 x 15 hx (by decide)
  have e2 := and_u8 x 127 hx (by decide)
  have e3 := and_u8 x 112 hx (by decide)
  have e4 := and_u8 x 128 hx (by decide)
  refine ⟨?_, ?_, ?_, ?_⟩
  · rw [show ((15 : Nat) : Int) = 15 from rfl] at e1; rw [e1, k1]; omega
  · rw [show ((127 : Nat) : Int) = 127 from rfl] at e2; rw [e2, k2]; omega
  · rw [show ((112 : Nat) : Int) = 112 from rfl] at e3
    rw [e3, Bool.eq_iff_iff]
    simp only [beq_iff_eq, decide_eq_true_eq]
    constructor
    · intro h; have := k3.1 (by omega); omega
    · intro h; have := k3.2 (by omega); omega
  · rw [show ((128 : Nat) : Int) = 128 from rfl] at e4
    rw [e4, Bool.eq_iff_iff]
    simp only [beq_iff_eq, decide_eq_true_eq]
    constructor
    · intro h; have := k4.1 (by omega); omega
    · intro h; have := k4.2 (by omega); omega
theorem or_128 (c : Int) (h : 0 ≤ c ∧ c < 128) : bits .or .u8 c 128 = c + 128 ∧ bits .or .u8 128 c = c + 128 ∧ bits .or .u8 0 c = c := by
  obtain ⟨x, rfl⟩ := Int.eq_ofNat_of_zero_le h.1
  have hx : x < 128 := by omega
  have key : ∀ y : Fin 128, (y.val ||| 128 : Nat) = y.val + 128 ∧ (128 ||| y.val : Nat) = y.val + 128 ∧ (0 ||| y.val : Nat) = y.val := by decide +kernel
  obtain ⟨k1, k2, k3⟩ := key ⟨x, hx⟩
  simp only at k1 k2 k3
  have e1 := or_u8 x 128 (by omega) (by decide)
  have e2 := or_u8 128 x (by decide) (by omega)
  have e3 := or_u8 0 x (by decide) (by omega)
  rw [k1] at e1
  rw [k2] at e2
  rw [k3] at e3
  exact ⟨e1.trans (by omega), e2.trans (by omega), e3⟩
/-! ### Numbers of bytes -/
theorem numL_snoc (l : List Int) (c : Int) : numL (l ++ [c]) = 256 * numL l + c := by simp [numL]
theorem numL_take (l : List Int) (k : Nat) (h : k < l.length) : numL (l.take (k + 1)) = 256 * numL (l.take k) + rd l (k : Nat) := by
  rw [List.take_succ_eq_append_getElem h, numL_snoc, rd_get l k h]
theorem numL_range (l : List Int) (hl : Bytes l) : ∀ k, k ≤ l.length → 0 ≤ numL (l.take k) ∧ numL (l.take k) < ((256 ^ k : Nat) : Int)
  | 0, _ => by simp [numL]
  | k + 1, h => by
    obtain ⟨i0, i1⟩ := numL_range l hl k (by omega)
    obtain ⟨c0, c1⟩ := bytes_rd hl k (by omega)
    rw [numL_take l k (by omega)]
    have e : ((256 ^ (k + 1) : Nat) : Int) = 256 * ((256 ^ k : Nat) : Int) := by rw [Nat.pow_succ]; omega
    omega
/-- The highest byte. -/
theorem numL_high (l : List Int) (hl : Bytes l) : ∀ k, k < l.length → rd l 0 * ((256 ^ k : Nat) : Int) ≤ numL (l.take (k + 1)) ∧ numL (l.take (k + 1)) < (rd l 0 + 1) * ((256 ^ k : Nat) : Int)
  | 0, h => by
    rw [numL_take l 0 h]
    simp [numL]
    omega
  | k + 1, h => by
    obtain ⟨i0, i1⟩ := numL_high l hl k (by omega)
    obtain ⟨c0, c1⟩ := bytes_rd hl (k + 1) h
    rw [numL_take l (k + 1) h]
    have e : ((256 ^ (k + 1) : Nat) : Int) = 256 * ((256 ^ k : Nat) : Int) := by rw [Nat.pow_succ]; omega
    rw [e]
    generalize ((256 ^ k : Nat) : Int) = p at i0 i1 ⊢
    have e1 : rd l 0 * (256 * p) = 256 * (rd l 0 * p) := by rw [Int.mul_left_comm]
    have e2 : (rd l 0 + 1) * (256 * p) = 256 * ((rd l 0 + 1) * p) := by rw [Int.mul_left_comm]
    rw [e1, e2]
    generalize rd l 0 * p = a at i0 ⊢
    generalize (rd l 0 + 1) * p = z at i1 ⊢
    omega
/-! ### What is written is read -/
theorem rd_cons0 (a : Int) (l : List Int) : rd (a :: l) 0 = a := rfl
theorem rd_cons1 (a b : Int) (l : List Int) : rd (a :: b :: l) 1 = b := rfl
theorem known_cases {op : Int} (h : knownB op = true) : op = 0 ∨ op = 1 ∨ op = 2 ∨ op = 8 ∨ op = 9 ∨ op = 10 := by
  have := of_decide_eq_true h
  omega
theorem wrE_ok {f : Frm} {m : Nat} (h : wrE f m = 0) : (m = 0 ∨ m = 4) ∧ knownB f.op = true ∧ (8 ≤ f.op → f.fin = true ∧ f.load.length ≤ 125) ∧ f.load.length ≤ 16384 := by
  unfold wrE at h
  split at h
  · cases h
  rename_i h1
  split at h
  · cases h
  rename_i h2
  split at h
  · cases h
  rename_i h3
  simp only [Bool.or_eq_true, Bool.and_eq_true, Bool.not_eq_true', decide_eq_true_eq, not_or, not_and, Bool.not_eq_false] at h2
  refine ⟨by omega, h2.1, fun h8 => ?_, by omega⟩
  have h4 := h2.2 h8
  exact ⟨h4.1, by omega⟩
theorem topF_ok {fin : Bool} {op : Int} (hk : knownB op = true) (hc : 8 ≤ op → fin = true) : badF (topF fin op) = false ∧ decide (128 ≤ topF fin op) = fin ∧ topF fin op % 16 = op ∧ 0 ≤ topF fin op ∧ topF fin op < 256 := by
  rcases known_cases hk with rfl | rfl | rfl | rfl | rfl | rfl <;> cases fin <;> first | decide | (exact absurd (hc (by decide)) (by decide))
theorem sizeF_ok (m n : Nat) : decide (128 ≤ sizeF m n) = decide (m = 4) ∧ sizeF m n % 128 = (if n ≤ 125 then (n : Int) else 126) ∧ 0 ≤ sizeF m n ∧ sizeF m n < 256 := by
  unfold sizeF
  refine ⟨?_, ?_, ?_, ?_⟩
  · rw [decide_eq_decide]; split <;> split <;> omega
  all_goals split <;> split <;> omega
/-- What a reader meets that begins as a frame that was written: the head is right. -/
theorem rdF_head {f : Frm} {m : List Int} (h : wrE f m.length = 0) (l : List Int) : rdF (topF f.fin f.op :: sizeF m.length f.load.length :: l) (decide (m.length = 4)) =
    (if (lenR (topF f.fin f.op :: sizeF m.length f.load.length :: l)).2.2 ≠ 0 then (zeroF, 0, (lenR (topF f.fin f.op :: sizeF m.length f.load.length :: l)).2.2)
      else bodyR (topF f.fin f.op :: sizeF m.length f.load.length :: l) (decide (m.length = 4)) (lenR (topF f.fin f.op :: sizeF m.length f.load.length :: l)).1.toNat (lenR (topF f.fin f.op :: sizeF m.length f.load.length :: l)).2.1.toNat) := by
  obtain ⟨_, hk, hc, _⟩ := wrE_ok h
  obtain ⟨t1, t2, t3, _⟩ := topF_ok hk (fun h8 => (hc h8).1)
  obtain ⟨s1, s2, _⟩ := sizeF_ok m.length f.load.length
  have hS : badS (topF f.fin f.op) (sizeF m.length f.load.length) (decide (m.length = 4)) = false := by
    unfold badS
    rw [s1, s2, t3]
    simp only [bne_self_eq_false, Bool.false_or, Bool.and_eq_false_iff, decide_eq_false_iff_not]
    by_cases h8 : 8 ≤ f.op
    · right
      have := (hc h8).2
      rw [if_pos this]
      omega
    · exact Or.inl h8
  unfold rdF
  rw [if_neg (by simp), rd_cons0, rd_cons1, t1, hS]
  simp only [Bool.false_eq_true, if_false, List.length_cons]
  rw [if_neg (by omega)]
theorem two_num (n : Nat) (l : List Int) : numL (List.take 2 ((n : Int) / 256 :: (n : Int) % 256 :: l)) = n := by
  simp [numL]
  omega
theorem lenR_small {f : Frm} {m : List Int} (hn : f.load.length ≤ 125) (l : List Int) : lenR (topF f.fin f.op :: sizeF m.length f.load.length :: l) = ((f.load.length : Int), 2, 0) := by
  obtain ⟨_, s2, _⟩ := sizeF_ok m.length f.load.length
  unfold lenR
  rw [rd_cons1, s2, if_pos hn, if_pos (by omega)]
theorem lenR_great {f : Frm} {m : List Int} (hn : 125 < f.load.length) (hb : f.load.length ≤ 16384) (l : List Int) : lenR (topF f.fin f.op :: sizeF m.length f.load.length :: (f.load.length : Int) / 256 :: (f.load.length : Int) % 256 :: l) = ((f.load.length : Int), 4, 0) := by
  obtain ⟨_, s2, _⟩ := sizeF_ok m.length f.load.length
  unfold lenR
  rw [rd_cons1, s2, if_neg (show ¬ f.load.length ≤ 125 by omega), if_neg (by omega), if_pos rfl, if_neg (by simp), show (topF f.fin f.op :: sizeF m.length f.load.length :: (f.load.length : Int) / 256 :: (f.load.length : Int) % 256 :: l).drop 2 = (f.load.length : Int) / 256 :: (f.load.length : Int) % 256 :: l from rfl, two_num, if_neg (by omega), if_neg (by omega)]
/-- What stands behind a frame's first two bytes. -/
def tailF (f : Frm) (m : List Int) : List Int := moreF f.load.length ++ m ++ (if m.length = 4 then maskL m f.load else f.load)
theorem wrL_eq (f : Frm) (m : List Int) : wrL f m = topF f.fin f.op :: sizeF m.length f.load.length :: tailF f m := by
  unfold wrL tailF
  simp [List.append_assoc]
theorem moreF_length (n : Nat) : (moreF n).length = if n ≤ 125 then 0 else 2 := by unfold moreF; split <;> rfl
theorem wrL_length (f : Frm) (m : List Int) : (wrL f m).length = 2 + (if f.load.length ≤ 125 then 0 else 2) + m.length + f.load.length := by
  rw [wrL_eq]
  unfold tailF
  simp only [List.length_cons, List.length_append, moreF_length]
  have : (if m.length = 4 then maskL m f.load else f.load).length = f.load.length := by split <;> simp [maskL_length]
  rw [this]
  omega
theorem drop_at {α : Type} (a b : List α) (k : Nat) (h : a.length = k) : (a ++ b).drop k = b := by rw [← h, List.drop_left]
theorem take_at {α : Type} (a b : List α) (k : Nat) (h : a.length = k) : (a ++ b).take k = a := by rw [← h, List.take_left]
/-- A load behind its head and its mask. -/
theorem bodyR_ok {f : Frm} {m : List Int} (h : wrE f m.length = 0) (hl : Bytes f.load) (hm : Bytes m) (h0 d0 : List Int) (t : Nat) (ht : h0.length = t) (hr : rd (h0 ++ (m ++ ((if m.length = 4 then maskL m f.load else f.load) ++ d0))) 0 = topF f.fin f.op) :
    bodyR (h0 ++ (m ++ ((if m.length = 4 then maskL m f.load else f.load) ++ d0))) (decide (m.length = 4)) f.load.length t = (f, ((t + m.length + f.load.length : Nat) : Int), 0) := by
  obtain ⟨hm4, hk, hc, _⟩ := wrE_ok h
  obtain ⟨t1, t2, t3, _⟩ := topF_ok hk (fun h8 => (hc h8).1)
  unfold bodyR
  rw [hr, t2, t3]
  by_cases h4 : m.length = 4
  · have hlen : (maskL m f.load).length = f.load.length := maskL_length _ _
    simp only [h4, decide_true, if_true]
    rw [if_neg (by simp only [List.length_append, hlen, ht, h4]; omega), drop_at _ _ t ht, take_at _ _ 4 h4]
    rw [show h0 ++ (m ++ (maskL m f.load ++ d0)) = (h0 ++ m) ++ (maskL m f.load ++ d0) by rw [List.append_assoc], drop_at _ _ (t + 4) (by rw [List.length_append, ht, h4]), take_at _ _ _ hlen, maskL_back m f.load hm hl]
  · have h0' : m = [] := List.eq_nil_of_length_eq_zero (by omega)
    subst h0'
    rw [show (if ([] : List Int).length = 4 then maskL [] f.load else f.load) = f.load from rfl, show decide (([] : List Int).length = 4) = false from rfl]
    simp only [Bool.false_eq_true, if_false, List.nil_append, List.length_nil, Nat.add_zero]
    rw [if_neg (by simp only [List.length_append, ht]; omega), drop_at _ _ t ht, take_at _ _ _ rfl]
/-- A frame that is written is read as it was, whatever stands behind. -/
theorem rdF_wrL {f : Frm} {m : List Int} (h : wrE f m.length = 0) (hl : Bytes f.load) (hm : Bytes m) (d0 : List Int) : rdF (wrL f m ++ d0) (decide (m.length = 4)) = (f, ((wrL f m).length : Int), 0) := by
  obtain ⟨hm4, hk, hc, hb⟩ := wrE_ok h
  have hlen := wrL_length f m
  rw [hlen, wrL_eq]
  by_cases hn : f.load.length ≤ 125
  · have e : tailF f m ++ d0 = m ++ ((if m.length = 4 then maskL m f.load else f.load) ++ d0) := by unfold tailF moreF; rw [if_pos hn]; simp
    rw [List.cons_append, List.cons_append, e, rdF_head h, lenR_small hn]
    simp only [ne_eq, not_true_eq_false, if_false, Int.toNat_natCast]
    have := bodyR_ok h hl hm [topF f.fin f.op, sizeF m.length f.load.length] d0 2 rfl rfl
    rw [if_pos hn]
    exact this
  · have e : tailF f m ++ d0 = (f.load.length : Int) / 256 :: (f.load.length : Int) % 256 :: (m ++ ((if m.length = 4 then maskL m f.load else f.load) ++ d0)) := by unfold tailF moreF; rw [if_neg hn]; simp
    rw [List.cons_append, List.cons_append, e, rdF_head h, lenR_great (by omega) hb]
    simp only [ne_eq, not_true_eq_false, if_false, Int.toNat_natCast]
    have := bodyR_ok h hl hm [topF f.fin f.op, sizeF m.length f.load.length, (f.load.length : Int) / 256, (f.load.length : Int) % 256] d0 4 rfl rfl
    rw [if_neg hn]
    exact this
theorem wrL_Bytes {f : Frm} {m : List Int} (h : wrE f m.length = 0) (hl : Bytes f.load) (hm : Bytes m) : Bytes (wrL f m) := by
  obtain ⟨_, hk, hc, hb⟩ := wrE_ok h
  obtain ⟨_, _, _, t4, t5⟩ := topF_ok hk (fun h8 => (hc h8).1)
  obtain ⟨_, _, s3, s4⟩ := sizeF_ok m.length f.load.length
  rw [wrL_eq]
  refine Bytes.con t4 t5 (Bytes.con s3 s4 ?_)
  unfold tailF
  refine Bytes.app (Bytes.app ?_ hm) ?_
  · unfold moreF
    split
    · exact Bytes.nil
    · exact Bytes.con (by omega) (by omega) (Bytes.con (by omega) (by omega) Bytes.nil)
  · split
    · exact maskL_Bytes _ _
    · exact hl
end Go.Proofs.YtcfbfmgckaehdaaDoor
namespace Go.Proofs.YtcfbfmgckaehdaaDoor
open Go.RowKit Go.Proofs.YtcfbfmgckaehdaaDoorW.PrintWords
/-- One bit's step, as the walk spells it. -/
def sumBit (c : Int) : Int := bits BinOp.xor IntKind.u32 (c / 2) (bits BinOp.and IntKind.u32 2197175160 (-(bits BinOp.and IntKind.u32 c 1) % 4294967296))
def sumByte (c x : Int) : Int := iter sumBit 8 (bits BinOp.xor IntKind.u32 c (x % 4294967296))
def sumBytes (l : List Int) : Int := l.foldl sumByte 4294967295
def wireSum (l : List Int) : Int := bits .xor .u32 4294967295 (sumBytes l)
def wire_Sum.f (l : List Int) : Option Int := some (wireSum l)
end Go.Proofs.YtcfbfmgckaehdaaDoor
namespace Go.Proofs.YtcfbfmgckaehdaaDoor
open Go.RowKit Go.Proofs.YtcfbfmgckaehdaaDoorW.PrintWords
set_option maxHeartbeats 800000 in
theorem Equal_calls {n m : Nat} (A0 : Option Addr) (c0 : Nat) (l0 : List Int) (A1 : Option Addr) (c1 : Nat) (l1 : List Int) (w : World) (hr0 : Kd.C (Kd.int .u8) w A0 n l0) (hr1 : Kd.C (Kd.int .u8) w A1 m l1) (hb0 : Bytes l0) (hb1 : Bytes l1) :
    Calls Tryd.prog 18 #[.slice A0 n c0, .slice A1 m c1] w fun e w' => e = .returned (.bool (decide (l0 = l1))) ∧ Drawn0 w w' := by
  have k0 := Kd.C_string (P := Tryd.prog) (src := 22) (dst := 9) (e := 5) Tryd.underlying22 Tryd.underlying5 Tryd.underlying9 (c := c0) hr0
  have k1 := Kd.C_string (P := Tryd.prog) (src := 22) (dst := 9) (e := 5) Tryd.underlying22 Tryd.underlying5 Tryd.underlying9 (c := c1) hr1
  clear hr0 hr1
  go_enter Tryd.func18, Tryd.ntmps18
  go_wp2
  go_ret
  exact ⟨ret_bool (strOf_eql hb0 hb1), Drawn0.refl _⟩
theorem Equal_true {n m : Nat} (A0 : Option Addr) (c0 : Nat) (l0 : List Int) (A1 : Option Addr) (c1 : Nat) (l1 : List Int) (w : World) (hr0 : Kd.C (Kd.int .u8) w A0 n l0) (hr1 : Kd.C (Kd.int .u8) w A1 m l1) (hb0 : Bytes l0) (he : l0 = l1) :
    Calls Tryd.prog 18 #[.slice A0 n c0, .slice A1 m c1] w fun e w' => e = .returned (.bool true) ∧ Drawn0 w w' := by
  subst he
  exact (Equal_calls A0 c0 l0 A1 c1 l0 w hr0 hr1 hb0 hb0).mono fun e w' ⟨h, k⟩ => ⟨by rw [h, decide_eq_true rfl], k⟩
end Go.Proofs.YtcfbfmgckaehdaaDoor
namespace Go.Proofs.YtcfbfmgckaehdaaDoor
open Go.RowKit Go.Proofs.YtcfbfmgckaehdaaDoorW.PrintWords
theorem Rd.take {w : World} {A : Option Addr} {n : Nat} {l : List Int} (h : Rd w A n l) (m : Nat) (hm : m ≤ n) : Rd w A m (l.take m) := by
  have hl := Kd.C_len h
  have := Kd.C_take (k := Kd.int .u8) (m := m) (hl ▸ h) (by omega)
  rwa [List.length_take, Nat.min_eq_left (by omega)] at this
end Go.Proofs.YtcfbfmgckaehdaaDoor
namespace Go.Proofs.YtcfbfmgckaehdaaDoor
open Go.RowKit Go.Proofs.YtcfbfmgckaehdaaDoorW.PrintWords
theorem Rd.lit {w : World} {ad : Addr} {n : Nat} {l : List Int} (h : ∀ j, j < n → w.cell? (ad.add j) = some (.int .u8 (rd l j))) (j : Nat) (hj : j + 1 < n) : w.cell? ⟨ad.block, ad.off + (j + 1), none⟩ = some (.int .u8 (rd l ((j + 1 : Nat) : Int))) := by
  have := h (j + 1) hj
  unfold Addr.add at this
  rwa [if_neg (by omega)] at this
theorem wrap_id {x : Int} (h0 : 0 ≤ x) (h1 : x < 9223372036854775808) : IntKind.i64.wrap x = x := by rw [IntKind.wrap_i64]; omega
end Go.Proofs.YtcfbfmgckaehdaaDoor
namespace Go.Proofs.YtcfbfmgckaehdaaDoor
open Go.RowKit Go.Proofs.YtcfbfmgckaehdaaDoorW.PrintWords
theorem known_calls (op : Int) (w : World) : Calls Tryd.prog 43 #[.int .i64 op] w fun e w' => e = .returned (.bool (knownB op)) ∧ w' = w := by
  by_cases hk : knownB op = true
  · rw [hk]
    rcases known_cases hk with rfl | rfl | rfl | rfl | rfl | rfl
    all_goals
      clear hk
      go_enter Tryd.func43, Tryd.ntmps43
      go_wp2
      go_ret
      exact ⟨rfl, rfl⟩
  · have hn : ¬ (0 ≤ op ∧ op ≤ 2 ∨ 8 ≤ op ∧ op ≤ 10) := fun h => hk (decide_eq_true h)
    have h0 : (op == 0) = false := by rw [beq_eq_false_iff_ne]; omega
    have h1 : (op == 1) = false := by rw [beq_eq_false_iff_ne]; omega
    have h2 : (op == 2) = false := by rw [beq_eq_false_iff_ne]; omega
    have h8 : (op == 8) = false := by rw [beq_eq_false_iff_ne]; omega
    have h9 : (op == 9) = false := by rw [beq_eq_false_iff_ne]; omega
    have h10 : (op == 10) = false := by rw [beq_eq_false_iff_ne]; omega
    rw [show knownB op = false from by simpa using hk]
    clear hk hn
    go_enter Tryd.func43, Tryd.ntmps43
    go_wp2
    go_ret
    exact ⟨rfl, rfl⟩
theorem control_calls (op : Int) (w : World) : Calls Tryd.prog 44 #[.int .i64 op] w fun e w' => e = .returned (.bool (decide (8 ≤ op))) ∧ w' = w := by
  go_enter Tryd.func44, Tryd.ntmps44
  go_wp2
  go_ret
  exact ⟨rfl, rfl⟩
def firstE (c : Int) : Int := if badF c then 1002 else 0
def secondE (c d : Int) (mask : Bool) : Int := if badS c d mask then 1002 else 0
theorem wsFirst_calls (c : Int) (w : World) (h : 0 ≤ c ∧ c < 256) : Calls Tryd.prog 38 #[.int .u8 c] w fun e w' => e = .returned (.int .i64 (firstE c)) ∧ w' = w := by
  obtain ⟨b15, _, b112, b128⟩ := byte_bits c h
  have w16 : IntKind.i64.wrap (c % 16) = c % 16 := wrap_id (by omega) (by omega)
  obtain ⟨o, ho⟩ : ∃ o, o = c % 16 := ⟨_, rfl⟩
  have he : firstE c = if (decide (c / 16 % 8 ≠ 0) || !knownB o || (decide (8 ≤ o) && decide (c < 128))) = true then 1002 else 0 := by rw [ho]; rfl
  rw [← ho] at b15 w16
  rw [he]
  have n112 : (bits .and .u8 c 112 != 0) = decide (c / 16 % 8 ≠ 0) := by unfold bne; rw [b112, decide_not]
  clear he ho b112 h
  obtain ⟨z, hz⟩ : ∃ z, z = decide (c / 16 % 8 ≠ 0) := ⟨_, rfl⟩
  rw [← hz] at n112 ⊢
  clear hz
  cases z
  · cases hk : knownB o
    · have HK := Lib.hid hk
      simp only [Bool.not_false, Bool.or_true, Bool.true_or, if_true]
      clear hk
      go_enter Tryd.func38, Tryd.ntmps38
      go_wp2_with fail
      refine (known_calls o _).mono ?_
      rintro e w' ⟨rfl, rfl⟩
      rw [HK.out]
      go_wp2
      go_ret
      exact ⟨rfl, rfl⟩
    · have HK := Lib.hid hk
      clear hk
      cases hd : decide (8 ≤ o) <;> cases hc : decide (c < 128) <;> rw [hc] at b128
      all_goals
        simp only [Bool.not_true, Bool.or_false, Bool.false_or, Bool.and_true, Bool.and_false, Bool.false_eq_true, if_true, if_false]
        go_enter Tryd.func38, Tryd.ntmps38
        go_wp2_with fail
        refine (known_calls o _).mono ?_
        rintro e w' ⟨rfl, rfl⟩
        rw [HK.out]
        go_wp2_with fail
        refine (control_calls o _).mono ?_
        rintro e w' ⟨rfl, rfl⟩
        go_wp2
        go_ret
        exact ⟨rfl, rfl⟩
  · simp only [Bool.true_or, if_true]
    go_enter Tryd.func38, Tryd.ntmps38
    go_wp2
    go_ret
    exact ⟨rfl, rfl⟩
theorem second_calls {n : Nat} (A0 : Option Addr) (c0 : Nat) (l : List Int) (mask : Bool) (w : World) (hr : Rd w A0 n l) (hb : Bytes l) (hn : 2 ≤ n) :
    Calls Tryd.prog 39 #[.slice A0 n c0, .bool mask] w fun e w' => e = .returned (.int .i64 (secondE (rd l 0) (rd l 1) mask)) ∧ w' = w := by
  have hlen := Kd.C_len hr
  have hmax := Kd.C_max hr
  obtain ⟨ad, rfl, hcell⟩ := Rd.cells hr (by omega)
  have x0 := hcell 0 (by omega)
  rw [Addr.add_zero'] at x0
  have x1 : w.cell? ⟨ad.block, ad.off + 1, none⟩ = some (.int .u8 (rd l 1)) := Rd.lit hcell 0 (by omega)
  have r0 : 0 ≤ rd l 0 ∧ rd l 0 < 256 := bytes_rd hb 0 (by omega)
  have r1 : 0 ≤ rd l 1 ∧ rd l 1 < 256 := bytes_rd hb 1 (by omega)
  simp only [Int.natCast_zero] at x0
  obtain ⟨c, hc⟩ : ∃ c, c = rd l 0 := ⟨_, rfl⟩
  obtain ⟨d, hd⟩ : ∃ d, d = rd l 1 := ⟨_, rfl⟩
  rw [← hc] at x0 r0 ⊢
  rw [← hd] at x1 r1 ⊢
  obtain ⟨b15, _, _, _⟩ := byte_bits c r0
  obtain ⟨_, b127, _, b128⟩ := byte_bits d r1
  have w16 : IntKind.i64.wrap (c % 16) = c % 16 := wrap_id (by omega) (by omega)
  have n0 : 0 < n := by omega
  have n1 : 1 < n := by omega
  have i0 : (0 : Int) < n := by omega
  have i1 : (1 : Int) < n := by omega
  clear hc hd r0 r1 hcell hr hb hlen hmax
  obtain ⟨o, ho⟩ : ∃ o, o = c % 16 := ⟨_, rfl⟩
  have hS : secondE c d mask = if ((!decide (d < 128)) != mask || (decide (8 ≤ o) && decide (125 < d % 128))) = true then 1002 else 0 := by
    unfold secondE badS
    rw [ho, show decide (128 ≤ d) = !decide (d < 128) by rw [← decide_not, decide_eq_decide]; omega]
  rw [hS]
  rw [← ho] at b15 w16
  have n128 : (bits .and .u8 d 128 != 0) = !decide (d < 128) := by unfold bne; rw [b128]
  clear ho hS b128
  cases h128 : decide (d < 128) <;> cases mask <;> rw [h128] at n128 <;> cases hd : decide (8 ≤ o) <;> cases h125 : decide (125 < d % 128)
  all_goals
    simp only [Bool.not_true, Bool.not_false] at n128
    simp only [Bool.not_true, Bool.not_false, bne_self_eq_false, show (true != false) = true from rfl, show (false != true) = true from rfl, Bool.true_or, Bool.false_or, Bool.and_true, Bool.and_false, Bool.and_self, Bool.false_eq_true, if_true, if_false]
    go_enter Tryd.func39, Tryd.ntmps39
    first
      | (go_wp2_with fail
         refine (control_calls o _).mono ?_
         rintro e w' ⟨rfl, rfl⟩
         go_wp2
         go_ret
         exact ⟨rfl, rfl⟩)
      | (go_wp2
         go_ret
         exact ⟨rfl, rfl⟩)
end Go.Proofs.YtcfbfmgckaehdaaDoor
