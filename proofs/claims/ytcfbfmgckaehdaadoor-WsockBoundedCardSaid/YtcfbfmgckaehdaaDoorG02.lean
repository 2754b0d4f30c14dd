/- The texts WsLaw, Sum, Equal, Compare, Unframe, WsHead, WsLen in one. -/
import Derived.Test.YtcfbfmgckaehdaaDoorG01
import Derived.Lib.Bytealg
import Derived.Shelf.Small.Strs
import Derived.Lib.BitFns
import Derived.Laws.StructEq
namespace Go.Proofs.YtcfbfmgckaehdaaDoor
open Go.RowKit Go.Proofs.YtcfbfmgckaehdaaDoorW.PrintWords
/-- A frame. -/
structure Frm where
  fin : Bool
  op : Int
  load : List Int
def zeroF : Frm := ⟨false, 0, []⟩
def knownB (op : Int) : Bool := decide (0 ≤ op ∧ op ≤ 2 ∨ 8 ≤ op ∧ op ≤ 10)
/-- A load turned by a mask. -/
def maskL (m l : List Int) : List Int := (List.range l.length).map fun i => bits .xor .u8 (rd l (i : Nat)) (rd m ((i % 4 : Nat) : Int))
def badF (c : Int) : Bool := decide (c / 16 % 8 ≠ 0) || !knownB (c % 16) || (decide (8 ≤ c % 16) && decide (c < 128))
def badS (c d : Int) (mask : Bool) : Bool := (decide (128 ≤ d) != mask) || (decide (8 ≤ c % 16) && decide (125 < d % 128))
/-- A number of bytes, the highest first. -/
def numL (l : List Int) : Int := l.foldl (fun x c => 256 * x + c) 0
/-- How long a load is, where its mask or it begins, why not. -/
def lenR (b : List Int) : Int × Int × Int :=
  if rd b 1 % 128 ≤ 125 then (rd b 1 % 128, 2, 0)
  else if rd b 1 % 128 = 126 then
    if b.length < 4 then (0, 0, 1) else if numL ((b.drop 2).take 2) ≤ 125 then (0, 0, 1002) else if 16384 < numL ((b.drop 2).take 2) then (0, 0, 1009) else (numL ((b.drop 2).take 2), 4, 0)
  else if b.length < 10 then (0, 0, 1) else if 128 ≤ rd b 2 ∨ numL ((b.drop 2).take 8) ≤ 65535 then (0, 0, 1002) else (0, 0, 1009)
def bodyR (b : List Int) (mask : Bool) (n t : Nat) : Frm × Int × Int :=
  if mask then
    if b.length < t + 4 + n then (zeroF, 0, 1) else (⟨decide (128 ≤ rd b 0), rd b 0 % 16, maskL ((b.drop t).take 4) ((b.drop (t + 4)).take n)⟩, ((t + 4 + n : Nat) : Int), 0)
  else if b.length < t + n then (zeroF, 0, 1) else (⟨decide (128 ≤ rd b 0), rd b 0 % 16, (b.drop t).take n⟩, ((t + n : Nat) : Int), 0)
/-- The frame with which bytes begin, how many bytes it has, why there is none. -/
def rdF (b : List Int) (mask : Bool) : Frm × Int × Int :=
  if b.length = 0 then (zeroF, 0, 1)
  else if badF (rd b 0) then (zeroF, 0, 1002)
  else if b.length = 1 then (zeroF, 0, 1)
  else if badS (rd b 0) (rd b 1) mask then (zeroF, 0, 1002)
  else if (lenR b).2.2 ≠ 0 then (zeroF, 0, (lenR b).2.2)
  else bodyR b mask (lenR b).1.toNat (lenR b).2.1.toNat
/-- Why a frame can't be written. -/
def wrE (f : Frm) (m : Nat) : Int :=
  if m ≠ 0 ∧ m ≠ 4 then 1 else if (!knownB f.op || (decide (8 ≤ f.op) && (!f.fin || decide (125 < f.load.length)))) = true then 90 else if 16384 < f.load.length then 4 else 0
def topF (fin : Bool) (op : Int) : Int := if fin then op + 128 else op
def sizeF (m n : Nat) : Int := (if n ≤ 125 then (n : Int) else 126) + (if m = 4 then 128 else 0)
def moreF (n : Nat) : List Int := if n ≤ 125 then [] else [(n : Int) / 256, (n : Int) % 256]
/-- A frame's bytes. -/
def wrL (f : Frm) (m : List Int) : List Int :=
  [topF f.fin f.op, sizeF m.length f.load.length] ++ moreF f.load.length ++ m ++ (if m.length = 4 then maskL m f.load else f.load)
/-! ### The mask -/
theorem maskL_length (m l : List Int) : (maskL m l).length = l.length := by simp [maskL]
theorem maskL_at (m l : List Int) (i : Nat) (h : i < l.length) : rd (maskL m l) (i : Nat) = bits .xor .u8 (rd l (i : Nat)) (rd m ((i % 4 : Nat) : Int)) := by
  rw [rd_get _ i (by rw [maskL_length]; exact h)]
  simp [maskL]
theorem xor_u8r (a b : Int) : 0 ≤ bits .xor .u8 a b ∧ bits .xor .u8 a b < 256 := by
  have := bits_within .xor .u8 a b
  have e1 : IntKind.u8.min = 0 := rfl
  have e2 : IntKind.u8.max = 255 := rfl
  omega
theorem maskL_Bytes (m l : List Int) : Bytes (maskL m l) := by
  intro x hx
  unfold maskL at hx
  obtain ⟨i, _, rfl⟩ := List.mem_map.1 hx
  exact xor_u8r _ _
theorem xor_zero8 (a : Int) (ha : 0 ≤ a ∧ a < 256) : bits .xor .u8 a 0 = a := by
  obtain ⟨x, rfl⟩ := Int.eq_ofNat_of_zero_le ha.1
  have := xor_u8 x 0 (by omega) (by omega)
  rw [Nat.xor_zero] at this
  exact this
theorem rd_ext {l k : List Int} (h : l.length = k.length) (he : ∀ i : Nat, i < l.length → rd l (i : Nat) = rd k (i : Nat)) : l = k := by
  apply List.ext_getElem h
  intro i h1 h2
  have := he i h1
  rwa [rd_get l i h1, rd_get k i h2] at this
theorem maskL_zero (l : List Int) (hl : Bytes l) : maskL [0, 0, 0, 0] l = l := by
  apply rd_ext (maskL_length _ _)
  intro i hi
  rw [maskL_length] at hi
  rw [maskL_at _ _ i hi]
  have h4 : rd [0, 0, 0, 0] ((i % 4 : Nat) : Int) = 0 := by
    have : i % 4 < 4 := Nat.mod_lt _ (by decide)
    have h : i % 4 = 0 ∨ i % 4 = 1 ∨ i % 4 = 2 ∨ i % 4 = 3 := by omega
    rcases h with h | h | h | h <;> rw [h] <;> rfl
  rw [h4]
  exact xor_zero8 _ (bytes_rd hl i hi)
/-- The first k bytes turned. -/
def maskUp (m l : List Int) (k : Nat) : List Int := (maskL m l).take k ++ l.drop k
theorem maskUp_zero (m l : List Int) : maskUp m l 0 = l := by simp [maskUp]
theorem maskUp_all (m l : List Int) : maskUp m l l.length = maskL m l := by unfold maskUp; rw [List.take_of_length_le (by rw [maskL_length]; exact Nat.le_refl _), List.drop_length, List.append_nil]
theorem maskUp_length (m l : List Int) (k : Nat) : (maskUp m l k).length = l.length := by unfold maskUp; rw [List.length_append, List.length_take, List.length_drop, maskL_length]; omega
theorem maskUp_at (m l : List Int) (k : Nat) (hk : k < l.length) : rd (maskUp m l k) (k : Nat) = rd l (k : Nat) := by
  have h1 : ((maskL m l).take k).length = k := by rw [List.length_take, maskL_length]; omega
  unfold rd maskUp
  simp only [Int.toNat_natCast, List.getD_eq_getElem?_getD]
  rw [List.getElem?_append_right (by omega), h1, Nat.sub_self, List.getElem?_drop, Nat.add_zero]
theorem maskUp_set (m l : List Int) (k : Nat) (hk : k < l.length) : (maskUp m l k).set k (bits .xor .u8 (rd l (k : Nat)) (rd m ((k % 4 : Nat) : Int))) = maskUp m l (k + 1) := by
  have h1 : ((maskL m l).take k).length = k := by rw [List.length_take, maskL_length]; omega
  have h2 : k < (maskL m l).length := by rw [maskL_length]; exact hk
  rw [← maskL_at m l k hk, rd_get _ k h2]
  unfold maskUp
  rw [List.set_append_right _ _ (by omega), h1, Nat.sub_self, List.drop_eq_getElem_cons hk, List.set_cons_zero, List.take_succ_eq_append_getElem h2, List.append_assoc]
  rfl
/-! ### A byte's bits -/
theorem byte_bits (c : Int) (h : 0 ≤ c ∧ c < 256) : bits .and .u8 c 15 = c % 16 ∧ bits .and .u8 c 127 = c % 128 ∧ (bits .and .u8 c 112 == 0) = decide (c / 16 % 8 = 0) ∧ (bits .and .u8 c 128 == 0) = decide (c < 128) := by
  obtain ⟨x, rfl⟩ := Int.eq_ofNat_of_zero_le h.1
  have hx : x < 256 := by omega
  have key : ∀ y : Fin 256, ((y.val &&& 15 : Nat) = y.val % 16 ∧ (y.val &&& 127 : Nat) = y.val % 128) ∧ ((y.val &&& 112 = 0) ↔ y.val / 16 % 8 = 0) ∧ ((y.val &&& 128 = 0) ↔ y.val < 128) := by decide +kernel
  obtain ⟨⟨k1, k2⟩, k3, k4⟩ := key ⟨x, hx⟩
  simp only at k1 k2 k3 k4
  have e1 := and_u8 x 15 hx (by decide)
  have e2 := and_u8 x 127 hx (by decide)
  have e3 := and_u8 x 112 hx (by decide)
  have e4 := and_u8 x 128 hx (by decide)
  refine ⟨?_, ?_, ?_, ?_⟩
  · rw [show ((15 : Nat) : Int) = 15 from rfl] at e1; rw [e1, k1]; omega
  · rw [show ((127 : Nat) : Int) = 127 from rfl] at e2; rw [e2, k2]; omega
  · rw [show ((112 : Nat) : Int) = 112 from rfl] at e3
    rw [e3, Bool.eq_iff_iff]
    simp only [beq_iff_eq, decide_eq_true_eq]
    constructor
    · intro h; have := k3.1 (by omega); omega
    · intro h; have := k3.2 (by omega); omega
  · rw [show ((128 : Nat) : Int) = 128 from rfl] at e4
    rw [e4, Bool.eq_iff_iff]
    simp only [beq_iff_eq, decide_eq_true_eq]
    constructor
    · intro h; have := k4.1 (by omega); omega
    · intro h; have := k4.2 (by omega); omega
theorem or_128 (c : Int) (h : 0 ≤ c ∧ c < 128) : bits .or .u8 c 128 = c + 128 ∧ bits .or .u8 128 c = c + 128 ∧ bits .or .u8 0 c = c := by
  obtain ⟨x, rfl⟩ := Int.eq_ofNat_of_zero_le h.1
  have hx : x < 128 := by omega
  have key : ∀ y : Fin 128, (y.val ||| 128 : Nat) = y.val + 128 ∧ (128 ||| y.val : Nat) = y.val + 128 ∧ (0 ||| y.val : Nat) = y.val := by decide +kernel
  obtain ⟨k1, k2, k3⟩ := key ⟨x, hx⟩
  simp only at k1 k2 k3
  have e1 := or_u8 x 128 (by omega) (by decide)
  have e2 := or_u8 128 x (by decide) (by omega)
  have e3 := or_u8 0 x (by decide) (by omega)
  rw [k1] at e1
  rw [k2] at e2
  rw [k3] at e3
  exact ⟨e1.trans (by omega), e2.trans (by omega), e3⟩
/-! ### Numbers of bytes -/
theorem numL_snoc (l : List Int) (c : Int) : numL (l ++ [c]) = 256 * numL l + c := by simp [numL]
theorem numL_take (l : List Int) (k : Nat) (h : k < l.length) : numL (l.take (k + 1)) = 256 * numL (l.take k) + rd l (k : Nat) := by
  rw [List.take_succ_eq_append_getElem h, numL_snoc, rd_get l k h]
theorem numL_range (l : List Int) (hl : Bytes l) : ∀ k, k ≤ l.length → 0 ≤ numL (l.take k) ∧ numL (l.take k) < ((256 ^ k : Nat) : Int)
  | 0, _ => by simp [numL]
  | k + 1, h => by
    obtain ⟨i0, i1⟩ := numL_range l hl k (by omega)
    obtain ⟨c0, c1⟩ := bytes_rd hl k (by omega)
    rw [numL_take l k (by omega)]
    have e : ((256 ^ (k + 1) : Nat) : Int) = 256 * ((256 ^ k : Nat) : Int) := by rw [Nat.pow_succ]; omega
    omega
/-- The highest byte. -/
theorem numL_high (l : List Int) (hl : Bytes l) : ∀ k, k < l.length → rd l 0 * ((256 ^ k : Nat) : Int) ≤ numL (l.take (k + 1)) ∧ numL (l.take (k + 1)) < (rd l 0 + 1) * ((256 ^ k : Nat) : Int)
  | 0, h => by
    rw [numL_take l 0 h]
    simp [numL]
    omega
  | k + 1, h => by
    obtain ⟨i0, i1⟩ := numL_high l hl k (by omega)
    obtain ⟨c0, c1⟩ := bytes_rd hl (k + 1) h
    rw [numL_take l (k + 1) h]
    have e : ((256 ^ (k + 1) : Nat) : Int) = 256 * ((256 ^ k : Nat) : Int) := by rw [Nat.pow_succ]; omega
    rw [e]
    generalize ((256 ^ k : Nat) : Int) = p at i0 i1 ⊢
    have e1 : rd l 0 * (256 * p) = 256 * (rd l 0 * p) := by rw [Int.mul_left_comm]
    have e2 : (rd l 0 + 1) * (256 * p) = 256 * ((rd l 0 + 1) * p) := by rw [Int.mul_left_comm]
    rw [e1, e2]
    generalize rd l 0 * p = a at i0 ⊢
    generalize (rd l 0 + 1) * p = z at i1 ⊢
    omega
/-! ### What is written is read -/
theorem known_cases {op : Int} (h : knownB op = true) : op = 0 ∨ op = 1 ∨ op = 2 ∨ op = 8 ∨ op = 9 ∨ op = 10 := by
  have := of_decide_eq_true h
  omega
theorem wrE_ok {f : Frm} {m : Nat} (h : wrE f m = 0) : (m = 0 ∨ m = 4) ∧ knownB f.op = true ∧ (8 ≤ f.op → f.fin = true ∧ f.load.length ≤ 125) ∧ f.load.length ≤ 16384 := by
  unfold wrE at h
  split at h
  · cases h
  rename_i h1
  split at h
  · cases h
  rename_i h2
  split at h
  · cases h
  rename_i h3
  simp only [Bool.or_eq_true, Bool.and_eq_true, Bool.not_eq_true', decide_eq_true_eq, not_or, not_and, Bool.not_eq_false] at h2
  refine ⟨by omega, h2.1, fun h8 => ?_, by omega⟩
  have h4 := h2.2 h8
  exact ⟨h4.1, by omega⟩
end Go.Proofs.YtcfbfmgckaehdaaDoor
namespace Go.Proofs.YtcfbfmgckaehdaaDoor
open Go.RowKit Go.Proofs.YtcfbfmgckaehdaaDoorW.PrintWords
/-- One bit's step, as the walk spells it. -/
def sumBit (c : Int) : Int := bits BinOp.xor IntKind.u32 (c / 2) (bits BinOp.and IntKind.u32 2197175160 (-(bits BinOp.and IntKind.u32 c 1) % 4294967296))
def sumByte (c x : Int) : Int := iter sumBit 8 (bits BinOp.xor IntKind.u32 c (x % 4294967296))
def sumBytes (l : List Int) : Int := l.foldl sumByte 4294967295
def wireSum (l : List Int) : Int := bits .xor .u32 4294967295 (sumBytes l)
def wire_Sum.f (l : List Int) : Option Int := some (wireSum l)
end Go.Proofs.YtcfbfmgckaehdaaDoor
namespace Go.Proofs.YtcfbfmgckaehdaaDoor
open Go.RowKit Go.Proofs.YtcfbfmgckaehdaaDoorW.PrintWords
set_option maxHeartbeats 800000 in
theorem Equal_calls {n m : Nat} (A0 : Option Addr) (c0 : Nat) (l0 : List Int) (A1 : Option Addr) (c1 : Nat) (l1 : List Int) (w : World) (hr0 : Kd.C (Kd.int .u8) w A0 n l0) (hr1 : Kd.C (Kd.int .u8) w A1 m l1) (hb0 : Bytes l0) (hb1 : Bytes l1) :
    Calls Tryd.prog 18 #[.slice A0 n c0, .slice A1 m c1] w fun e w' => e = .returned (.bool (decide (l0 = l1))) ∧ Drawn0 w w' := by
  have k0 := Kd.C_string (P := Tryd.prog) (src := 22) (dst := 9) (e := 5) Tryd.underlying22 Tryd.underlying5 Tryd.underlying9 (c := c0) hr0
  have k1 := Kd.C_string (P := Tryd.prog) (src := 22) (dst := 9) (e := 5) Tryd.underlying22 Tryd.underlying5 Tryd.underlying9 (c := c1) hr1
  clear hr0 hr1
  go_enter Tryd.func18, Tryd.ntmps18
  go_wp2
  go_ret
  exact ⟨ret_bool (strOf_eql hb0 hb1), Drawn0.refl _⟩
theorem Equal_true {n m : Nat} (A0 : Option Addr) (c0 : Nat) (l0 : List Int) (A1 : Option Addr) (c1 : Nat) (l1 : List Int) (w : World) (hr0 : Kd.C (Kd.int .u8) w A0 n l0) (hr1 : Kd.C (Kd.int .u8) w A1 m l1) (hb0 : Bytes l0) (he : l0 = l1) :
    Calls Tryd.prog 18 #[.slice A0 n c0, .slice A1 m c1] w fun e w' => e = .returned (.bool true) ∧ Drawn0 w w' := by
  subst he
  exact (Equal_calls A0 c0 l0 A1 c1 l0 w hr0 hr1 hb0 hb0).mono fun e w' ⟨h, k⟩ => ⟨by rw [h, decide_eq_true rfl], k⟩
end Go.Proofs.YtcfbfmgckaehdaaDoor
namespace Go.Proofs.YtcfbfmgckaehdaaDoor
open Go.RowKit Go.Proofs.YtcfbfmgckaehdaaDoorW.PrintWords
theorem Rd.take {w : World} {A : Option Addr} {n : Nat} {l : List Int} (h : Rd w A n l) (m : Nat) (hm : m ≤ n) : Rd w A m (l.take m) := by
  have hl := Kd.C_len h
  have := Kd.C_take (k := Kd.int .u8) (m := m) (hl ▸ h) (by omega)
  rwa [List.length_take, Nat.min_eq_left (by omega)] at this
end Go.Proofs.YtcfbfmgckaehdaaDoor
namespace Go.Proofs.YtcfbfmgckaehdaaDoor
open Go.RowKit Go.Proofs.YtcfbfmgckaehdaaDoorW.PrintWords
theorem Rd.lit {w : World} {ad : Addr} {n : Nat} {l : List Int} (h : ∀ j, j < n → w.cell? (ad.add j) = some (.int .u8 (rd l j))) (j : Nat) (hj : j + 1 < n) : w.cell? ⟨ad.block, ad.off + (j + 1), none⟩ = some (.int .u8 (rd l ((j + 1 : Nat) : Int))) := by
  have := h (j + 1) hj
  unfold Addr.add at this
  rwa [if_neg (by omega)] at this
theorem wrap_id {x : Int} (h0 : 0 ≤ x) (h1 : x < 9223372036854775808) : IntKind.i64.wrap x = x := by rw [IntKind.wrap_i64]; omega
end Go.Proofs.YtcfbfmgckaehdaaDoor
namespace Go.Proofs.YtcfbfmgckaehdaaDoor
open Go.RowKit Go.Proofs.YtcfbfmgckaehdaaDoorW.PrintWords
theorem known_calls (op : Int) (w : World) : Calls Tryd.prog 43 #[.int .i64 op] w fun e w' => e = .returned (.bool (knownB op)) ∧ w' = w := by
  by_cases hk : knownB op = true
  · rw [hk]
    rcases known_cases hk with rfl | rfl | rfl | rfl | rfl | rfl
    all_goals
      clear hk
      go_enter Tryd.func43, Tryd.ntmps43
      go_wp2
      go_ret
      exact ⟨rfl, rfl⟩
  · have hn : ¬ (0 ≤ op ∧ op ≤ 2 ∨ 8 ≤ op ∧ op ≤ 10) := fun h => hk (decide_eq_true h)
    have h0 : (op == 0) = false := by rw [beq_eq_false_iff_ne]; omega
    have h1 : (op == 1) = false := by rw [beq_eq_false_iff_ne]; omega
    have h2 : (op == 2) = false := by rw [beq_eq_false_iff_ne]; omega
    have h8 : (op == 8) = false := by rw [beq_eq_false_iff_ne]; omega
    have h9 : (op == 9) = false := by rw [beq_eq_false_iff_ne]; omega
    have h10 : (op == 10) = false := by rw [beq_eq_false_iff_ne]; omega
    rw [show knownB op = false from by simpa using hk]
    clear hk hn
    go_enter Tryd.func43, Tryd.ntmps43
    go_wp2
    go_ret
    exact ⟨rfl, rfl⟩
theorem control_calls (op : Int) (w : World) : Calls Tryd.prog 44 #[.int .i64 op] w fun e w' => e = .returned (.bool (decide (8 ≤ op))) ∧ w' = w := by
  go_enter Tryd.func44, Tryd.ntmps44
  go_wp2
  go_ret
  exact ⟨rfl, rfl⟩
def firstE (c : Int) : Int := if badF c then 1002 else 0
def secondE (c d : Int) (mask : Bool) : Int := if badS c d mask then 1002 else 0
theorem wsFirst_calls (c : Int) (w : World) (h : 0 ≤ c ∧ c < 256) : Calls Tryd.prog 38 #[.int .u8 c] w fun e w' => e = .returned (.int .i64 (firstE c)) ∧ w' = w := by
  obtain ⟨b15, _, b112, b128⟩ := byte_bits c h
  have w16 : IntKind.i64.wrap (c % 16) = c % 16 := wrap_id (by omega) (by omega)
  obtain ⟨o, ho⟩ : ∃ o, o = c % 16 := ⟨_, rfl⟩
  have he : firstE c = if (decide (c / 16 % 8 ≠ 0) || !knownB o || (decide (8 ≤ o) && decide (c < 128))) = true then 1002 else 0 := by rw [ho]; rfl
  rw [← ho] at b15 w16
  rw [he]
  have n112 : (bits .and .u8 c 112 != 0) = decide (c / 16 % 8 ≠ 0) := by unfold bne; rw [b112, decide_not]
  clear he ho b112 h
  obtain ⟨z, hz⟩ : ∃ z, z = decide (c / 16 % 8 ≠ 0) := ⟨_, rfl⟩
  rw [← hz] at n112 ⊢
  clear hz
  cases z
  · cases hk : knownB o
    · have HK := Lib.hid hk
      simp only [Bool.not_false, Bool.or_true, Bool.true_or, if_true]
      clear hk
      go_enter Tryd.func38, Tryd.ntmps38
      go_wp2_with fail
      refine (known_calls o _).mono ?_
      rintro e w' ⟨rfl, rfl⟩
      rw [HK.out]
      go_wp2
      go_ret
      exact ⟨rfl, rfl⟩
    · have HK := Lib.hid hk
      clear hk
      cases hd : decide (8 ≤ o) <;> cases hc : decide (c < 128) <;> rw [hc] at b128
      all_goals
        simp only [Bool.not_true, Bool.or_false, Bool.false_or, Bool.and_true, Bool.and_false, Bool.false_eq_true, if_true, if_false]
        go_enter Tryd.func38, Tryd.ntmps38
        go_wp2_with fail
        refine (known_calls o _).mono ?_
        rintro e w' ⟨rfl, rfl⟩
        rw [HK.out]
        go_wp2_with fail
        refine (control_calls o _).mono ?_
        rintro e w' ⟨rfl, rfl⟩
        go_wp2
        go_ret
        exact ⟨rfl, rfl⟩
  · simp only [Bool.true_or, if_true]
    go_enter Tryd.func38, Tryd.ntmps38
    go_wp2
    go_ret
    exact ⟨rfl, rfl⟩
theorem second_calls {n : Nat} (A0 : Option Addr) (c0 : Nat) (l : List Int) (mask : Bool) (w : World) (hr : Rd w A0 n l) (hb : Bytes l) (hn : 2 ≤ n) :
    Calls Tryd.prog 39 #[.slice A0 n c0, .bool mask] w fun e w' => e = .returned (.int .i64 (secondE (rd l 0) (rd l 1) mask)) ∧ w' = w := by
  have hlen := Kd.C_len hr
  have hmax := Kd.C_max hr
  obtain ⟨ad, rfl, hcell⟩ := Rd.cells hr (by omega)
  have x0 := hcell 0 (by omega)
  rw [Addr.add_zero'] at x0
  have x1 : w.cell? ⟨ad.block, ad.off + 1, none⟩ = some (.int .u8 (rd l 1)) := Rd.lit hcell 0 (by omega)
  have r0 : 0 ≤ rd l 0 ∧ rd l 0 < 256 := bytes_rd hb 0 (by omega)
  have r1 : 0 ≤ rd l 1 ∧ rd l 1 < 256 := bytes_rd hb 1 (by omega)
  simp only [Int.natCast_zero] at x0
  obtain ⟨c, hc⟩ : ∃ c, c = rd l 0 := ⟨_, rfl⟩
  obtain ⟨d, hd⟩ : ∃ d, d = rd l 1 := ⟨_, rfl⟩
  rw [← hc] at x0 r0 ⊢
  rw [← hd] at x1 r1 ⊢
  obtain ⟨b15, _, _, _⟩ := byte_bits c r0
  obtain ⟨_, b127, _, b128⟩ := byte_bits d r1
  have w16 : IntKind.i64.wrap (c % 16) = c % 16 := wrap_id (by omega) (by omega)
  have n0 : 0 < n := by omega
  have n1 : 1 < n := by omega
  have i0 : (0 : Int) < n := by omega
  have i1 : (1 : Int) < n := by omega
  clear hc hd r0 r1 hcell hr hb hlen hmax
  obtain ⟨o, ho⟩ : ∃ o, o = c % 16 := ⟨_, rfl⟩
  have hS : secondE c d mask = if ((!decide (d < 128)) != mask || (decide (8 ≤ o) && decide (125 < d % 128))) = true then 1002 else 0 := by
    unfold secondE badS
    rw [ho, show decide (128 ≤ d) = !decide (d < 128) by rw [← decide_not, decide_eq_decide]; omega]
  rw [hS]
  rw [← ho] at b15 w16
  have n128 : (bits .and .u8 d 128 != 0) = !decide (d < 128) := by unfold bne; rw [b128]
  clear ho hS b128
  cases h128 : decide (d < 128) <;> cases mask <;> rw [h128] at n128 <;> cases hd : decide (8 ≤ o) <;> cases h125 : decide (125 < d % 128)
  all_goals
    simp only [Bool.not_true, Bool.not_false] at n128
    simp only [Bool.not_true, Bool.not_false, bne_self_eq_false, show (true != false) = true from rfl, show (false != true) = true from rfl, Bool.true_or, Bool.false_or, Bool.and_true, Bool.and_false, Bool.and_self, Bool.false_eq_true, if_true, if_false]
    go_enter Tryd.func39, Tryd.ntmps39
    first
      | (go_wp2_with fail
         refine (control_calls o _).mono ?_
         rintro e w' ⟨rfl, rfl⟩
         go_wp2
         go_ret
         exact ⟨rfl, rfl⟩)
      | (go_wp2
         go_ret
         exact ⟨rfl, rfl⟩)
end Go.Proofs.YtcfbfmgckaehdaaDoor
namespace Go.Proofs.YtcfbfmgckaehdaaDoor
open Go.RowKit Go.Proofs.YtcfbfmgckaehdaaDoorW.PrintWords
theorem or_u64n (a b : Nat) (ha : a < 18446744073709551616) (hb : b < 18446744073709551616) : bits .or .u64 a b = ((a ||| b : Nat) : Int) := (bits_nat .u64 64 (by decide) (fun n h0 h1 => by rw [IntKind.wrap_u64]; omega) a b ha hb).2
theorem or_byte64 (x d : Int) (x0 : 0 ≤ x) (x1 : x < 72057594037927936) (d0 : 0 ≤ d) (d1 : d < 256) : bits .or .u64 (x * 256) d = 256 * x + d := by
  obtain ⟨m, rfl⟩ := Int.eq_ofNat_of_zero_le x0
  obtain ⟨k, rfl⟩ := Int.eq_ofNat_of_zero_le d0
  rw [show (m : Int) * 256 = ((m * 256 : Nat) : Int) by omega, or_u64n _ _ (by omega) (by omega), show m * 256 = m <<< 8 by rw [Nat.shiftLeft_eq], ← Nat.shiftLeft_add_eq_or_of_lt (by omega), Nat.shiftLeft_eq]
  omega
theorem pow256n (j : Nat) (h : j ≤ 7) : ((256 ^ j : Nat) : Int) ≤ 72057594037927936 := by
  have : j = 0 ∨ j = 1 ∨ j = 2 ∨ j = 3 ∨ j = 4 ∨ j = 5 ∨ j = 6 ∨ j = 7 := by omega
  rcases this with rfl | rfl | rfl | rfl | rfl | rfl | rfl | rfl <;> decide
/-- One of length's answers. -/
def Len3 (l : List Int) (n t why : Int) : Prop := lenR l = (n, t, why)
set_option maxHeartbeats 1600000 in
theorem length_2 {n : Nat} (A0 : Option Addr) (c0 : Nat) (l : List Int) (w : World) (hr : Rd w A0 n l) (hc0 : n ≤ c0) (hb : Bytes l) (hn : 2 ≤ n) (hq : rd l 1 % 128 = 126) :
    Calls Tryd.prog 40 #[.slice A0 n c0] w fun e w' => (∃ x y z, e = .returned (.tuple #[.int .i64 x, .int .i64 y, .int .i64 z]) ∧ Len3 l x y z) ∧ w' = w := by
  have hlen := Kd.C_len hr
  have hmax := Kd.C_max hr
  obtain ⟨ad, rfl, hcell⟩ := Rd.cells hr (by omega)
  have x1 : w.cell? ⟨ad.block, ad.off + 1, none⟩ = some (.int .u8 (rd l 1)) := Rd.lit hcell 0 (by omega)
  have r1 : 0 ≤ rd l 1 ∧ rd l 1 < 256 := bytes_rd hb 1 (by omega)
  obtain ⟨_, b127, _, _⟩ := byte_bits (rd l 1) r1
  rw [hq] at b127
  have hU : lenR l = if l.length < 4 then (0, 0, 1) else if numL ((l.drop 2).take 2) ≤ 125 then (0, 0, 1002) else if 16384 < numL ((l.drop 2).take 2) then (0, 0, 1009) else (numL ((l.drop 2).take 2), 4, 0) := by
    unfold lenR
    rw [hq]
    rfl
  obtain ⟨d, hd⟩ : ∃ d, d = rd l 1 := ⟨_, rfl⟩
  rw [← hd] at x1 b127
  have i1 : (1 : Int) < n := by omega
  have n1 : 1 < n := by omega
  by_cases hsh : n < 4
  · have dsh : decide ((n : Int) < 4) = true := decide_eq_true (by omega)
    have HU := Lib.hid (show lenR l = (0, 0, 1) by rw [hU, if_pos (by omega)])
    clear hU hd r1 hq hb hr hcell hlen hmax hsh hn
    go_enter Tryd.func40, Tryd.ntmps40
    go_wp2
    go_ret3
    exact ⟨⟨_, _, _, rfl, HU.out⟩, rfl⟩
  · have dsh : decide ((n : Int) < 4) = false := decide_eq_false (by omega)
    obtain ⟨t, ht⟩ : ∃ t, t = (l.drop 2).take 2 := ⟨_, rfl⟩
    have htl : t.length = 2 := by rw [ht, List.length_take, List.length_drop]; omega
    have htb : Bytes t := by rw [ht]; exact (hb.dp 2).tk 2
    have ht0 : rd t 0 = rd l 2 := by rw [ht]; unfold rd; rw [show (0 : Int).toNat = 0 from rfl, show (2 : Int).toNat = 2 from rfl, List.getD_eq_getElem?_getD, List.getD_eq_getElem?_getD, List.getElem?_take, if_pos (by decide), List.getElem?_drop]
    have hrow : Rd w (some ⟨ad.block, ad.off + 2, none⟩) 2 t := by
      have hq := Rd.mid (x := ⟨ad.block, ad.off + 2, none⟩) hr 2 4 (by omega) (by omega) (fun _ => by show _ = (if 2 = 0 then _ else _); rw [if_neg (by omega)])
      rwa [List.drop_take, ← ht] at hq
    obtain ⟨bd, hbd⟩ : ∃ bd : Addr, bd = ⟨ad.block, ad.off + 2, none⟩ := ⟨_, rfl⟩
    rw [← hbd] at hrow
    rw [if_neg (by omega), ← ht] at hU
    have HU := Lib.hid (And.intro hU (And.intro htb (And.intro htl ht0)))
    have HROW := Lib.hid hrow
    have HBD := Lib.hid hbd
    have g1 : (2 : Int) ≤ c0 := by omega
    have g2 : (4 : Int) ≤ c0 := by omega
    have g3 : 2 ≤ c0 := by omega
    have g4 : 4 ≤ c0 := by omega
    have g5 : ¬ c0 = 2 := by omega
    clear hU hd r1 hq hb hr hcell hlen hsh hn ht htl htb ht0 hrow hbd
    go_enter Tryd.func40, Tryd.ntmps40
    go_wp2_with fail
    rw [← HBD.out]
    clear x1 b127 g1 g2 g3 g4 g5
    go_loopw [8, 31] (fun v i wr => ∃ (j : Nat) (y : Int), j ≤ 2 ∧ i = .int .i64 j ∧ v = .int .u64 y ∧ Hid (y = numL (t.take j)) ∧ w = wr) (fun _ i _ => 2 - (intOf i).toNat)
    case atStart => exact ⟨0, 0, by omega, rfl, rfl, Lib.hid rfl, rfl⟩
    case round =>
      obtain ⟨j, y, hj, rfl, rfl, HY, rfl⟩ := hrel
      by_cases hjm : j < 2
      · have djm : decide (j < 2) = true := decide_eq_true hjm
        have djm' : decide ((j : Int) < 2) = true := decide_eq_true (by omega)
        have ijm : (j : Int) < 2 := by omega
        obtain ⟨ad', e, hxs⟩ := Rd.cells HROW.out (by decide)
        cases e
        have hx := hxs j hjm
        clear hxs
        have hjt : j < t.length := by rw [HU.out.2.2.1]; exact hjm
        obtain ⟨d0, d1⟩ := bytes_rd HU.out.2.1 j hjt
        have hstep := numL_take t j hjt
        rw [← HY.out] at hstep
        have hyr := numL_range t HU.out.2.1 j (by omega)
        rw [← HY.out] at hyr
        have hp := pow256n j (by omega)
        obtain ⟨y0, y1'⟩ := hyr
        have y1 : y < 72057594037927936 := Int.lt_of_lt_of_le y1' hp
        obtain ⟨x, hxe⟩ : ∃ x, x = rd t j := ⟨_, rfl⟩
        rw [← hxe] at hx d0 d1 hstep
        have HST := Lib.hid hstep
        have hor := or_byte64 y x y0 y1 d0 d1
        have hwx : IntKind.u64.wrap x = x := by rw [IntKind.wrap_u64]; omega
        have hwy : IntKind.u64.wrap (y * 256) = y * 256 := by rw [IntKind.wrap_u64]; omega
        have wj : IntKind.i64.wrap ((j : Int) + 1) = j + 1 := wrap_id (by omega) (by omega)
        clear hstep hxe hp y1' hjt
        go_wp2
        go_roundw
        case rel => exact ⟨j + 1, 256 * y + x, by omega, by go_num, by first | rfl | (rw [hor]), Lib.hid HST.out.symm, by first | rfl | trivial⟩
        case measure => simp [intOf]; omega
      · obtain rfl : j = 2 := by omega
        have hy : y = numL t := by rw [HY.out, List.take_of_length_le (by rw [HU.out.2.2.1]; exact Nat.le_refl _)]
        have hyr := numL_range t HU.out.2.1 2 (by rw [HU.out.2.2.1]; exact Nat.le_refl _)
        rw [← HY.out, show ((256 ^ 2 : Nat) : Int) = 65536 from rfl] at hyr
        have hU := HU.out.1
        rw [← hy] at hU
        clear hy
        have d3 : (y / 9223372036854775808 != 0) = false := by rw [show y / 9223372036854775808 = 0 by omega]; rfl
        by_cases h1 : y ≤ 125
        · have e1 : decide (y ≤ 125) = true := decide_eq_true h1
          have HV := Lib.hid (show lenR l = (0, 0, 1002) by rw [hU, if_pos h1])
          clear hU h1
          go_wp2
          go_ret3
          exact ⟨⟨_, _, _, rfl, HV.out⟩, rfl⟩
        · have e1 : decide (y ≤ 125) = false := decide_eq_false h1
          by_cases h2 : 16384 < y
          · have e2 : decide (16384 < y) = true := decide_eq_true h2
            have HV := Lib.hid (show lenR l = (0, 0, 1009) by rw [hU, if_neg h1, if_pos h2])
            clear hU h1 h2
            go_wp2
            go_ret3
            exact ⟨⟨_, _, _, rfl, HV.out⟩, rfl⟩
          · have e2 : decide (16384 < y) = false := decide_eq_false h2
            have HV := Lib.hid (show lenR l = (y, 4, 0) by rw [hU, if_neg h1, if_neg h2])
            have wy : IntKind.i64.wrap y = y := wrap_id (by omega) (by omega)
            clear hU h1 h2
            go_wp2
            go_ret3
            exact ⟨⟨_, _, _, rfl, HV.out⟩, rfl⟩
set_option maxHeartbeats 1600000 in
theorem length_8 {n : Nat} (A0 : Option Addr) (c0 : Nat) (l : List Int) (w : World) (hr : Rd w A0 n l) (hc0 : n ≤ c0) (hb : Bytes l) (hn : 2 ≤ n) (hq : rd l 1 % 128 = 127) :
    Calls Tryd.prog 40 #[.slice A0 n c0] w fun e w' => (∃ x y z, e = .returned (.tuple #[.int .i64 x, .int .i64 y, .int .i64 z]) ∧ Len3 l x y z) ∧ w' = w := by
  have hlen := Kd.C_len hr
  have hmax := Kd.C_max hr
  obtain ⟨ad, rfl, hcell⟩ := Rd.cells hr (by omega)
  have x1 : w.cell? ⟨ad.block, ad.off + 1, none⟩ = some (.int .u8 (rd l 1)) := Rd.lit hcell 0 (by omega)
  have r1 : 0 ≤ rd l 1 ∧ rd l 1 < 256 := bytes_rd hb 1 (by omega)
  obtain ⟨_, b127, _, _⟩ := byte_bits (rd l 1) r1
  rw [hq] at b127
  have hU : lenR l = if l.length < 10 then (0, 0, 1) else if 128 ≤ rd l 2 ∨ numL ((l.drop 2).take 8) ≤ 65535 then (0, 0, 1002) else (0, 0, 1009) := by
    unfold lenR
    rw [hq]
    rfl
  obtain ⟨d, hd⟩ : ∃ d, d = rd l 1 := ⟨_, rfl⟩
  rw [← hd] at x1 b127
  have i1 : (1 : Int) < n := by omega
  have n1 : 1 < n := by omega
  by_cases hsh : n < 10
  · have dsh : decide ((n : Int) < 10) = true := decide_eq_true (by omega)
    have HU := Lib.hid (show lenR l = (0, 0, 1) by rw [hU, if_pos (by omega)])
    clear hU hd r1 hq hb hr hcell hlen hmax hsh hn
    go_enter Tryd.func40, Tryd.ntmps40
    go_wp2
    go_ret3
    exact ⟨⟨_, _, _, rfl, HU.out⟩, rfl⟩
  · have dsh : decide ((n : Int) < 10) = false := decide_eq_false (by omega)
    obtain ⟨t, ht⟩ : ∃ t, t = (l.drop 2).take 8 := ⟨_, rfl⟩
    have htl : t.length = 8 := by rw [ht, List.length_take, List.length_drop]; omega
    have htb : Bytes t := by rw [ht]; exact (hb.dp 2).tk 8
    have ht0 : rd t 0 = rd l 2 := by rw [ht]; unfold rd; rw [show (0 : Int).toNat = 0 from rfl, show (2 : Int).toNat = 2 from rfl, List.getD_eq_getElem?_getD, List.getD_eq_getElem?_getD, List.getElem?_take, if_pos (by decide), List.getElem?_drop]
    have hrow : Rd w (some ⟨ad.block, ad.off + 2, none⟩) 8 t := by
      have hq := Rd.mid (x := ⟨ad.block, ad.off + 2, none⟩) hr 2 10 (by omega) (by omega) (fun _ => by show _ = (if 2 = 0 then _ else _); rw [if_neg (by omega)])
      rwa [List.drop_take, ← ht] at hq
    obtain ⟨bd, hbd⟩ : ∃ bd : Addr, bd = ⟨ad.block, ad.off + 2, none⟩ := ⟨_, rfl⟩
    rw [← hbd] at hrow
    rw [if_neg (by omega), ← ht] at hU
    have HU := Lib.hid (And.intro hU (And.intro htb (And.intro htl ht0)))
    have HROW := Lib.hid hrow
    have HBD := Lib.hid hbd
    have g1 : (2 : Int) ≤ c0 := by omega
    have g2 : (10 : Int) ≤ c0 := by omega
    have g3 : 2 ≤ c0 := by omega
    have g4 : 10 ≤ c0 := by omega
    have g5 : ¬ c0 = 2 := by omega
    clear hU hd r1 hq hb hr hcell hlen hsh hn ht htl htb ht0 hrow hbd
    go_enter Tryd.func40, Tryd.ntmps40
    go_wp2_with fail
    rw [← HBD.out]
    clear x1 b127 g1 g2 g3 g4 g5
    go_loopw [8, 31] (fun v i wr => ∃ (j : Nat) (y : Int), j ≤ 8 ∧ i = .int .i64 j ∧ v = .int .u64 y ∧ Hid (y = numL (t.take j)) ∧ w = wr) (fun _ i _ => 8 - (intOf i).toNat)
    case atStart => exact ⟨0, 0, by omega, rfl, rfl, Lib.hid rfl, rfl⟩
    case round =>
      obtain ⟨j, y, hj, rfl, rfl, HY, rfl⟩ := hrel
      by_cases hjm : j < 8
      · have djm : decide (j < 8) = true := decide_eq_true hjm
        have djm' : decide ((j : Int) < 8) = true := decide_eq_true (by omega)
        have ijm : (j : Int) < 8 := by omega
        obtain ⟨ad', e, hxs⟩ := Rd.cells HROW.out (by decide)
        cases e
        have hx := hxs j hjm
        clear hxs
        have hjt : j < t.length := by rw [HU.out.2.2.1]; exact hjm
        obtain ⟨d0, d1⟩ := bytes_rd HU.out.2.1 j hjt
        have hstep := numL_take t j hjt
        rw [← HY.out] at hstep
        have hyr := numL_range t HU.out.2.1 j (by omega)
        rw [← HY.out] at hyr
        have hp := pow256n j (by omega)
        obtain ⟨y0, y1'⟩ := hyr
        have y1 : y < 72057594037927936 := Int.lt_of_lt_of_le y1' hp
        obtain ⟨x, hxe⟩ : ∃ x, x = rd t j := ⟨_, rfl⟩
        rw [← hxe] at hx d0 d1 hstep
        have HST := Lib.hid hstep
        have hor := or_byte64 y x y0 y1 d0 d1
        have hwx : IntKind.u64.wrap x = x := by rw [IntKind.wrap_u64]; omega
        have hwy : IntKind.u64.wrap (y * 256) = y * 256 := by rw [IntKind.wrap_u64]; omega
        have wj : IntKind.i64.wrap ((j : Int) + 1) = j + 1 := wrap_id (by omega) (by omega)
        clear hstep hxe hp y1' hjt
        go_wp2
        go_roundw
        case rel => exact ⟨j + 1, 256 * y + x, by omega, by go_num, by first | rfl | (rw [hor]), Lib.hid HST.out.symm, by first | rfl | trivial⟩
        case measure => simp [intOf]; omega
      · obtain rfl : j = 8 := by omega
        have hy : y = numL t := by rw [HY.out, List.take_of_length_le (by rw [HU.out.2.2.1]; exact Nat.le_refl _)]
        have hyr := numL_range t HU.out.2.1 8 (by rw [HU.out.2.2.1]; exact Nat.le_refl _)
        rw [← HY.out, show ((256 ^ 8 : Nat) : Int) = 18446744073709551616 from rfl] at hyr
        have hU := HU.out.1
        rw [← hy] at hU
        clear hy
        have hh := numL_high t HU.out.2.1 7 (by rw [HU.out.2.2.1]; decide)
        rw [← HY.out, HU.out.2.2.2, show ((256 ^ 7 : Nat) : Int) = 72057594037927936 from rfl] at hh
        by_cases h0 : 128 ≤ rd l 2
        · have d3 : (y / 9223372036854775808 != 0) = true := by unfold bne; rw [beq_eq_false_iff_ne.2 (show y / 9223372036854775808 ≠ 0 by omega)]; rfl
          have HV := Lib.hid (show lenR l = (0, 0, 1002) by rw [hU, if_pos (.inl h0)])
          clear hU h0 hh
          go_wp2
          go_ret3
          exact ⟨⟨_, _, _, rfl, HV.out⟩, rfl⟩
        · have d3 : (y / 9223372036854775808 != 0) = false := by rw [show y / 9223372036854775808 = 0 by omega]; rfl
          by_cases h1 : y ≤ 65535
          · have e1 : decide (y ≤ 65535) = true := decide_eq_true h1
            have HV := Lib.hid (show lenR l = (0, 0, 1002) by rw [hU, if_pos (.inr h1)])
            clear hU h0 h1 hh
            go_wp2
            go_ret3
            exact ⟨⟨_, _, _, rfl, HV.out⟩, rfl⟩
          · have e1 : decide (y ≤ 65535) = false := decide_eq_false h1
            have e2 : decide (16384 < y) = true := decide_eq_true (by omega)
            have HV := Lib.hid (show lenR l = (0, 0, 1009) by rw [hU, if_neg (by omega)])
            clear hU h0 h1 hh
            go_wp2
            go_ret3
            exact ⟨⟨_, _, _, rfl, HV.out⟩, rfl⟩
theorem length_small {n : Nat} (A0 : Option Addr) (c0 : Nat) (l : List Int) (w : World) (hr : Rd w A0 n l) (hb : Bytes l) (hn : 2 ≤ n) (hq : rd l 1 % 128 ≤ 125) :
    Calls Tryd.prog 40 #[.slice A0 n c0] w fun e w' => (∃ x y z, e = .returned (.tuple #[.int .i64 x, .int .i64 y, .int .i64 z]) ∧ Len3 l x y z) ∧ w' = w := by
  have hlen := Kd.C_len hr
  obtain ⟨ad, rfl, hcell⟩ := Rd.cells hr (by omega)
  have x1 : w.cell? ⟨ad.block, ad.off + 1, none⟩ = some (.int .u8 (rd l 1)) := Rd.lit hcell 0 (by omega)
  have r1 : 0 ≤ rd l 1 ∧ rd l 1 < 256 := bytes_rd hb 1 (by omega)
  obtain ⟨_, b127, _, _⟩ := byte_bits (rd l 1) r1
  have HU := Lib.hid (show lenR l = (rd l 1 % 128, 2, 0) by unfold lenR; rw [if_pos hq])
  obtain ⟨q, hqe⟩ : ∃ q, q = rd l 1 % 128 := ⟨_, rfl⟩
  obtain ⟨d, hd⟩ : ∃ d, d = rd l 1 := ⟨_, rfl⟩
  have wq : IntKind.i64.wrap q = q := wrap_id (by omega) (by omega)
  rw [← hqe] at b127 HU hq
  rw [← hd] at x1 b127
  have i1 : (1 : Int) < n := by omega
  have n1 : 1 < n := by omega
  have dq : decide (q ≤ 125) = true := decide_eq_true hq
  clear hd hqe hcell hr hb hlen r1 hq hn
  go_enter Tryd.func40, Tryd.ntmps40
  go_wp2
  go_ret3
  exact ⟨⟨_, _, _, rfl, HU.out⟩, rfl⟩
theorem length_calls {n : Nat} (A0 : Option Addr) (c0 : Nat) (l : List Int) (w : World) (hr : Rd w A0 n l) (hc0 : n ≤ c0) (hb : Bytes l) (hn : 2 ≤ n) :
    Calls Tryd.prog 40 #[.slice A0 n c0] w fun e w' => (∃ x y z, e = .returned (.tuple #[.int .i64 x, .int .i64 y, .int .i64 z]) ∧ Len3 l x y z) ∧ w' = w := by
  by_cases h1 : rd l 1 % 128 ≤ 125
  · exact length_small A0 c0 l w hr hb hn h1
  · by_cases h2 : rd l 1 % 128 = 126
    · exact length_2 A0 c0 l w hr hc0 hb hn h2
    · exact length_8 A0 c0 l w hr hc0 hb hn (by omega)
/-- What length may answer. -/
theorem Len3.ok {l : List Int} {n t why : Int} (h : Len3 l n t why) (hb : Bytes l) (hn : 2 ≤ l.length) : (why ≠ 0 ∧ (why = 1 ∨ why = 1002 ∨ why = 1009)) ∨ (why = 0 ∧ ∃ N T : Nat, n = N ∧ t = T ∧ N ≤ 16384 ∧ (T = 2 ∨ T = 4) ∧ T ≤ l.length) := by
  unfold Len3 lenR at h
  have r1 := bytes_rd hb 1 (by omega)
  have e1 : rd l ((1 : Nat) : Int) = rd l 1 := rfl
  rw [e1] at r1
  split at h
  · simp only [Prod.mk.injEq] at h
    obtain ⟨rfl, rfl, rfl⟩ := h
    exact .inr ⟨rfl, (rd l 1 % 128).toNat, 2, by omega, rfl, by omega, .inl rfl, hn⟩
  split at h
  · split at h
    · simp only [Prod.mk.injEq] at h
      obtain ⟨rfl, rfl, rfl⟩ := h
      exact .inl ⟨by decide, .inl rfl⟩
    split at h
    · simp only [Prod.mk.injEq] at h
      obtain ⟨rfl, rfl, rfl⟩ := h
      exact .inl ⟨by decide, .inr (.inl rfl)⟩
    split at h
    · simp only [Prod.mk.injEq] at h
      obtain ⟨rfl, rfl, rfl⟩ := h
      exact .inl ⟨by decide, .inr (.inr rfl)⟩
    · simp only [Prod.mk.injEq] at h
      obtain ⟨rfl, rfl, rfl⟩ := h
      exact .inr ⟨rfl, (numL ((l.drop 2).take 2)).toNat, 4, by omega, rfl, by omega, .inr rfl, by omega⟩
  · split at h
    · simp only [Prod.mk.injEq] at h
      obtain ⟨rfl, rfl, rfl⟩ := h
      exact .inl ⟨by decide, .inl rfl⟩
    split at h
    · simp only [Prod.mk.injEq] at h
      obtain ⟨rfl, rfl, rfl⟩ := h
      exact .inl ⟨by decide, .inr (.inl rfl)⟩
    · simp only [Prod.mk.injEq] at h
      obtain ⟨rfl, rfl, rfl⟩ := h
      exact .inl ⟨by decide, .inr (.inr rfl)⟩
end Go.Proofs.YtcfbfmgckaehdaaDoor
