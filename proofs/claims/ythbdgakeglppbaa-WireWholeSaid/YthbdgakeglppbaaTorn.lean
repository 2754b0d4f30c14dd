/- The sum of a list of bytes is another one when one byte is another one. -/
import Derived.Test.YthbdgakeglppbaaFrames1
namespace Go.Proofs.Ythbdgakeglppbaa
open Go.RowKit Go.Proofs.YthbdgakeglppbaaW.PrintWords
theorem xor_cancel_l {m a b : Nat} (h : m ^^^ a = m ^^^ b) : a = b := by
  have := congrArg (fun z => m ^^^ z) h
  simpa [← Nat.xor_assoc] using this
theorem xor_cancel_r {m a b : Nat} (h : a ^^^ m = b ^^^ m) : a = b := by
  rw [Nat.xor_comm a, Nat.xor_comm b] at h
  exact xor_cancel_l h
theorem sumBit_inj (c d : Int) (h0 : 0 ≤ c) (h1 : c < 4294967296) (k0 : 0 ≤ d) (k1 : d < 4294967296) (h : sumBit c = sumBit d) : c = d := by
  obtain ⟨m, rfl⟩ := Int.eq_ofNat_of_zero_le h0
  obtain ⟨n, rfl⟩ := Int.eq_ofNat_of_zero_le k0
  rw [sumBit_nat m (by omega), sumBit_nat n (by omega)] at h
  have top : ∀ a b : Nat, a < 2147483648 → b < 2147483648 → a ^^^ 2197175160 ≠ b := by
    intro a b ha hb he
    have t := congrArg (fun z => Nat.testBit z 31) he
    simp only [Nat.testBit_xor] at t
    rw [Nat.testBit_lt_two_pow (x := a) (i := 31) (by omega), Nat.testBit_lt_two_pow (x := b) (i := 31) (by omega)] at t
    exact absurd t (by decide)
  by_cases hm : m % 2 = 1
  · by_cases hn : n % 2 = 1
    · rw [if_pos hm, if_pos hn] at h
      have h' : m / 2 ^^^ 2197175160 = n / 2 ^^^ 2197175160 := by exact_mod_cast h
      have := xor_cancel_r h'
      omega
    · rw [if_pos hm, if_neg hn] at h
      exact absurd (by exact_mod_cast h) (top (m / 2) (n / 2) (by omega) (by omega))
  · by_cases hn : n % 2 = 1
    · rw [if_neg hm, if_pos hn] at h
      exact absurd (by exact_mod_cast h.symm) (top (n / 2) (m / 2) (by omega) (by omega))
    · rw [if_neg hm, if_neg hn] at h
      have h' : m / 2 = n / 2 := by exact_mod_cast h
      omega
theorem iter_inj : ∀ (k : Nat) (c d : Int), 0 ≤ c → c < 4294967296 → 0 ≤ d → d < 4294967296 → iter sumBit k c = iter sumBit k d → c = d
  | 0, _, _, _, _, _, _, h => h
  | k + 1, c, d, h0, h1, k0, k1, h => by
    have rc := sumBit_range c h0 h1
    have rd' := sumBit_range d k0 k1
    exact sumBit_inj c d h0 h1 k0 k1 (iter_inj k _ _ rc.1 rc.2 rd'.1 rd'.2 h)
theorem xor32_range (c x : Int) : 0 ≤ bits .xor .u32 c x ∧ bits .xor .u32 c x < 4294967296 := by
  have := bits_within .xor .u32 c x
  have e1 : IntKind.u32.min = 0 := rfl
  have e2 : IntKind.u32.max = 4294967295 := rfl
  omega
theorem xor32_inj (c x y : Int) (h0 : 0 ≤ c) (h1 : c < 4294967296) (x0 : 0 ≤ x) (x1 : x < 4294967296) (y0 : 0 ≤ y) (y1 : y < 4294967296) (h : bits .xor .u32 c x = bits .xor .u32 c y) : x = y := by
  obtain ⟨m, rfl⟩ := Int.eq_ofNat_of_zero_le h0
  obtain ⟨a, rfl⟩ := Int.eq_ofNat_of_zero_le x0
  obtain ⟨b, rfl⟩ := Int.eq_ofNat_of_zero_le y0
  rw [xor_u32 _ _ (by omega) (by omega), xor_u32 _ _ (by omega) (by omega)] at h
  have h' : m ^^^ a = m ^^^ b := by exact_mod_cast h
  rw [xor_cancel_l h']
theorem xor32_comm (c x : Int) (h0 : 0 ≤ c) (h1 : c < 4294967296) (x0 : 0 ≤ x) (x1 : x < 4294967296) : bits .xor .u32 c x = bits .xor .u32 x c := by
  obtain ⟨m, rfl⟩ := Int.eq_ofNat_of_zero_le h0
  obtain ⟨a, rfl⟩ := Int.eq_ofNat_of_zero_le x0
  rw [xor_u32 _ _ (by omega) (by omega), xor_u32 _ _ (by omega) (by omega), Nat.xor_comm]
theorem sumByte_range (c x : Int) : 0 ≤ sumByte c x ∧ sumByte c x < 4294967296 := by
  have := xor32_range c (x % 4294967296)
  exact iter_range 8 _ this.1 this.2
theorem sumByte_inj (c d x : Int) (h0 : 0 ≤ c) (h1 : c < 4294967296) (k0 : 0 ≤ d) (k1 : d < 4294967296) (h : sumByte c x = sumByte d x) : c = d := by
  have r1 := xor32_range c (x % 4294967296)
  have r2 := xor32_range d (x % 4294967296)
  have := iter_inj 8 _ _ r1.1 r1.2 r2.1 r2.2 h
  rw [xor32_comm c _ h0 h1 (by omega) (by omega), xor32_comm d _ k0 k1 (by omega) (by omega)] at this
  exact xor32_inj _ _ _ (by omega) (by omega) h0 h1 k0 k1 this
theorem sumByte_inj2 (c x y : Int) (h0 : 0 ≤ c) (h1 : c < 4294967296) (x0 : 0 ≤ x) (x1 : x < 256) (y0 : 0 ≤ y) (y1 : y < 256) (h : sumByte c x = sumByte c y) : x = y := by
  have r1 := xor32_range c (x % 4294967296)
  have r2 := xor32_range c (y % 4294967296)
  have := iter_inj 8 _ _ r1.1 r1.2 r2.1 r2.2 h
  have := xor32_inj _ _ _ h0 h1 (by omega) (by omega) (by omega) (by omega) this
  omega
theorem fold_inj : ∀ (l : List Int) (c d : Int), 0 ≤ c → c < 4294967296 → 0 ≤ d → d < 4294967296 → l.foldl sumByte c = l.foldl sumByte d → c = d
  | [], _, _, _, _, _, _, h => h
  | x :: l, c, d, h0, h1, k0, k1, h => by
    have r1 := sumByte_range c x
    have r2 := sumByte_range d x
    exact sumByte_inj c d x h0 h1 k0 k1 (fold_inj l _ _ r1.1 r1.2 r2.1 r2.2 h)
/-- One byte turned: another sum. -/
theorem wireSum_set (l : List Int) (i : Nat) (y : Int) (hi : i < l.length) (hb : Bytes l) (y0 : 0 ≤ y) (y1 : y < 256) (hne : l[i] ≠ y) : wireSum (l.set i y) ≠ wireSum l := by
  intro h
  have hs := sumBytes_range (l.set i y)
  have hs' := sumBytes_range l
  have h1 := xor32_inj _ _ _ (by omega) (by omega) hs.1 hs.2 hs'.1 hs'.2 h
  have e1 : l.set i y = l.take i ++ y :: l.drop (i + 1) := List.set_eq_take_append_cons_drop .. |>.trans (if_pos hi)
  have e2 : l = l.take i ++ l[i] :: l.drop (i + 1) := by rw [← List.drop_eq_getElem_cons hi, List.take_append_drop]
  rw [e1] at h1
  conv at h1 => rhs; rw [e2]
  unfold sumBytes at h1
  rw [List.foldl_append, List.foldl_append, List.foldl_cons, List.foldl_cons] at h1
  have r0 := sumBytes_range (l.take i)
  unfold sumBytes at r0
  have ra := sumByte_range ((l.take i).foldl sumByte 4294967295) y
  have rb := sumByte_range ((l.take i).foldl sumByte 4294967295) l[i]
  have h2 := fold_inj _ _ _ ra.1 ra.2 rb.1 rb.2 h1
  have hl := hb l[i] (List.getElem_mem hi)
  exact hne (sumByte_inj2 _ _ _ r0.1 r0.2 y0 y1 hl.1 hl.2 h2).symm
theorem xor8_ne (a d : Int) (a0 : 0 ≤ a) (a1 : a < 256) (d0 : 0 < d) (d1 : d < 256) : (0 ≤ bits .xor .u8 a d ∧ bits .xor .u8 a d < 256) ∧ bits .xor .u8 a d ≠ a := by
  obtain ⟨m, rfl⟩ := Int.eq_ofNat_of_zero_le a0
  obtain ⟨n, rfl⟩ := Int.eq_ofNat_of_zero_le (Int.le_of_lt d0)
  rw [xor_u8 _ _ (by omega) (by omega)]
  have hlt := Nat.xor_lt_two_pow (x := m) (y := n) (n := 8) (by omega) (by omega)
  refine ⟨⟨by omega, by omega⟩, fun h => ?_⟩
  have h' : m ^^^ n = m := by exact_mod_cast h
  have : m ^^^ n = m ^^^ 0 := by rw [h', Nat.xor_zero]
  have := xor_cancel_l this
  omega
theorem frame_head (p : List Int) (h : p.length ≤ 65536) : unLen (frameOf p) = p.length := by
  have e : frameOf p = (p.length : Int) / 65536 % 256 :: (p.length : Int) / 256 % 256 :: (p.length : Int) % 256 :: (p ++ wordBytes (wireSum (frameHead p.length ++ p))) := rfl
  rw [e]
  show 65536 * ((p.length : Int) / 65536 % 256) + 256 * ((p.length : Int) / 256 % 256) + (p.length : Int) % 256 = p.length
  omega
theorem rd_take (l : List Int) (m j : Nat) (h : j < m) : rd (l.take m) j = rd l j := by
  unfold rd
  simp only [Int.toNat_natCast, List.getD_eq_getElem?_getD, List.getElem?_take]
  rw [if_pos h]
theorem unLen_take (l : List Int) (m : Nat) (h : 3 ≤ m) : unLen (l.take m) = unLen l := by
  have e0 : rd (l.take m) 0 = rd l 0 := rd_take l m 0 (by omega)
  have e1 : rd (l.take m) 1 = rd l 1 := rd_take l m 1 (by omega)
  have e2 : rd (l.take m) 2 = rd l 2 := rd_take l m 2 (by omega)
  unfold unLen
  rw [e0, e1, e2]
/-- A beginning of a frame is too short. -/
theorem unframe_take (p : List Int) (h : p.length ≤ 65536) (m : Nat) (hm : m < p.length + 7) : unframe ((frameOf p).take m) = ([], 0, 2) := by
  have hl := frame_length p
  have hlt : ((frameOf p).take m).length = m := by rw [List.length_take]; omega
  unfold unframe
  rw [hlt]
  by_cases h3 : m < 3
  · rw [if_pos h3]
  · rw [if_neg h3, unLen_take _ _ (by omega), frame_head p h, if_neg (by omega), if_pos (by omega)]
/-- A frame with one byte of its payload or its sum turned has another sum. -/
theorem unframe_torn (p : List Int) (hb : Bytes p) (h : p.length ≤ 65536) (i : Nat) (hi : i < p.length + 4) (y : Int) (y0 : 0 ≤ y) (y1 : y < 256) (hne : rd (frameOf p) ((3 + i : Nat) : Int) ≠ y) :
    unframe ((frameOf p).set (3 + i) y) = ([], 0, 11) := by
  have hl := frame_length p
  have hsl : ((frameOf p).set (3 + i) y).length = p.length + 7 := by rw [List.length_set, hl]
  have hrd : ∀ j : Nat, j < 3 → rd ((frameOf p).set (3 + i) y) j = rd (frameOf p) j := fun j hj => by
    unfold rd
    simp only [Int.toNat_natCast, List.getD_eq_getElem?_getD]
    rw [List.getElem?_set_ne (by omega)]
  have hu : unLen ((frameOf p).set (3 + i) y) = p.length := by
    have e0 := hrd 0 (by omega)
    have e1 := hrd 1 (by omega)
    have e2 := hrd 2 (by omega)
    have := frame_head p h
    unfold unLen at this ⊢
    rw [show rd ((frameOf p).set (3 + i) y) 0 = rd (frameOf p) 0 from e0, show rd ((frameOf p).set (3 + i) y) 1 = rd (frameOf p) 1 from e1, show rd ((frameOf p).set (3 + i) y) 2 = rd (frameOf p) 2 from e2]
    exact this
  have hbs : Bytes ((frameOf p).set (3 + i) y) := fun z hz => by
    rcases List.mem_or_eq_of_mem_set hz with h1 | h1
    · exact frame_Bytes p hb z h1
    · rw [h1]; exact ⟨y0, y1⟩
  have hiff := frame_iff ((frameOf p).set (3 + i) y) hbs (by omega) (by rw [hu]; omega)
  unfold unframe
  rw [hsl, hu, if_neg (by omega), if_neg (by omega), if_neg (by omega)]
  rw [hu] at hiff
  rw [if_neg]
  intro he
  have he := hiff.1 he
  simp only [Int.toNat_natCast] at he
  have hN : ((p.length : Int)).toNat + 3 = p.length + 3 := by omega
  have hA : (frameOf p).take (p.length + 3) = frameHead p.length ++ p := by
    unfold frameOf
    rw [List.take_left' (by rw [List.length_append, Nat.add_comm]; rfl)]
  have hB : ((frameOf p).drop (p.length + 3)).take 4 = wordBytes (wireSum (frameHead p.length ++ p)) := by
    have e : frameOf p = (frameHead p.length ++ p) ++ wordBytes (wireSum (frameHead p.length ++ p)) := rfl
    rw [e, List.drop_left' (by rw [List.length_append, Nat.add_comm]; rfl)]
    rfl
  have hw : ∀ a b : Int, 0 ≤ a → a ≤ 4294967295 → 0 ≤ b → b ≤ 4294967295 → wordBytes a = wordBytes b → a = b := by
    intro a b a0 a1 b0 b1 hab
    unfold wordBytes at hab
    simp only [List.cons.injEq, and_true] at hab
    omega
  by_cases hc : i < p.length
  · have e1 : ((frameOf p).set (3 + i) y).take (p.length + 3) = (frameHead p.length ++ p).set (3 + i) y := by rw [List.take_set, hA]
    have e2 : (((frameOf p).set (3 + i) y).drop (p.length + 3)).take 4 = wordBytes (wireSum (frameHead p.length ++ p)) := by
      rw [List.drop_set_of_lt (by omega), hB]
    rw [e1, e2] at he
    have r1 := wireSum_range ((frameHead p.length ++ p).set (3 + i) y)
    have r2 := wireSum_range (frameHead p.length ++ p)
    have hlh : 3 + i < (frameHead p.length ++ p).length := by rw [List.length_append]; show 3 + i < 3 + p.length; omega
    refine wireSum_set _ (3 + i) y hlh ?_ y0 y1 ?_ (hw _ _ r1.1 r1.2 r2.1 r2.2 he)
    · exact Bytes.app (Bytes.con (by omega) (by omega) (Bytes.con (by omega) (by omega) (Bytes.con (by omega) (by omega) Bytes.nil))) hb
    · intro h2
      apply hne
      have hq : 3 + i < (frameOf p).length := by omega
      refine (rd_get _ _ hq).trans ?_
      have : (frameOf p)[3 + i]? = (frameHead p.length ++ p)[3 + i]? := by
        rw [← hA, List.getElem?_take, if_pos (by omega)]
      rw [List.getElem?_eq_getElem hq, List.getElem?_eq_getElem hlh] at this
      exact (Option.some.inj this).trans h2
  · have e1 : ((frameOf p).set (3 + i) y).take (p.length + 3) = frameHead p.length ++ p := by
      rw [List.take_set_of_le (by omega), hA]
    have e2 : (((frameOf p).set (3 + i) y).drop (p.length + 3)).take 4 = ((frameOf p).drop (p.length + 3)).take 4 := by
      rw [e1] at he
      rw [← he, hB]
    have g := congrArg (fun l => l[3 + i - (p.length + 3)]?) e2
    simp only [List.getElem?_take] at g
    rw [if_pos (by omega), if_pos (by omega), List.getElem?_drop, List.getElem?_drop, show p.length + 3 + (3 + i - (p.length + 3)) = 3 + i by omega, List.getElem?_set_self (by omega), List.getElem?_eq_getElem (by omega)] at g
    apply hne
    rw [rd_get _ _ (by omega)]
    exact (Option.some.inj g).symm
end Go.Proofs.Ythbdgakeglppbaa
