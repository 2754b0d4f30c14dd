/- blotterref01: a number's form; a number and a text behind bytes. -/
import Derived.Test.YthbdgakeglppbaaText
namespace Go.Proofs.Ythbdgakeglppbaa
open Go.RowKit Go.Proofs.YthbdgakeglppbaaW.PrintWords Go.Proofs.YthbdgakeglppbaaW.PrintMore
theorem beBytes_succ (k : Nat) (x : Int) : beBytes (k + 1) x = beBytes k (x / 256) ++ [x % 256] := by
  unfold beBytes
  rw [List.range_succ, List.map_append]
  congr 1
  · refine List.map_congr_left fun t ht => ?_
    rw [List.mem_range] at ht
    rw [show k + 1 - 1 - t = (k - 1 - t) + 1 by omega, Int.pow_succ, Int.mul_comm, ← Int.ediv_ediv_of_nonneg (by omega)]
  · simp
theorem byteLen_succ (x : Int) (h : 256 ≤ x) (h1 : x ≤ 9223372036854775807) : byteLen x = byteLen (x / 256) + 1 := by
  unfold byteLen
  rw [if_neg (by omega)]
  by_cases c1 : x < 65536
  · rw [if_pos c1, if_pos (by omega)]
  rw [if_neg c1, if_neg (show ¬ x / 256 < 256 by omega)]
  by_cases c2 : x < 16777216
  · rw [if_pos c2, if_pos (by omega)]
  rw [if_neg c2, if_neg (show ¬ x / 256 < 65536 by omega)]
  by_cases c3 : x < 4294967296
  · rw [if_pos c3, if_pos (by omega)]
  rw [if_neg c3, if_neg (show ¬ x / 256 < 16777216 by omega)]
  by_cases c4 : x < 1099511627776
  · rw [if_pos c4, if_pos (by omega)]
  rw [if_neg c4, if_neg (show ¬ x / 256 < 4294967296 by omega)]
  by_cases c5 : x < 281474976710656
  · rw [if_pos c5, if_pos (by omega)]
  rw [if_neg c5, if_neg (show ¬ x / 256 < 1099511627776 by omega)]
  by_cases c6 : x < 72057594037927936
  · rw [if_pos c6, if_pos (by omega)]
  rw [if_neg c6, if_neg (show ¬ x / 256 < 281474976710656 by omega), if_pos (by omega)]
/-- What the reference's loop has left to do: the bytes of n, none if n is 0. -/
def allBytes (x : Int) : List Int := if x ≤ 0 then [] else beBytes (byteLen x) x
theorem allBytes_step (x : Int) (h : 0 < x) (h1 : x ≤ 9223372036854775807) : allBytes x = allBytes (x / 256) ++ [x % 256] := by
  unfold allBytes
  rw [if_neg (by omega)]
  by_cases c : x < 256
  · rw [if_pos (by omega), show byteLen x = 0 + 1 from if_pos c, beBytes_succ]
    rfl
  · rw [if_neg (by omega), byteLen_succ x (by omega) h1, beBytes_succ]
theorem allBytes_length (x : Int) : (allBytes x).length ≤ 8 := by
  unfold allBytes
  split
  · simp
  · rw [beBytes_length]; exact (byteLen_range x).2
set_option maxHeartbeats 1600000 in
theorem FormRef_calls (x : Int) (w : World) (hx : -9223372036854775808 ≤ x) (hx1 : x ≤ 9223372036854775807) :
    Calls Try.prog 54 #[.int .i64 x] w fun e w' => ∃ v0_ : Value, e = .returned (v0_) ∧ Own w w' v0_ (numForm x) ∧ Below w.heap.size w w' := by
  by_cases hsm : x ≤ 247
  · have HF := Lib.hid (show numForm x = [max x 0] from if_pos hsm)
    by_cases hneg : x < 0
    · have HM := Lib.hid (show [max x 0] = [0] by rw [Int.max_eq_right (by omega)])
      go_enter Try.func54, Try.ntmps54
      go_wp2
      go_ret
      exact ⟨_, rfl, (lit_one (Below.refl _ _) 0).cast (by rw [HF.out, HM.out]), below_alloc (Below.refl _ _) _⟩
    · have hd : decide (x < 248) = true := decide_eq_true (by omega)
      have HM := Lib.hid (show [max x 0] = [x] by rw [Int.max_eq_left (by omega)])
      go_enter Try.func54, Try.ntmps54
      go_wp2
      go_ret
      exact ⟨_, rfl, (lit_one (Below.refl _ _) x).cast (by rw [HF.out, HM.out]), below_alloc (Below.refl _ _) _⟩
  · have HF := Lib.hid (show numForm x = (247 + (byteLen x : Int)) :: beBytes (byteLen x) x from if_neg hsm)
    have hd0 : decide (x < 0) = false := decide_eq_false (by omega)
    have hd : decide (x < 248) = false := decide_eq_false (by omega)
    go_enter Try.func54, Try.ntmps54
    go_wp2
    have HA := Lib.hid (show allBytes x = beBytes (byteLen x) x from if_neg (by omega))
    go_loopw [0, 3] (fun i v wr => ∃ (y : Int) (l : List Int), 0 ≤ y ∧ y ≤ x ∧ i = .int .i64 y ∧ Hid (allBytes x = allBytes y ++ l) ∧ l.length ≤ 8 ∧ Hid (Own w wr v l) ∧ Hid (Below w.heap.size w wr)) (fun i _ _ => (intOf i).toNat)
    case atStart => exact ⟨x, [], by omega, by omega, rfl, Lib.hid (by simp), by simp, Lib.hid (Own.nil _ _), Lib.hid (Below.refl _ _)⟩
    case round =>
      obtain ⟨y, l, hy0, hyx, rfl, HL, hl8, HO, HB⟩ := hrel
      obtain ⟨A, c, rfl, hc, hrd⟩ := HO.out.reads
      have HRD := Lib.hid hrd
      clear hrd HO
      by_cases hy : 0 < y
      · have HS := Lib.hid (allBytes_step y hy (by omega))
        have hl7 : (y % 256 :: l).length ≤ 8 := by
          have h1 := allBytes_length x
          have h2 := congrArg List.length HL.out
          have h3 := congrArg List.length HS.out
          simp only [List.length_append, List.length_cons, List.length_nil] at h2 h3 ⊢
          omega
        go_wp2_with (at_builtin; refine app_row (lit_one HB.out (y % 256)) (Kd.C_alloc HRD.out _) (below_alloc HB.out _) (by simp; omega) rfl rfl rfl rfl ?_)
        intro v3 w3 ho3 hb3 _ _
        have HO3 := Lib.hid (show Own w w3 v3 (y % 256 :: l) from ho3)
        have HB3 := Lib.hid hb3
        clear ho3 hb3
        go_wp2
        go_roundw
        case rel => exact ⟨y / 256, y % 256 :: l, by omega, by omega, rfl, Lib.hid (by rw [HL.out, HS.out, List.append_assoc]; rfl), hl7, HO3, HB3⟩
        case measure => simp [intOf]; omega
      · obtain rfl : y = 0 := by omega
        have HLL := Lib.hid (show l = beBytes (byteLen x) x by rw [← HA.out, HL.out]; rfl)
        have hll : l.length = byteLen x := by rw [HLL.out, beBytes_length]
        have HLn := Lib.hid hll
        clear hll
        go_wp2_with (at_builtin; refine app_row (lit_one HB.out _) (Kd.C_alloc HRD.out _) (below_alloc HB.out _) (by simp; omega) rfl rfl rfl rfl ?_)
        intro v3 w3 ho3 hb3 _ _
        go_wp2
        go_ret
        exact ⟨_, rfl, ho3.cast (by rw [HF.out, HLn.out, HLL.out]; try rfl), hb3⟩
theorem NumberRef_calls {n : Nat} (A0 : Option Addr) (c0 : Nat) (l0 : List Int) (x : Int) (w : World) (hr0 : Rd w A0 n l0) (hs0 : n ≤ 140737488351232) (hx : -9223372036854775808 ≤ x) (hx1 : x ≤ 9223372036854775807) :
    Calls Try.prog 26 #[.slice A0 n c0, .int .i64 x] w fun e w' => ∃ v0_ : Value, e = .returned (v0_) ∧ Own w w' v0_ (l0 ++ numForm x) ∧ Below w.heap.size w w' := by
  have hlen := Kd.C_len hr0
  have hf := numForm_length x
  have HR := Lib.hid hr0
  clear hr0
  go_enter Try.func26, Try.ntmps26
  go_wp2_with (at_builtin; refine app_row (lit_nil (Below.refl _ _)) (Kd.C_alloc HR.out _) (below_alloc (Below.refl _ _) _) (by simp; omega) rfl rfl rfl rfl ?_)
  intro v1 w1 ho1 hb1 _ _
  have HO1 := Lib.hid (ho1.cast (List.nil_append l0))
  have HB1 := Lib.hid hb1
  clear ho1 hb1
  go_wp2_with fail
  refine (FormRef_calls x _ hx hx1).mono ?_
  rintro e w2 ⟨v2, rfl, ho2, hb2⟩
  obtain ⟨A, c, rfl, hc, hrd⟩ := ho2.reads
  have HO2 := Lib.hid (HO1.out.below hb2)
  have HB2 := Lib.hid (below_step HB1.out hb2)
  have HRD := Lib.hid hrd
  clear ho2 hb2 hrd
  go_wp2_with (at_builtin; refine app_row HO2.out HRD.out HB2.out (by omega) rfl rfl rfl rfl ?_)
  intro v3 w3 ho3 hb3 _ _
  go_wp2
  go_ret
  exact ⟨_, rfl, ho3, hb3⟩
theorem TextRef_calls {n : Nat} (A0 : Option Addr) (c0 : Nat) (l0 : List Int) (s : ByteArray) (w : World) (hr0 : Rd w A0 n l0) (hs0 : n + s.size ≤ 140737488351232) :
    Calls Try.prog 27 #[.slice A0 n c0, .string s] w fun e w' => ∃ v0_ : Value, e = .returned (v0_) ∧ Own w w' v0_ (l0 ++ textForm s) ∧ Below w.heap.size w w' := by
  have hlen := Kd.C_len hr0
  have hf := numForm_length s.size
  go_enter Try.func27, Try.ntmps27
  go_wp2_with fail
  refine (NumberRef_calls A0 c0 l0 _ _ hr0 (by omega) (by omega) (by omega)).mono ?_
  rintro e w1 ⟨v1, rfl, ho1, hb1⟩
  have HO1 := Lib.hid ho1
  have HB1 := Lib.hid hb1
  clear ho1 hb1 hr0
  go_wp2_with (at_builtin; refine app_str HO1.out HB1.out (by simp only [List.length_append]; omega) rfl rfl rfl rfl ?_)
  intro v2 w2 ho2 hb2 _
  go_wp2
  go_ret
  exact ⟨_, rfl, ho2.cast (by unfold textForm; first | rfl | rw [List.append_assoc]), hb2⟩
end Go.Proofs.Ythbdgakeglppbaa
