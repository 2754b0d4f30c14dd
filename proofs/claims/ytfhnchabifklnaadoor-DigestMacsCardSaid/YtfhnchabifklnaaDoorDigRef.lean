/- blotterref07.right, blotterref07.bytes. -/
import Derived.Test.YtfhnchabifklnaaDoorTurn
namespace Go.Proofs.YtfhnchabifklnaaDoor
open Go.RowKit Go.Proofs.YtfhnchabifklnaaDoorW.PrintWords
theorem rotl_or' (x : Int) (x0 : 0 ≤ x) (x1 : x < 4294967296) (s : Nat) (hs : s < 32) : bits .or .u32 (x / 2 ^ (32 - s)) (x * 2 ^ s % 4294967296) = rotl x s := by
  have h := rotl_or x x0 x1 s hs
  have a0 : 0 ≤ x / 2 ^ (32 - s) := Int.ediv_nonneg x0 (Int.le_of_lt (Int.pow_pos (by decide)))
  have a1 : x / 2 ^ (32 - s) ≤ x := Int.ediv_le_self _ x0
  have b0 : 0 ≤ x * 2 ^ s % 4294967296 := Int.emod_nonneg _ (by decide)
  have b1 : x * 2 ^ s % 4294967296 < 4294967296 := Int.emod_lt_of_pos _ (by decide)
  obtain ⟨p, hp⟩ := Int.eq_ofNat_of_zero_le a0
  obtain ⟨q, hq⟩ := Int.eq_ofNat_of_zero_le b0
  rw [hp, hq] at h ⊢
  rw [← h, or_u32 p q (by omega) (by omega), or_u32 q p (by omega) (by omega), Nat.or_comm]
set_option maxHeartbeats 800000 in
theorem right_calls (x : Int) (n : Nat) (w : World) (x0 : 0 ≤ x) (x1 : x < 4294967296) (hn : 1 ≤ n ∧ n ≤ 32) :
    Calls Tryd.prog 31 #[.int .u32 x, .int .i64 n] w fun e w' => e = .returned (.int .u32 (rotl x (32 - n))) ∧ Drawn0 w w' := by
  have hw : IntKind.i64.wrap (32 - (n : Int)) = 32 - n := by rw [IntKind.wrap_i64]; omega
  have hC : IntKind.u32.wrap (x * 2 ^ min (32 - (n : Int)).toNat 32) = x * 2 ^ (32 - n) % 4294967296 := by rw [show (32 - (n : Int)).toNat = 32 - n by omega, Nat.min_eq_left (by omega), IntKind.wrap_u32]
  have hD : x / 2 ^ min n 32 = x / 2 ^ n := by rw [Nat.min_eq_left (by omega)]
  have hO := rotl_or' x x0 x1 (32 - n) (by omega)
  rw [show 32 - (32 - n) = n by omega] at hO
  have h1 : (0 : Int) ≤ 32 - (n : Int) := by omega
  clear x0 x1
  go_enter Tryd.func31, Tryd.ntmps31
  go_wp2_with fail
  go_quiet (fail)
  go_wp2
  go_ret
  exact ⟨rfl, (Drawn0.refl _).step _⟩
/-- Words as bytes. -/
def beAll (l : List Int) : List Int := l.flatMap be4
theorem beAll_length (l : List Int) : (beAll l).length = 4 * l.length := by
  induction l with
  | nil => rfl
  | cons a t ih => rw [beAll, List.flatMap_cons, List.length_append, List.length_cons]; have : (t.flatMap be4).length = 4 * t.length := ih; simp only [be4, List.length_cons, List.length_nil]; omega
theorem beAll_snoc (l : List Int) (k : Nat) (h : k < l.length) : beAll (l.take (k + 1)) = beAll (l.take k) ++ be4 (rd l k) := by
  rw [List.take_succ_eq_append_getElem h, rd_get l k h, beAll, List.flatMap_append]
  simp [beAll]
set_option maxHeartbeats 800000 in
theorem bytes_calls {n : Nat} (A0 : Option Addr) (c0 : Nat) (l0 : List Int) (w : World) (hr0 : RdW w A0 n l0) (hs : n ≤ 1000) :
    Calls Tryd.prog 32 #[.slice A0 n c0] w fun e w' => ∃ v', e = .returned v' ∧ Own w w' v' (beAll l0) ∧ Below w.heap.size w w' := by
  have HR := Lib.hid hr0
  have HL := Lib.hid (Kd.C_len hr0)
  clear hr0
  go_enter Tryd.func32, Tryd.ntmps32
  go_wp2
  go_loopw [3, 8] (fun v i wr => ∃ (k : Nat), k ≤ n ∧ i = .int .i64 k ∧ Hid (Own w wr v (beAll (l0.take k))) ∧ Hid (Below w.heap.size w wr)) (fun _ i _ => n - (intOf i).toNat)
  case atStart => exact ⟨0, by omega, rfl, Lib.hid (Own.nil w w), Lib.hid (Below.refl _ _)⟩
  case round =>
    obtain ⟨k, hk, rfl, HO, HB⟩ := hrel
    by_cases hkn : k < n
    · have dkn : decide ((k : Int) < n) = true := decide_eq_true (by omega)
      obtain ⟨ad', rfl, hcell⟩ := RdW.cells (Kd.C_below HR.out HB.out) (by omega)
      have hx := hcell k hkn
      have HSN := Lib.hid (beAll_snoc l0 k (by rw [HL.out]; exact hkn))
      obtain ⟨x, ex⟩ : ∃ x, x = rd l0 k := ⟨_, rfl⟩
      rw [← ex] at hx HSN
      have h1 : IntKind.u8.wrap (x / 16777216) = x / 16777216 % 256 := by rw [IntKind.wrap_u8]
      have h2 : IntKind.u8.wrap (x / 65536) = x / 65536 % 256 := by rw [IntKind.wrap_u8]
      have h3 : IntKind.u8.wrap (x / 256) = x / 256 % 256 := by rw [IntKind.wrap_u8]
      have h4 : IntKind.u8.wrap x = x % 256 := by rw [IntKind.wrap_u8]
      have hap : (beAll (l0.take k)).length + 4 ≤ 140737488355328 := by rw [beAll_length, List.length_take, HL.out]; omega
      clear hcell ex
      go_wp2_with (at_builtin; refine app_row (Kd.R_alloc HO.out _) (C_const _ _ [x / 16777216 % 256, x / 65536 % 256, x / 256 % 256, x % 256] (0, 0) (by simp)) (below_alloc HB.out _) (by simp only [List.length_cons, List.length_nil]; omega) rfl rfl rfl rfl ?_)
      intro v3 w3 ho3 hb3 _ _
      have HO3 := Lib.hid (ho3.cast (show _ = beAll (l0.take (k + 1)) by rw [HSN.out]; simp [be4]))
      have HB3 := Lib.hid hb3
      clear ho3 hb3
      go_wp2
      go_roundw
      case rel => exact ⟨k + 1, by omega, by go_num, HO3, HB3⟩
      case measure => simp [intOf]; omega
    · obtain rfl : k = n := by omega
      have dkn : decide ((k : Int) < k) = false := decide_eq_false (by omega)
      go_wp2
      go_ret
      exact ⟨_, rfl, HO.out.cast (by rw [List.take_of_length_le (by rw [HL.out]; exact Nat.le_refl _)]), HB.out⟩
end Go.Proofs.YtfhnchabifklnaaDoor
