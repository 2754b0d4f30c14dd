/- digest.laid, digest.padded: bytes with SHA's end behind them. -/
import Derived.Test.YtfhnchabifklnaaDoorRot
import Derived.Test.YtfhnchabifklnaaDoorClone
namespace Go.Proofs.YtfhnchabifklnaaDoor
open Go.RowKit Go.Proofs.YtfhnchabifklnaaDoorW.PrintWords
/-- A word's bytes, the highest first. -/
def be4 (x : Int) : List Int := [x / 16777216 % 256, x / 65536 % 256, x / 256 % 256, x % 256]
/-- Noughts up to 56 behind the last 64. -/
def padZ (m : Nat) : Nat := (119 - m % 64) % 64
/-- How long a slice is. -/
def slenB : Value → Nat
  | .slice _ m _ => m
  | _ => 0
def padSha (l : List Int) : List Int := l ++ 128 :: List.replicate (padZ l.length) 0 ++ be4 ((l.length : Int) * 8 / 4294967296) ++ be4 ((l.length : Int) * 8 % 4294967296)
theorem padSha_length (l : List Int) : (padSha l).length = l.length + 1 + padZ l.length + 8 := by simp [padSha, be4]; omega
theorem padSha_mod (l : List Int) : (padSha l).length % 64 = 0 := by rw [padSha_length]; unfold padZ; omega
set_option maxHeartbeats 400000 in
theorem laid_calls (x : Int) (w0 w : World) (v : Value) (l : List Int) (hO : Own w0 w v l) (hB : Below w0.heap.size w0 w) (hl : l.length + 4 ≤ 140737488355328) (_x0 : 0 ≤ x) (_x1 : x < 4294967296) :
    Calls Tryd.prog 29 #[v, .int .u32 x] w fun e w' => ∃ v', e = .returned v' ∧ Own w0 w' v' (l ++ be4 x) ∧ Below w0.heap.size w0 w' := by
  have HO := Lib.hid hO
  have HB := Lib.hid hB
  have h1 : IntKind.u8.wrap (x / 16777216) = x / 16777216 % 256 := by rw [IntKind.wrap_u8]
  have h2 : IntKind.u8.wrap (x / 65536) = x / 65536 % 256 := by rw [IntKind.wrap_u8]
  have h3 : IntKind.u8.wrap (x / 256) = x / 256 % 256 := by rw [IntKind.wrap_u8]
  have h4 : IntKind.u8.wrap x = x % 256 := by rw [IntKind.wrap_u8]
  obtain ⟨A, c, rfl⟩ := Kd.R_slice hO
  clear hO hB
  go_enter Tryd.func29, Tryd.ntmps29
  go_wp2_with (at_builtin; refine app_row (Kd.R_alloc HO.out _) (C_const _ _ [x / 16777216 % 256, x / 65536 % 256, x / 256 % 256, x % 256] (0, 0) (by simp)) (below_alloc HB.out _) (by simp only [List.length_cons, List.length_nil]; omega) rfl rfl rfl rfl ?_)
  intro v3 w3 ho3 hb3 _ _
  have HO3 := Lib.hid ho3
  have HB3 := Lib.hid hb3
  clear ho3 hb3
  go_wp2
  go_ret
  exact ⟨_, rfl, HO3.out.cast (by simp [be4]), HB3.out⟩
set_option maxHeartbeats 800000 in
theorem padded_calls {n : Nat} (A0 : Option Addr) (c0 : Nat) (l0 : List Int) (w : World) (hr0 : Rd w A0 n l0) (hc0 : n ≤ c0) (hs : n ≤ 1099511627776) :
    Calls Tryd.prog 25 #[.slice A0 n c0] w fun e w' => ∃ v', e = .returned v' ∧ Own w w' v' (padSha l0) ∧ Below w.heap.size w w' := by
  obtain rfl : n = l0.length := (Kd.C_len hr0).symm
  have HR := Lib.hid hr0
  clear hr0
  go_enter Tryd.func25, Tryd.ntmps25
  go_wp2_with fail
  refine (bytes_Clone.calls A0 c0 l0 l0 _ HR.out hc0 (if_pos (by omega))).mono ?_
  rintro e w1 ⟨v1, rfl, ho1, hb1⟩
  replace ho1 : Own w w1 v1 l0 := ho1
  have HO1 := Lib.hid ho1
  have HB1 := Lib.hid hb1
  obtain ⟨A1, c1, rfl⟩ := Kd.R_slice ho1
  obtain ⟨n, hn⟩ : ∃ n, n = l0.length := ⟨_, rfl⟩
  rw [← hn] at HO1 hc0 hs ⊢
  have HL := Lib.hid hn.symm
  have hl1 : l0.length + 1 ≤ 140737488355328 := by omega
  clear hn ho1 hb1
  go_wp2_with (at_builtin; refine app_one HO1.out HB1.out hl1 rfl rfl rfl rfl ?_)
  intro v2 w2 ho2 hb2 _ _
  have HO2 := Lib.hid ho2
  have HB2 := Lib.hid hb2
  clear ho2 hb2 HO1 HB1 hl1
  obtain ⟨pz, hpz⟩ : ∃ pz, pz = padZ n := ⟨_, rfl⟩
  have hz64 : pz < 64 ∧ (n + 1 + pz) % 64 = 56 ∧ ∀ z, z < pz → (n + 1 + z) % 64 ≠ 56 := by
    rw [hpz]
    unfold padZ
    refine ⟨by omega, by omega, fun z hz => by omega⟩
  have HPZ := Lib.hid hpz
  clear hpz
  go_wp2
  go_loopw [3] (fun v wr => ∃ (z : Nat) (A : Option Addr) (c : Nat), z ≤ pz ∧ v = .slice A (n + 1 + z) c ∧ Hid (Own w wr v (l0 ++ 128 :: List.replicate z 0)) ∧ Hid (Below w.heap.size w wr)) (fun v _ => n + 70 - slenB v)
  case atStart =>
    obtain ⟨A2, c2, h2, _, _⟩ := HO2.out.reads
    refine ⟨0, A2, c2, by omega, ?_, Lib.hid (HO2.out.cast (by simp)), HB2⟩
    rw [h2, List.length_append, HL.out]
    rfl
  case round =>
    obtain ⟨z, A, c, hz, rfl, HO, HB⟩ := hrel
    obtain ⟨q, hq⟩ : ∃ q, q = n + 1 + z := ⟨_, rfl⟩
    rw [← hq] at HO ⊢
    by_cases hzp : z < pz
    · have hne := hz64.2.2 z hzp
      rw [← hq] at hne
      have d1 : ((q : Int) % 64 == 56) = false := beq_eq_false_iff_ne.2 (by omega)
      have d2 : ((q : Int) % 64 != 56) = true := by rw [bne, d1]; rfl
      have hL1 : (l0 ++ 128 :: List.replicate z 0).length + 1 ≤ 140737488355328 := by simp [HL.out]; omega
      have HZ3 := Lib.hid (show l0 ++ 128 :: List.replicate z 0 ++ [0] = l0 ++ 128 :: List.replicate (z + 1) 0 by simp [List.replicate_succ'])
      have HZL := Lib.hid (show (l0 ++ 128 :: List.replicate (z + 1) (0 : Int)).length = n + 1 + (z + 1) by simp [HL.out]; omega)
      have hqn : q < n + 70 := by omega
      have HQ := Lib.hid hq
      clear hne hq
      go_wp2_with (at_builtin; refine app_one HO.out HB.out hL1 rfl rfl rfl rfl ?_)
      intro v3 w3 ho3 hb3 _ _
      have HO3 := Lib.hid (ho3.cast (show _ = l0 ++ 128 :: List.replicate (z + 1) 0 by rw [← HZ3.out]; simp only [List.append_assoc, List.cons_append]))
      have HB3 := Lib.hid hb3
      clear ho3 hb3 HO HB
      obtain ⟨A3, c3, rfl, _, _⟩ := HO3.out.reads
      rw [HZL.out] at HO3 ⊢
      go_wp2
      go_roundw
      case rel => exact ⟨z + 1, A3, c3, by omega, by first | rfl | go_num, HO3, HB3⟩
      case measure => have := HQ.out; simp [slenB]; omega
    · obtain rfl : z = pz := by omega
      have hq6 : q % 64 = 56 := by rw [hq]; exact hz64.2.1
      have d1 : ((q : Int) % 64 == 56) = true := beq_iff_eq.2 (by omega)
      have d2 : ((q : Int) % 64 != 56) = false := by rw [bne, d1]; rfl
      have hu1 : IntKind.u64.wrap (n : Int) = n := u64_id (by omega) (by omega)
      have hu2 : IntKind.u64.wrap ((n : Int) * 8) = (n : Int) * 8 := u64_id (by omega) (by omega)
      have hh : (n : Int) * 8 / 4294967296 < 4294967296 := by omega
      have hu3 : IntKind.u32.wrap ((n : Int) * 8 / 4294967296) = (n : Int) * 8 / 4294967296 := by rw [IntKind.wrap_u32]; omega
      have hu4 : IntKind.u32.wrap ((n : Int) * 8) = (n : Int) * 8 % 4294967296 := by rw [IntKind.wrap_u32]
      have HL1 := Lib.hid (show (l0 ++ 128 :: List.replicate z (0 : Int)).length + 4 ≤ 140737488355328 by simp [HL.out]; omega)
      have HL2 := Lib.hid (show (l0 ++ 128 :: List.replicate z (0 : Int) ++ be4 ((n : Int) * 8 / 4294967296)).length + 4 ≤ 140737488355328 by simp [HL.out, be4]; omega)
      have HE := Lib.hid (show l0 ++ 128 :: List.replicate z (0 : Int) ++ be4 ((n : Int) * 8 / 4294967296) ++ be4 ((n : Int) * 8 % 4294967296) = padSha l0 by rw [padSha, HL.out, ← HPZ.out])
      clear hq6 hz64 hq
      go_wp2_with fail
      refine (laid_calls ((n : Int) * 8 / 4294967296) w _ _ _ HO.out HB.out HL1.out (by omega) hh).mono ?_
      rintro e w3 ⟨v3, rfl, ho3, hb3⟩
      have HO3 := Lib.hid ho3
      have HB3 := Lib.hid hb3
      obtain ⟨A3, c3, rfl, _, _⟩ := HO3.out.reads
      obtain ⟨m3, hm3⟩ : ∃ m3, m3 = (l0 ++ 128 :: List.replicate z (0 : Int) ++ be4 ((n : Int) * 8 / 4294967296)).length := ⟨_, rfl⟩
      rw [← hm3] at HO3 ⊢
      clear ho3 hb3 hm3
      go_wp2_with fail
      refine (laid_calls ((n : Int) * 8 % 4294967296) w _ _ _ HO3.out HB3.out HL2.out (by omega) (by omega)).mono ?_
      rintro e w4 ⟨v4, rfl, ho4, hb4⟩
      have HO4 := Lib.hid (ho4.cast HE.out)
      have HB4 := Lib.hid hb4
      clear ho4 hb4
      go_wp2
      go_ret
      exact ⟨_, rfl, HO4.out, HB4.out⟩
end Go.Proofs.YtfhnchabifklnaaDoor
