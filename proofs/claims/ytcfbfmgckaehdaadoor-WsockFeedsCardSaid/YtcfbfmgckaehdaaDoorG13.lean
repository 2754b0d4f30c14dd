/- The texts WsAwake, WsShort2, WsNobody, WsConn, WsFail in one. -/
import Derived.Test.YtcfbfmgckaehdaaDoorG02
import Derived.Test.YtcfbfmgckaehdaaDoorG09
import Derived.Test.YtcfbfmgckaehdaaDoorG12
import Derived.Lib.SmallJoins
namespace Go.Proofs.YtcfbfmgckaehdaaDoor
open Go.RowKit Go.Proofs.YtcfbfmgckaehdaaDoorW.PrintWords
def keyK : ByteArray := ⟨#[100, 71, 104, 108, 73, 72, 78, 104, 98, 88, 66, 115, 90, 83, 66, 117, 98, 50, 53, 106, 90, 81, 61, 61]⟩
def keyS : ByteArray := ⟨#[100, 71, 104, 108, 73, 72, 78, 104, 98, 88, 66, 115, 90, 83, 66, 117, 98, 50, 53, 106, 90, 81]⟩
theorem key_ok : KeyOk keyK keyS [116, 104, 101, 32, 115, 97, 109, 112, 108, 101, 32, 110, 111, 110, 99, 101] where
  size := by decide +kernel
  cut := by decide +kernel
  end2 := by decide +kernel
  no45 := by decide +kernel
  no95 := by decide +kernel
  no43 := by decide +kernel
  no47 := by decide +kernel
  short := by decide +kernel
  spelt := by decide +kernel
  len := by decide +kernel
theorem key_sha : sha1 (bytesOf (keyK ++ guid)) = [179, 122, 79, 44, 192, 98, 79, 22, 144, 246, 70, 6, 207, 56, 89, 69, 178, 190, 196, 234] := by decide +kernel
theorem key_b64 : strOfNums (b64 [179, 122, 79, 44, 192, 98, 79, 22, 144, 246, 70, 6, 207, 56, 89, 69, 178, 190, 196, 234]) = ⟨#[115, 51, 112, 80, 76, 77, 66, 105, 84, 120, 97, 81, 57, 107, 89, 71, 122, 122, 104, 90, 82, 98, 75, 43, 120, 79, 111, 61]⟩ := by decide +kernel
theorem awake_wr : wrE ⟨true, 1, [72, 101, 108, 108, 111]⟩ 4 = 0 := by decide +kernel
theorem awake_bytes : wrL ⟨true, 1, [72, 101, 108, 108, 111]⟩ [55, 250, 33, 61] = [129, 133, 55, 250, 33, 61, 127, 159, 77, 81, 88] := by decide +kernel
theorem awake_rd : (rdF [129, 5] true).2.2 = 1002 := by decide +kernel
set_option maxRecDepth 20000 in
set_option maxHeartbeats 4000000 in
theorem wsAwake_calls (w : World) : Calls Tryd.prog 13 #[] w fun e w' => e = .returned (.bool true) ∧ Below w.heap.size w w' := by
  have kc := fun (w : World) (C : Array Value) (n c g : Nat) (hg : g = w.heap.size) => Joins.run_convert_bytes_const_at (P := Tryd.prog) w 22 5 C n c g hg Tryd.underlying22 Tryd.underlying5
  go_enter Tryd.func13, Tryd.ntmps13
  go_wp2_with fail
  refine (Accept_yes keyK keyS _ _ [179, 122, 79, 44, 192, 98, 79, 22, 144, 246, 70, 6, 207, 56, 89, 69, 178, 190, 196, 234] ⟨#[115, 51, 112, 80, 76, 77, 66, 105, 84, 120, 97, 81, 57, 107, 89, 71, 122, 122, 104, 90, 82, 98, 75, 43, 120, 79, 111, 61]⟩ key_ok rfl (by decide +kernel) key_sha rfl key_b64 _).mono ?_
  rintro e w1 ⟨rfl, hb1⟩
  have HB1 := Lib.hid hb1
  clear hb1
  go_wp2_with fail
  have hm1 : Rd ((w1.alloc (.cells #[.int .u8 72, .int .u8 101, .int .u8 108, .int .u8 108, .int .u8 111] 5 (5, 6))).alloc (.cells #[.int .u8 55, .int .u8 250, .int .u8 33, .int .u8 61] 5)) (some ⟨w1.heap.size + 1, 0, none⟩) 4 [55, 250, 33, 61] := by
    have h := C_const (w1.alloc (.cells #[.int .u8 72, .int .u8 101, .int .u8 108, .int .u8 108, .int .u8 111] 5 (5, 6))) 5 [55, 250, 33, 61] (0, 0) (by decide)
    rw [size_alloc] at h
    exact h
  refine (WsWrite_calls true 1 _ _ [72, 101, 108, 108, 111] _ _ [55, 250, 33, 61] _ (Kd.C_alloc (C_const w1 5 [72, 101, 108, 108, 111] (5, 6) (by decide)) _) (Nat.le_refl 5) (by unfold Bytes; decide) (by decide) hm1 (Nat.le_refl 4)).mono ?_
  rintro e w4 ⟨v4, rfl, ho4, hb4⟩
  have he : wrE ⟨true, 1, [72, 101, 108, 108, 111]⟩ ([55, 250, 33, 61] : List Int).length = 0 := awake_wr
  rw [he] at ho4 ⊢
  rw [if_pos rfl, awake_bytes] at ho4
  obtain ⟨A4, c4, rfl, _, hr4⟩ := ho4.reads
  have H4 := Lib.hid (show Rd w4 A4 11 [129, 133, 55, 250, 33, 61, 127, 159, 77, 81, 88] ∧ Below w.heap.size w w4 from ⟨hr4, below_step (below_alloc (below_alloc HB1.out _) _) hb4⟩)
  have e11 : ([129, 133, 55, 250, 33, 61, 127, 159, 77, 81, 88] : List Int).length = 11 := rfl
  rw [e11]
  clear ho4 hr4 hb4 hm1 he e11
  go_wp2_with fail
  refine (WsRead_calls _ _ [129, 5] true _ (C_const w4 5 [129, 5] (0, 0) (by decide)) (Nat.le_refl 2) (by unfold Bytes; decide) (by decide)).mono ?_
  rintro e w5 ⟨f, k, why, v5, rfl, hF, ho5, hb5⟩
  have hy : why = 1002 := by have h := awake_rd; rw [hF] at h; exact h
  subst hy
  obtain ⟨A5, c5, rfl, _, _⟩ := ho5.reads
  have hb45 : Below w4.heap.size w4 w5 := below_step (below_alloc (Below.refl _ _) _) hb5
  have H5 := Lib.hid (show Rd w5 A4 11 [129, 133, 55, 250, 33, 61, 127, 159, 77, 81, 88] ∧ Below w.heap.size w w5 from ⟨Kd.C_below H4.out.1 hb45, below_step H4.out.2 hb45⟩)
  clear hb5 hb45 ho5 hF
  have hm2 : ∀ o, Rd ((w5.alloc o).alloc (.cells #[.int .u8 129, .int .u8 133, .int .u8 55, .int .u8 250, .int .u8 33, .int .u8 61, .int .u8 127, .int .u8 159, .int .u8 77, .int .u8 81, .int .u8 88] 5)) (some ⟨w5.heap.size + 1, 0, none⟩) 11 [129, 133, 55, 250, 33, 61, 127, 159, 77, 81, 88] := fun o => by
    have h := C_const (w5.alloc o) 5 [129, 133, 55, 250, 33, 61, 127, 159, 77, 81, 88] (0, 0) (by decide)
    rw [size_alloc] at h
    exact h
  go_wp2_with fail
  refine (Equal_true _ _ [129, 133, 55, 250, 33, 61, 127, 159, 77, 81, 88] _ _ [129, 133, 55, 250, 33, 61, 127, 159, 77, 81, 88] _ (Kd.C_alloc (Kd.C_alloc H5.out.1 _) _) (hm2 _) (by unfold Bytes; decide) rfl).mono ?_
  rintro e w6 ⟨rfl, hd6⟩
  have H6 := Lib.hid (below_step (below_alloc (below_alloc H5.out.2 _) _) hd6.below)
  clear hd6
  go_wp2
  go_ret
  exact ⟨rfl, H6.out⟩
end Go.Proofs.YtcfbfmgckaehdaaDoor
namespace Go.Proofs.YtcfbfmgckaehdaaDoor
open Go.RowKit Go.Proofs.YtcfbfmgckaehdaaDoorW.PrintWords
set_option maxRecDepth 20000 in
set_option maxHeartbeats 1600000 in
theorem short_le {n : Nat} (A : Option Addr) (c : Nat) (L : List Fd) (w : World) (hr : RdFd w A n L) :
    Calls Tryd.prog 32 #[.slice A n c] w fun e w' => ∃ b, e = .returned (.bool b) ∧ w' = w ∧ (b = true → n ≤ 300 ∧ ∀ j, j < n → (L.getD j Fd.none).bytes.length ≤ 262144) := by
  have hmx := Kd.C_max hr
  have HI := Lib.hid (show RdFd w A n L ∧ n ≤ 9223372036854775807 from ⟨hr, hmx⟩)
  clear hr hmx
  go_enter Tryd.func32, Tryd.ntmps32
  go_wp2
  go_loopw [3, 4] (fun s i wr => ∃ (z : Int) (k : Nat), w = wr ∧ s = .int .i64 z ∧ i = .int .i64 k ∧ k ≤ n ∧ k ≤ 301 ∧ Hid (∀ j, j < k → (L.getD j Fd.none).bytes.length ≤ 262144)) (fun _ i _ => n - (intOf i).toNat)
  case atStart => exact ⟨0, 0, rfl, rfl, rfl, by omega, by omega, Lib.hid (fun j h => absurd h (Nat.not_lt_zero _))⟩
  case round =>
    obtain ⟨z, k, rfl, rfl, rfl, hk, hk3, HAL⟩ := hrel
    have hmx := HI.out.2
    obtain ⟨zb, hzb⟩ : ∃ b, decide (z ≤ 262144) = b := ⟨_, rfl⟩
    by_cases hkn : k < n
    · have dkn : decide ((k : Int) < n) = true := decide_eq_true (by omega)
      have dkn' : decide (k < n) = true := decide_eq_true hkn
      by_cases hk300 : k ≤ 300
      · have d3 : decide ((k : Int) ≤ 300) = true := decide_eq_true (by omega)
        have d3' : decide (k ≤ 300) = true := decide_eq_true hk300
        have wk : IntKind.i64.wrap ((k : Int) + 1) = k + 1 := wrap_id (by omega) (by omega)
        have ikn : (k : Int) < n := by omega
        have i0 : (0 : Int) ≤ k := by omega
        obtain ⟨ad, Ai, ci, rfl, _, x1, _, _⟩ := RdFd.at HI.out.1 k hkn
        obtain ⟨m, hm⟩ : ∃ m, m = (L.getD k Fd.none).bytes.length := ⟨_, rfl⟩
        rw [← hm] at x1
        have HMM := Lib.hid hm
        clear hm
        obtain ⟨mb, hmb, hmb'⟩ : ∃ b, decide (262144 < (m : Int)) = b ∧ decide (262144 < m) = b := ⟨_, rfl, by by_cases h : 262144 < m <;> simp [h] <;> omega⟩
        obtain ⟨z2, hz2⟩ : ∃ z2, IntKind.i64.wrap (z + m) = z2 := ⟨_, rfl⟩
        have HK := Lib.hid (show k < n ∧ k ≤ 300 from ⟨hkn, hk300⟩)
        clear hkn hk300 hk hk3 hmx
        cases mb with
        | true =>
          go_wp2
          go_ret
          exact ⟨false, rfl, rfl, fun h => by cases h⟩
        | false =>
          have HM2 := Lib.hid (show m ≤ 262144 from by have h := of_decide_eq_false hmb'; omega)
          go_wp2
          go_roundw
          case rel => exact ⟨z2, k + 1, trivial, by first | rfl | (rw [hz2]), by go_num, by have := HK.out; omega, by have := HK.out; omega, Lib.hid (fun j hj => by
            rcases Nat.lt_or_ge j k with h | h
            · exact HAL.out j h
            · have e : j = k := by omega
              rw [e, ← HMM.out]; exact HM2.out)⟩
          case measure => have := HK.out; simp [intOf]; omega
      · have d3 : decide ((k : Int) ≤ 300) = false := decide_eq_false (by omega)
        have d3' : decide (k ≤ 300) = false := decide_eq_false hk300
        have e3 : decide ((n : Int) ≤ 300) = false := decide_eq_false (by omega)
        have e3' : decide (n ≤ 300) = false := decide_eq_false (by omega)
        clear hkn hk300 hk hk3 hmx
        go_wp2
        go_ret
        exact ⟨false, rfl, rfl, fun h => by cases h⟩
    · have dkn : decide ((k : Int) < n) = false := decide_eq_false (by omega)
      have dkn' : decide (k < n) = false := decide_eq_false hkn
      have HKN := Lib.hid (show n ≤ k by omega)
      clear hkn hk hk3 hmx
      by_cases hn : n ≤ 300
      · have e3 : decide ((n : Int) ≤ 300) = true := decide_eq_true (by omega)
        have e3' : decide (n ≤ 300) = true := decide_eq_true hn
        have HN3 := Lib.hid hn
        clear hn
        go_wp2
        go_ret
        exact ⟨zb, rfl, rfl, fun _ => ⟨HN3.out, fun j hj => HAL.out j (by have := HKN.out; omega)⟩⟩
      · have e3 : decide ((n : Int) ≤ 300) = false := decide_eq_false (by omega)
        have e3' : decide (n ≤ 300) = false := decide_eq_false hn
        clear hn
        go_wp2
        go_ret
        exact ⟨false, rfl, rfl, fun h => by cases h⟩
end Go.Proofs.YtcfbfmgckaehdaaDoor
namespace Go.Proofs.YtcfbfmgckaehdaaDoor
open Go.RowKit Go.Proofs.YtcfbfmgckaehdaaDoorW.PrintWords
set_option maxHeartbeats 1600000 in
theorem SameEvent_true {n m : Nat} (op code : Int) (A : Option Addr) (c : Nat) (l : List Int) (A1 : Option Addr) (c1 : Nat) (bad : Bool) (w : World) (hr : Rd w A n l) (hr1 : Rd w A1 m l) :
    Calls Tryd.prog 27 #[.agg #[.int .i64 op, .int .i64 code, .slice A n c, .bool bad], .agg #[.int .i64 op, .int .i64 code, .slice A1 m c1, .bool bad]] w fun e w' => e = .returned (.bool true) ∧ Below w.heap.size w w' := by
  obtain ⟨g0, hg0⟩ : ∃ g, g = w.heap.size := ⟨_, rfl⟩
  obtain ⟨g1, hg1⟩ : ∃ g, g = g0 + 1 := ⟨_, rfl⟩
  obtain ⟨W0, hW0⟩ : ∃ W0, W0 = w.alloc (.cells #[.int .i64 op, .int .i64 code, .slice A n c, .bool bad] 51) := ⟨_, rfl⟩
  obtain ⟨W1, hW1⟩ : ∃ W1, W1 = W0.alloc (.cells #[.int .i64 op, .int .i64 code, .slice A1 m c1, .bool bad] 51) := ⟨_, rfl⟩
  have hz0 : W0.heap.size = g1 := by rw [hW0, size_alloc, hg1, hg0]
  have hb0 : Below w.heap.size w W0 := by rw [hW0]; exact below_alloc (Below.refl _ _) _
  have hb01 : Below W0.heap.size W0 W1 := by rw [hW1]; exact below_alloc (Below.refl _ _) _
  have hb1 := below_step hb0 hb01
  have hp0 : Whole W0 g0 51 #[.int .i64 op, .int .i64 code, .slice A n c, .bool bad] := by rw [hW0, hg0]; exact Whole.new w _ _
  have hk0 := hp0.below hb01 hp0.lt
  have hk1 : Whole W1 g1 51 #[.int .i64 op, .int .i64 code, .slice A1 m c1, .bool bad] := by rw [hW1, ← hz0]; exact Whole.new W0 _ _
  have HS := Lib.hid (show g0 = w.heap.size ∧ W0 = w.alloc _ ∧ W1 = W0.alloc _ ∧ g1 = g0 + 1 from ⟨hg0, hW0, hW1, hg1⟩)
  have HB := Lib.hid hb1
  have x0 := hk0.cell 0 _ rfl
  have x1 := hk0.cell 1 _ rfl
  have x2 := hk0.cell 2 _ rfl
  have x3 := hk0.cell 3 _ rfl
  have y0 := hk1.cell 0 _ rfl
  have y1 := hk1.cell 1 _ rfl
  have y2 := hk1.cell 2 _ rfl
  have y3 := hk1.cell 3 _ rfl
  have k0 := Kd.C_string (P := Tryd.prog) (src := 22) (dst := 9) (e := 5) Tryd.underlying22 Tryd.underlying5 Tryd.underlying9 (c := c) (Kd.C_below hr hb1)
  have k1 := Kd.C_string (P := Tryd.prog) (src := 22) (dst := 9) (e := 5) Tryd.underlying22 Tryd.underlying5 Tryd.underlying9 (c := c1) (Kd.C_below hr1 hb1)
  have e1 : (op == op) = true := by simp
  have e2 : (code == code) = true := by simp
  clear hr hr1 hg0 hg1 hz0 hb0 hb01 hb1 hp0 hk0 hk1 hW0 hW1
  go_enter Tryd.func27, Tryd.ntmps27
  go_upto_region 1 with (fail)
  rw [← HS.out.1, ← HS.out.2.1, ← HS.out.2.2.2, ← HS.out.2.2.1]
  cases bad
  all_goals
    go_wp2
    go_ret
    exact ⟨by simp, HB.out⟩
/-- An end that no call made: nil, or an empty one. -/
def NoConn (w : World) (p : Option Addr) : Prop := p = none ∨ ∃ g, p = some ⟨g, 0, none⟩ ∧ Whole w g 55 #[.bool false, .bool false, .bool false, .slice none 0 0, .int .i64 0, .slice none 0 0]
theorem NoConn.below {w w1 : World} {p : Option Addr} (h : NoConn w p) (hb : Below w.heap.size w w1) : NoConn w1 p := by
  rcases h with h | ⟨g, h, k⟩
  · exact .inl h
  · exact .inr ⟨g, h, k.below hb k.lt⟩
/-- An empty event's cells. -/
abbrev ev0 : Array Value := #[.int .i64 0, .int .i64 0, .slice none 0 0, .bool false]
end Go.Proofs.YtcfbfmgckaehdaaDoor
namespace Go.Proofs.YtcfbfmgckaehdaaDoor
open Go.RowKit Go.Proofs.YtcfbfmgckaehdaaDoorW.PrintWords
/-- An end: what it asks of masks, whether it is over, what waits, the message that has begun. -/
structure Cn where
  mask : Bool
  over : Bool
  wait : List Int
  op : Int
  load : List Int
/-- The blocks that an end lies in. -/
def Foot (g : Nat) (vw vl : Value) (k : Nat) : Prop := k = g ∨ some k = vw.ownBlock ∨ some k = vl.ownBlock
/-- What an end's bytes are like. -/
def CnOk (c : Cn) : Prop := c.wait.length ≤ 65536 ∧ c.load.length ≤ 16384 ∧ Bytes c.wait ∧ Bytes c.load ∧ (c.over = true → c.wait = [])
def ConnAt (w0 w : World) (g : Nat) (c : Cn) (vw vl : Value) : Prop :=
  Whole w g 55 #[.bool true, .bool c.mask, .bool c.over, vw, .int .i64 c.op, vl] ∧ Own w0 w vw c.wait ∧ Own w0 w vl c.load ∧ w0.heap.size ≤ g ∧ some g ≠ vw.ownBlock ∧ some g ≠ vl.ownBlock ∧ (vw.ownBlock = vl.ownBlock → vw.ownBlock = none) ∧ CnOk c
theorem Own.keep {w0 w w1 : World} {v : Value} {l : List Int} (h : Own w0 w v l) (hm : ∀ k, some k = v.ownBlock → k < w.heap.size → w1.heap[k]? = w.heap[k]?) : Own w0 w1 v l :=
  Kd.R_mono (Kd.R_step (Kd.R_tight rfl h) (fun k hk hlt => hm k hk hlt)) (fun _ _ => trivial)
theorem ConnAt.step {w0 w w1 : World} {g : Nat} {c : Cn} {vw vl : Value} (h : ConnAt w0 w g c vw vl) (hm : ∀ k, Foot g vw vl k → k < w.heap.size → w1.heap[k]? = w.heap[k]?) : ConnAt w0 w1 g c vw vl :=
  ⟨h.1.far (hm g (.inl rfl) h.1.lt), h.2.1.keep (fun k hk hl => hm k (.inr (.inl hk)) hl), h.2.2.1.keep (fun k hk hl => hm k (.inr (.inr hk)) hl), h.2.2.2⟩
theorem ConnAt.below {w0 w w1 : World} {g : Nat} {c : Cn} {vw vl : Value} (h : ConnAt w0 w g c vw vl) (hb : Below w.heap.size w w1) : ConnAt w0 w1 g c vw vl := h.step (fun k _ hk => hb.block k hk)
theorem ConnAt.lower {w0 w00 w : World} {g : Nat} {c : Cn} {vw vl : Value} (h : ConnAt w0 w g c vw vl) (hs : w00.heap.size ≤ w0.heap.size) : ConnAt w00 w g c vw vl :=
  ⟨h.1, h.2.1.lower hs, h.2.2.1.lower hs, Nat.le_trans hs h.2.2.2.1, h.2.2.2.2⟩
/-- What a call on an end leaves as it was. -/
def Rest (w w' : World) (F F' : Nat → Prop) : Prop := w.heap.size ≤ w'.heap.size ∧ (∀ k, k < w.heap.size → ¬ F k → w'.heap[k]? = w.heap[k]?) ∧ (∀ k, F' k → F k ∨ w.heap.size ≤ k)
theorem WsNew_calls (mask : Bool) (w : World) : Calls Tryd.prog 33 #[.bool mask] w fun e w' => e = .returned (.pointer (some ⟨w.heap.size, 0, none⟩)) ∧ ConnAt w w' w.heap.size ⟨mask, false, [], 0, []⟩ (.slice none 0 0) (.slice none 0 0) ∧ Below w.heap.size w w' := by
  go_enter Tryd.func33, Tryd.ntmps33
  go_wp2
  go_ret
  exact ⟨rfl, ⟨Whole.new w _ _, Own.nil _ _, Own.nil _ _, Nat.le_refl _, by simp [Value.ownBlock], by simp [Value.ownBlock], fun _ => rfl, by simp, by simp, Bytes.nil, Bytes.nil, fun _ => rfl⟩, below_alloc (Below.refl _ _) _⟩
theorem WsWaiting_calls (w0 w : World) (g : Nat) (c : Cn) (vw vl : Value) (h : ConnAt w0 w g c vw vl) : Calls Tryd.prog 30 #[.pointer (some ⟨g, 0, none⟩)] w fun e w' => e = .returned (.int .i64 c.wait.length) ∧ w' = w := by
  obtain ⟨A, k, rfl, _, _⟩ := h.2.1.reads
  have x3 := h.1.cell 3 _ rfl
  clear h
  go_enter Tryd.func30, Tryd.ntmps30
  go_wp2
  go_ret
  exact ⟨rfl, rfl⟩
theorem WsOver_calls (w0 w : World) (g : Nat) (c : Cn) (vw vl : Value) (h : ConnAt w0 w g c vw vl) : Calls Tryd.prog 31 #[.pointer (some ⟨g, 0, none⟩)] w fun e w' => e = .returned (.bool c.over) ∧ w' = w := by
  have x2 := h.1.cell 2 _ rfl
  clear h
  go_enter Tryd.func31, Tryd.ntmps31
  go_wp2
  go_ret
  exact ⟨rfl, rfl⟩
/-- What Feed answers, and what then waits. -/
def feedE (c : Cn) (n : Nat) : Int := if c.over = true then 31 else if 65536 < c.wait.length + n then 7 else 0
def feedC (c : Cn) (b : List Int) : Cn := if feedE c b.length = 0 then { c with wait := c.wait ++ b } else c
def FeedPost (w0 w : World) (g : Nat) (c : Cn) (vw vl : Value) (b : List Int) (e : Ending) (w' : World) : Prop :=
  ∃ vw' : Value, e = .returned (.int .i64 (feedE c b.length)) ∧ ConnAt w0 w' g (feedC c b) vw' vl ∧ Rest w w' (Foot g vw vl) (Foot g vw' vl) ∧ Below w0.heap.size w0 w'
theorem Rest.refl (w : World) (F : Nat → Prop) : Rest w w F F := ⟨Nat.le_refl _, fun _ _ _ => rfl, fun _ h => .inl h⟩
set_option maxHeartbeats 1600000 in
theorem WsFeed_calls {n : Nat} (w0 w : World) (g : Nat) (c : Cn) (vw vl : Value) (A : Option Addr) (cb : Nat) (b : List Int) (h : ConnAt w0 w g c vw vl) (hr : Rd w A n b) (hb : Bytes b) (hB : Below w0.heap.size w0 w) :
    Calls Tryd.prog 29 #[.pointer (some ⟨g, 0, none⟩), .slice A n cb] w (FeedPost w0 w g c vw vl b) := by
  have hbl := Kd.C_len hr
  have x0 := h.1.cell 0 _ rfl
  have x2 := h.1.cell 2 _ rfl
  have x3 := h.1.cell 3 _ rfl
  have HI := Lib.hid (show ConnAt w0 w g c vw vl ∧ Rd w A n b ∧ Bytes b ∧ Below w0.heap.size w0 w ∧ b.length = n from ⟨h, hr, hb, hB, hbl⟩)
  obtain ⟨W, hW⟩ : ∃ n, n = c.wait.length := ⟨_, rfl⟩
  have hWs : W ≤ 65536 := by rw [hW]; exact h.2.2.2.2.2.2.2.1
  obtain ⟨Aw, cw, hvw, _, _⟩ := h.2.1.reads
  rw [← hW] at hvw
  have HW := Lib.hid hW
  have hE : feedE c n = if c.over = true then 31 else if 65536 < W + n then 7 else 0 := by rw [hW]; rfl
  clear hbl hr hb hB hW h
  cases hov : c.over with
  | true =>
    rw [hov] at x2
    have HF := Lib.hid (show feedE c b.length = 31 by rw [HI.out.2.2.2.2, hE, hov]; rfl)
    have HV := Lib.hid hvw
    clear hE hov
    go_enter Tryd.func29, Tryd.ntmps29
    go_wp2
    go_ret
    exact ⟨vw, by rw [HF.out]; rfl, by unfold feedC; rw [HF.out]; exact HI.out.1, Rest.refl _ _, HI.out.2.2.2.1⟩
  | false =>
    rw [hov] at x2
    subst hvw
    have w1 : IntKind.i64.wrap (65536 - (W : Int)) = 65536 - W := wrap_id (by omega) (by omega)
    by_cases hf : 65536 < W + n
    · have d1 : decide (65536 - (W : Int) < n) = true := decide_eq_true (by omega)
      have HF := Lib.hid (show feedE c b.length = 7 by rw [HI.out.2.2.2.2, hE, hov, if_neg (by decide), if_pos hf])
      clear hE hov hf
      go_enter Tryd.func29, Tryd.ntmps29
      go_wp2
      go_ret
      exact ⟨_, by rw [HF.out]; rfl, by unfold feedC; rw [HF.out]; exact HI.out.1, Rest.refl _ _, HI.out.2.2.2.1⟩
    · have d1 : decide (65536 - (W : Int) < n) = false := decide_eq_false (by omega)
      have HF := Lib.hid (show feedE c b.length = 0 by rw [HI.out.2.2.2.2, hE, hov, if_neg (by decide), if_neg hf])
      have HN := Lib.hid (show W + n ≤ 65536 by omega)
      have HO := Lib.hid hov
      clear hE hov hf hWs
      go_enter Tryd.func29, Tryd.ntmps29
      go_wp2_with (at_builtin; refine app_row HI.out.1.2.1 HI.out.2.1 HI.out.2.2.2.1 (by have := HN.out; have := HW.out; omega) rfl rfl rfl rfl ?_)
      intro v5 w5 ho5 hb5 hg5 hat5
      have hng := HI.out.1.2.2.2.2.1
      have hk5 := HI.out.1.1.grown hg5 hng
      have hne5 := ne_after hat5 hng HI.out.1.1.lt
      have hcr : c.wait.length + b.length ≤ 65536 := by rw [← HW.out, HI.out.2.2.2.2]; exact HN.out
      have hvl : Own w0 w5 vl c.load := HI.out.1.2.2.1.keep (fun k hk hlt => hg5.block k hlt (fun e => by
        have h1 := HI.out.1.2.2.2.2.2.2.1 (e.symm.trans hk)
        rw [h1] at e
        cases e))
      have hapart : v5.ownBlock = vl.ownBlock → v5.ownBlock = none := fun e => by
        rcases hat5 with h1 | ⟨k, h1, h2⟩
        · rw [h1] at e ⊢
          exact HI.out.1.2.2.2.2.2.2.1 e
        · have h3 := HI.out.1.2.2.1.lt k (by rw [← e, h1])
          omega
      obtain ⟨A5, c5, rfl, _, _⟩ := ho5.reads
      obtain ⟨L, hL⟩ : ∃ L, L = (c.wait ++ b).length := ⟨_, rfl⟩
      rw [← hL] at ho5 hne5 hapart hat5 ⊢
      clear hL
      have H5 := Lib.hid (show Own w0 w5 (.slice A5 L c5) (c.wait ++ b) ∧ Below w0.heap.size w0 w5 ∧ w.grownBy w5 (Value.ownBlock (.slice Aw W cw)) ∧ Whole w5 g 55 #[.bool true, .bool c.mask, .bool c.over, .slice Aw W cw, .int .i64 c.op, vl] ∧ some g ≠ (Value.slice A5 L c5).ownBlock ∧ Own w0 w5 vl c.load ∧ ((Value.slice A5 L c5).ownBlock = vl.ownBlock → (Value.slice A5 L c5).ownBlock = none) ∧ ((Value.slice A5 L c5).ownBlock = Value.ownBlock (.slice Aw W cw) ∨ ∃ q, (Value.slice A5 L c5).ownBlock = some q ∧ w.heap.size ≤ q) ∧ c.wait.length + b.length ≤ 65536 from ⟨ho5, hb5, hg5, hk5, hne5, hvl, hapart, hat5, hcr⟩)
      clear ho5 hb5 hg5 hat5 hng hk5 hne5 hvl hapart hcr x0 x2 x3
      have x3 := H5.out.2.2.2.1.cell 3 _ rfl
      have f3 := H5.out.2.2.2.1.free 3
      go_wp2
      go_ret
      have hs := H5.out.2.2.1.size
      refine ⟨.slice A5 L c5, by rw [HF.out]; rfl, ?_, ⟨?_, ?_, ?_⟩, ?_⟩
      · unfold feedC
        rw [if_pos HF.out]
        have hc := HI.out.1.2.2.2.2.2.2.2
        refine ⟨H5.out.2.2.2.1.set 3 _, H5.out.1.far (p := ⟨g, 3, none⟩) H5.out.2.2.2.2.1 _, H5.out.2.2.2.2.2.1.far (p := ⟨g, 3, none⟩) HI.out.1.2.2.2.2.2.1 _, HI.out.1.2.2.2.1, H5.out.2.2.2.2.1, HI.out.1.2.2.2.2.2.1, H5.out.2.2.2.2.2.2.1, ?_, hc.2.1, Bytes.app hc.2.2.1 HI.out.2.2.1, hc.2.2.2.1, fun h => ?_⟩
        · show (c.wait ++ b).length ≤ 65536
          rw [List.length_append]
          exact H5.out.2.2.2.2.2.2.2.2
        · have h : c.over = true := h
          rw [HO.out] at h
          cases h
      · show w.heap.size ≤ (w5.setCell ⟨g, 3, none⟩ (.slice A5 L c5)).heap.size
        rw [World.size_setCell]
        exact hs
      · intro k hk hF
        have h1 : (w5.setCell ⟨g, 3, none⟩ (.slice A5 L c5)).heap[k]? = w5.heap[k]? := Below.heap_setCell w5 ⟨g, 3, none⟩ _ k (fun e => hF (.inl e))
        rw [h1]
        exact H5.out.2.2.1.block k hk (fun e => hF (.inr (.inl e)))
      · intro k hk
        rcases hk with h1 | h1 | h1
        · exact .inl (.inl h1)
        · rcases H5.out.2.2.2.2.2.2.2.1 with h2 | ⟨b', h2, h3⟩
          · exact .inl (.inr (.inl (h1.trans h2)))
          · rw [h2] at h1
            exact .inr (by injection h1 with h1; omega)
        · exact .inl (.inr (.inr h1))
      · exact H5.out.2.1.setCell (p := ⟨g, 3, none⟩) HI.out.1.2.2.2.1 _
end Go.Proofs.YtcfbfmgckaehdaaDoor
namespace Go.Proofs.YtcfbfmgckaehdaaDoor
open Go.RowKit Go.Proofs.YtcfbfmgckaehdaaDoorW.PrintWords
def failC (c : Cn) : Cn := { c with over := true, wait := [], load := [] }
/-- What a call that ends an end leaves. -/
def EndPost (w0 w : World) (g : Nat) (c : Cn) (vw vl : Value) (w' : World) : Prop :=
  ConnAt w0 w' g (failC c) (.slice none 0 0) (.slice none 0 0) ∧ Rest w w' (Foot g vw vl) (Foot g (.slice none 0 0) (.slice none 0 0)) ∧ Below w0.heap.size w0 w'
def FailPost (w0 w : World) (g : Nat) (c : Cn) (vw vl : Value) (code : Int) (e : Ending) (w' : World) : Prop :=
  e = .returned (.tuple #[.agg #[.int .i64 0, .int .i64 code, .slice none 0 0, .bool true], .bool true]) ∧ EndPost w0 w g c vw vl w'
theorem heap_far {w : World} {p : Addr} {v : Value} {k : Nat} (h : k ≠ p.block) : (w.setCell p v).heap[k]? = w.heap[k]? := Below.heap_setCell w p v k h
section
variable {w : World} {g t : Nat} {a b c d e f : Value}
theorem Whole.six2 (h : Whole w g t #[a, b, c, d, e, f]) (v : Value) : Whole (w.setCell ⟨g, 2, none⟩ v) g t #[a, b, v, d, e, f] := h.set 2 v
theorem Whole.six3 (h : Whole w g t #[a, b, c, d, e, f]) (v : Value) : Whole (w.setCell ⟨g, 3, none⟩ v) g t #[a, b, c, v, e, f] := h.set 3 v
theorem Whole.six4 (h : Whole w g t #[a, b, c, d, e, f]) (v : Value) : Whole (w.setCell ⟨g, 4, none⟩ v) g t #[a, b, c, d, v, f] := h.set 4 v
theorem Whole.six5 (h : Whole w g t #[a, b, c, d, e, f]) (v : Value) : Whole (w.setCell ⟨g, 5, none⟩ v) g t #[a, b, c, d, e, v] := h.set 5 v
end
set_option maxHeartbeats 800000 in
theorem WsFail_calls (w0 w : World) (g : Nat) (c : Cn) (vw vl : Value) (code : Int) (h : ConnAt w0 w g c vw vl) (hB : Below w0.heap.size w0 w) :
    Calls Tryd.prog 50 #[.pointer (some ⟨g, 0, none⟩), .int .i64 code] w (FailPost w0 w g c vw vl code) := by
  obtain ⟨g0, hg0⟩ : ∃ g, g = w.heap.size := ⟨_, rfl⟩
  obtain ⟨W1, hW1⟩ : ∃ W1, W1 = w.alloc (.cells #[.int .i64 0, .int .i64 0, .slice none 0 0, .bool false] 51) := ⟨_, rfl⟩
  have hb1 : Below w.heap.size w W1 := by rw [hW1]; exact below_alloc (Below.refl _ _) _
  have hk1 : Whole W1 g0 51 ev0 := by rw [hW1, hg0]; exact Whole.new w _ _
  have hlt := h.1.lt
  have HS := Lib.hid (show g0 = w.heap.size ∧ W1 = w.alloc _ from ⟨hg0, hW1⟩)
  have HI := Lib.hid (show ConnAt w0 W1 g c vw vl ∧ Below w0.heap.size w0 W1 ∧ Whole W1 g0 51 ev0 ∧ g0 ≠ g ∧ w0.heap.size ≤ g0 ∧ Below w.heap.size w W1 ∧ W1.heap.size = g0 + 1 from ⟨h.below hb1, below_step hB hb1, hk1, by omega, by rw [hg0]; exact hB.size, hb1, by rw [hW1, size_alloc, hg0]⟩)
  obtain ⟨Aw, cw, hvw, _, _⟩ := h.2.1.reads
  obtain ⟨Al, cl, hvl, _, _⟩ := h.2.2.1.reads
  have HV := Lib.hid (And.intro hvw hvl)
  have x2 := HI.out.1.1.cell 2 _ rfl
  have x3 := HI.out.1.1.cell 3 _ rfl
  have x5 := HI.out.1.1.cell 5 _ rfl
  have f2 := HI.out.1.1.free 2
  have f3 := HI.out.1.1.free 3
  have f5 := HI.out.1.1.free 5
  clear h hB hb1 hk1 hg0 hW1 hlt hvw hvl
  go_enter Tryd.func50, Tryd.ntmps50
  go_upto_region 1 with (fail)
  rw [← HS.out.1, ← HS.out.2]
  go_upto_region 2 with (fail)
  have H2 := Lib.hid (show Whole (((W1.setCell ⟨g, 2, none⟩ (.bool true)).setCell ⟨g, 3, none⟩ (.slice none 0 0)).setCell ⟨g, 5, none⟩ (.slice none 0 0)) g 55 #[.bool true, .bool c.mask, .bool true, .slice none 0 0, .int .i64 c.op, .slice none 0 0] ∧
      Whole (((W1.setCell ⟨g, 2, none⟩ (.bool true)).setCell ⟨g, 3, none⟩ (.slice none 0 0)).setCell ⟨g, 5, none⟩ (.slice none 0 0)) g0 51 ev0 ∧
      Below w0.heap.size w0 (((W1.setCell ⟨g, 2, none⟩ (.bool true)).setCell ⟨g, 3, none⟩ (.slice none 0 0)).setCell ⟨g, 5, none⟩ (.slice none 0 0)) ∧
      (∀ k, k ≠ g → (((W1.setCell ⟨g, 2, none⟩ (.bool true)).setCell ⟨g, 3, none⟩ (.slice none 0 0)).setCell ⟨g, 5, none⟩ (.slice none 0 0)).heap[k]? = W1.heap[k]?) ∧ (((W1.setCell ⟨g, 2, none⟩ (.bool true)).setCell ⟨g, 3, none⟩ (.slice none 0 0)).setCell ⟨g, 5, none⟩ (.slice none 0 0)).heap.size = g0 + 1 from
    ⟨((HI.out.1.1.six2 _).six3 _).six5 _, ((HI.out.2.2.1.other (p := ⟨g, 2, none⟩) (Ne.symm HI.out.2.2.2.1) _).other (p := ⟨g, 3, none⟩) (Ne.symm HI.out.2.2.2.1) _).other (p := ⟨g, 5, none⟩) (Ne.symm HI.out.2.2.2.1) _,
      ((HI.out.2.1.setCell (p := ⟨g, 2, none⟩) HI.out.1.2.2.2.1 _).setCell (p := ⟨g, 3, none⟩) HI.out.1.2.2.2.1 _).setCell (p := ⟨g, 5, none⟩) HI.out.1.2.2.2.1 _, fun k hk => by rw [heap_far hk, heap_far hk, heap_far hk], by rw [World.size_setCell, World.size_setCell, World.size_setCell]; exact HI.out.2.2.2.2.2.2⟩)
  generalize ((W1.setCell ⟨g, 2, none⟩ (.bool true)).setCell ⟨g, 3, none⟩ (.slice none 0 0)).setCell ⟨g, 5, none⟩ (.slice none 0 0) = W2 at H2 ⊢
  clear x2 x3 x5 f2 f3 f5
  go_wp2_with (refine gate_ (.store 51 (.tmp 4) (.tmp 16)) rfl ?_; refine store_whole rfl rfl rfl rfl rfl H2.out.2.1 rfl (by simp [Value.oneCell']) rfl (by kernel_rfl) ?_; intro w9 hk9 hb9 hf9 hg9)
  refine bodyPost_ret (results_ct rfl _ _ g0 _ _ _ _ rfl hk9 Tryd.underlying51 rfl (by kernel_rfl)) rfl ?_
  refine ⟨rfl, ⟨?_, Own.nil _ _, Own.nil _ _, HI.out.1.2.2.2.1, by simp [Value.ownBlock], by simp [Value.ownBlock], fun _ => rfl, by simp [failC], by simp [failC], Bytes.nil, Bytes.nil, fun _ => rfl⟩, ⟨?_, ?_, ?_⟩, hb9 _ _ H2.out.2.2.1 HI.out.2.2.2.2.1⟩
  · exact H2.out.1.far (hf9 g (Ne.symm HI.out.2.2.2.1))
  · have := hg9.size
    have := H2.out.2.2.2.2
    have := HS.out.1
    omega
  · intro k hk hF
    have h1 : k ≠ g := fun e => hF (.inl e)
    have h2 : k ≠ g0 := by have := HS.out.1; omega
    rw [hf9 k h2, H2.out.2.2.2.1 k h1]
    exact HI.out.2.2.2.2.2.1.block k hk
  · intro k hk
    rcases hk with h1 | h1 | h1
    · exact .inl (.inl h1)
    · simp [Value.ownBlock] at h1
    · simp [Value.ownBlock] at h1
end Go.Proofs.YtcfbfmgckaehdaaDoor
