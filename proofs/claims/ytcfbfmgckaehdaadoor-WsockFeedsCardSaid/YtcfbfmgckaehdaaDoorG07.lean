/- The texts Sha1 in one. -/
import Derived.Test.YtcfbfmgckaehdaaDoorG05
import Derived.Test.YtcfbfmgckaehdaaDoorG06
import Derived.Deep.CutBlock
namespace Go.Proofs.YtcfbfmgckaehdaaDoor
open Go.RowKit Go.Proofs.YtcfbfmgckaehdaaDoorW.PrintWords
def St5.l (s : St5) : List Int := [s.a, s.b, s.c, s.d, s.e]
def St5.ok (s : St5) : Prop := Ws s.l
def init1 : St5 := ⟨1732584193, 4023233417, 2562383102, 271733878, 3285377520⟩
theorem padSha_bytes (l : List Int) (h : Bytes l) : Bytes (padSha l) := by
  intro x hx
  unfold padSha be4 at hx
  simp only [List.mem_append, List.mem_cons, List.mem_replicate, List.not_mem_nil, or_false] at hx
  rcases hx with ((hx | rfl | ⟨_, rfl⟩) | rfl | rfl | rfl | rfl) | rfl | rfl | rfl | rfl
  · exact h x hx
  all_goals omega
theorem rd5_0 (a b c d e : Int) : rd [a, b, c, d, e] ((0 : Nat) : Int) = a := rfl
theorem rd5_1 (a b c d e : Int) : rd [a, b, c, d, e] ((1 : Nat) : Int) = b := rfl
theorem rd5_2 (a b c d e : Int) : rd [a, b, c, d, e] ((2 : Nat) : Int) = c := rfl
theorem rd5_3 (a b c d e : Int) : rd [a, b, c, d, e] ((3 : Nat) : Int) = d := rfl
theorem rd5_4 (a b c d e : Int) : rd [a, b, c, d, e] ((4 : Nat) : Int) = e := rfl
theorem no_nat (b : Nat) (hb : b < 4294967296) : 4294967295 ^^^ b = 4294967295 - b := by
  apply Nat.eq_of_testBit_eq
  intro i
  have hn : (4294967295 - b).testBit i = (decide (i < 32) && !b.testBit i) := by
    have := Nat.testBit_two_pow_sub_succ (n := 32) (x := b) hb i
    rwa [show 2 ^ 32 - (b + 1) = 4294967295 - b by omega] at this
  have h1 : (4294967295 : Nat).testBit i = decide (i < 32) := by
    rw [show (4294967295 : Nat) = 2 ^ 32 - 1 by rfl, Nat.testBit_two_pow_sub_one]
  have h2 : b.testBit i = true → i < 32 := fun h => by
    refine Nat.lt_of_not_le fun hle => ?_
    rw [Nat.testBit_lt_two_pow (Nat.lt_of_lt_of_le hb (Nat.pow_le_pow_right (n := 2) (by decide) hle))] at h
    cases h
  rw [Nat.testBit_xor, hn, h1]
  cases hb' : b.testBit i <;> cases hd : decide (i < 32) <;> simp_all
theorem no_eq (q : Int) (q0 : 0 ≤ q) (q1 : q < 4294967296) : bits .xor .u32 IntKind.u32.max q = no q := by
  obtain ⟨x, rfl⟩ := Int.eq_ofNat_of_zero_le q0
  have e : IntKind.u32.max = ((4294967295 : Nat) : Int) := rfl
  rw [e, xor_u32 _ _ (by omega) (by omega), no_nat x (by omega)]
  unfold no
  omega
abbrev ad_ (x y : Int) : Int := (x + y) % 4294967296
theorem addUp5_length (s q : St5) (i : Nat) : (addUp s.l q.l i).length = 5 := addUp_length s.l q.l rfl i
theorem addUp5_at (s q : St5) (i : Nat) (hi : i < 5) : rd (addUp s.l q.l i) (i : Int) = rd s.l i := addUp_at s.l q.l rfl i hi
theorem addUp5_set (s q : St5) (i : Nat) (hi : i < 5) : (addUp s.l q.l i).set i (ad (rd s.l i) (rd q.l i)) = addUp s.l q.l (i + 1) := addUp_set s.l q.l rfl i hi
theorem addUp5_all (s q : St5) : addUp s.l q.l 5 = (St5.mk (ad s.a q.a) (ad s.b q.b) (ad s.c q.c) (ad s.d q.d) (ad s.e q.e)).l := addUp_all s.l q.l rfl
theorem size_alloc (w : World) (o : Obj) : (w.alloc o).heap.size = w.heap.size + 1 := Array.size_push _
set_option maxRecDepth 20000 in
set_option maxHeartbeats 8000000 in
theorem Sha1_calls {n : Nat} (A0 : Option Addr) (c0 : Nat) (l0 : List Int) (w : World) (hr0 : Rd w A0 n l0) (hb0 : Bytes l0) (hc0 : n ≤ c0) (hs : n ≤ 1099511627776) :
    Calls Tryd.prog 56 #[.slice A0 n c0] w fun e w' => e = .returned (.agg (nums .u8 (sha1 l0)).toArray) ∧ Below w.heap.size w w' := by
  obtain ⟨W1, hW1⟩ : ∃ W1, W1 = w.alloc (.cells #[.int .u8 0, .int .u8 0, .int .u8 0, .int .u8 0, .int .u8 0, .int .u8 0, .int .u8 0, .int .u8 0, .int .u8 0, .int .u8 0, .int .u8 0, .int .u8 0, .int .u8 0, .int .u8 0, .int .u8 0, .int .u8 0, .int .u8 0, .int .u8 0, .int .u8 0, .int .u8 0] 91) := ⟨_, rfl⟩
  obtain ⟨W2, hW2⟩ : ∃ W2, W2 = W1.alloc (.cells #[.int .u32 1732584193, .int .u32 4023233417, .int .u32 2562383102, .int .u32 271733878, .int .u32 3285377520] 104) := ⟨_, rfl⟩
  obtain ⟨g2, hg2⟩ : ∃ g2, g2 = w.heap.size := ⟨_, rfl⟩
  obtain ⟨g3, hg3⟩ : ∃ g3, g3 = g2 + 1 := ⟨_, rfl⟩
  have hB1 : Below g2 w W1 := by rw [hW1, hg2]; exact below_alloc (Below.refl _ _) _
  have hz1 : W1.heap.size = g3 := by rw [hW1, size_alloc, hg3, hg2]
  have hz2 : W2.heap.size = g3 + 1 := by rw [hW2, size_alloc, hz1]
  have hB2 : Below g3 W1 W2 := by rw [hW2, ← hz1]; exact below_alloc (Below.refl _ _) _
  have hK2 : Blk W1 g2 91 .u8 (List.replicate 20 0) := by rw [hW1, hg2]; exact Blk.new w 91 .u8 (List.replicate 20 0)
  have hK3 : Blk W2 g3 104 .u32 init1.l := by rw [hW2, ← hz1]; exact Blk.new W1 104 .u32 init1.l
  have HR := Lib.hid (Kd.C_below (Kd.C_below hr0 (hg2 ▸ hB1)) (hz1 ▸ hB2))
  have HW := Lib.hid hg2
  clear hr0
  go_enter Tryd.func56, Tryd.ntmps56
  go_wp2_with fail
  rw [← hg2, ← hW1, ← hW2, ← hg3]
  refine (padded_calls A0 c0 l0 W2 HR.out hc0 hs).mono ?_
  rintro e w3 ⟨v3, rfl, ho3, hb3⟩
  have hK2' : Blk w3 g2 91 .u8 (List.replicate 20 0) := (hK2.below hB2 (by omega)).below hb3 (by omega)
  have hK3' : Blk w3 g3 104 .u32 init1.l := hK3.below hb3 (by omega)
  have hB3 : Below g2 w w3 := hB1.trans ((hB2.mono (by omega)).trans (hb3.mono (by omega)))
  obtain ⟨A1, c1, rfl, hc1, hr1⟩ := ho3.reads
  have hA1 : ∀ ad, A1 = some ad → ad.block ≠ g3 := by
    intro ad h
    have := Kd.R_base ho3 ad.block (by rw [h]; rfl)
    omega
  obtain ⟨P, hP⟩ : ∃ P, P = padSha l0 := ⟨_, rfl⟩
  obtain ⟨L, hL⟩ : ∃ L, L = P.length := ⟨_, rfl⟩
  obtain ⟨K, hK⟩ : ∃ K, L = 64 * K := ⟨L / 64, by have := padSha_mod l0; rw [hL, hP]; omega⟩
  have hPb : Bytes P := by rw [hP]; exact padSha_bytes l0 hb0
  obtain ⟨T, hT⟩ : ∃ T, blocks1 K init1 P = T := ⟨_, rfl⟩
  rw [← hP] at hc1 hr1 ⊢
  rw [← hL] at hc1 hr1 ⊢
  have HP := Lib.hid (show Bytes P ∧ L = P.length ∧ L = 64 * K ∧ P = padSha l0 ∧ blocks1 K init1 P = T from ⟨hPb, hL, hK, hP, hT⟩)
  have HG := Lib.hid (show g2 = w.heap.size ∧ g3 = g2 + 1 ∧ g3 < w3.heap.size from ⟨hg2, hg3, hK3'.lt⟩)
  have HA := Lib.hid (show Rd w3 A1 L P ∧ (∀ ad, A1 = some ad → ad.block ≠ g3) ∧ Blk w3 g2 91 .u8 (List.replicate 20 0) ∧ Blk w3 g3 104 .u32 init1.l ∧ Below g2 w w3 ∧ blocks1 K init1 P = T ∧ init1.ok from ⟨hr1, hA1, hK2', hK3', hB3, hT, by unfold St5.ok Ws init1 St5.l; decide⟩)
  clear hPb hL hK hP hT hr1 hA1 hK2' hK3' hB3 hK2 hK3 hB1 hB2 hz1 hz2 hW1 hW2 hg2 hg3 HR ho3 hb3 hb0
  go_wp2
  go_loopw [4] (fun v wr => ∃ (k : Nat) (A : Option Addr) (m c : Nat) (h : St5), m + 64 * k = L ∧ v = .slice A m c ∧ m ≤ c ∧ Hid (Rd wr A m (P.drop (64 * k)) ∧ (∀ ad, A = some ad → ad.block ≠ g3) ∧ Blk wr g2 91 .u8 (List.replicate 20 0) ∧ Blk wr g3 104 .u32 h.l ∧ Below g2 w wr ∧ blocks1 (K - k) h (P.drop (64 * k)) = T ∧ h.ok)) (fun v _ => slenB v)
  case atStart => exact ⟨0, A1, L, c1, init1, by omega, rfl, hc1, HA⟩
  case round =>
    clear HA
    obtain ⟨k, A, m, c, h, hm, rfl, hmc, H⟩ := hrel
    by_cases hm0 : 0 < m
    · have dn : decide (0 < (m : Int)) = true := decide_eq_true (by omega)
      have dn' : decide (0 < m) = true := decide_eq_true hm0
      have hm64 : 64 ≤ m := by have := HP.out.2.2.1; omega
      have c64 : (64 : Int) ≤ c := by omega
      have hrd64 : Rd wr A 64 ((P.drop (64 * k)).take 64) := by
        have h1 := H.out.1
        have hl : (P.drop (64 * k)).length = m := Kd.C_len h1
        rw [← hl] at h1
        have := Kd.C_take h1 (m := 64) (by omega)
        rwa [List.length_take, Nat.min_eq_left (by omega)] at this
      have hby : Bytes ((P.drop (64 * k)).take 64) := fun x hx => HP.out.1 x (List.mem_of_mem_drop (List.mem_of_mem_take hx))
      go_wp2_with fail
      refine (words_calls A c _ 66 sch1 64 80 rfl _ hrd64 (by omega) hby (.inl rfl) sch1_makes (by omega)).mono ?_
      rintro e w4 ⟨v4, rfl, ho4, hb4⟩
      obtain ⟨Aw, cw, rfl, _, hrw⟩ := ho4.reads
      obtain ⟨X, hX⟩ : ∃ X, X = extW sch1 64 (w32 ((P.drop (64 * k)).take 64)) := ⟨_, rfl⟩
      have hXl : X.length = 80 := by rw [hX, extW_length, w32_length, Kd.C_len hrd64]
      have hXw : Ws X := by rw [hX]; exact extW_Ws sch1 sch1_makes.1 64 _ (w32_Ws _ hby) (by rw [w32_length, Kd.C_len hrd64]; omega)
      rw [← hX] at hrw ⊢
      rw [hXl] at hrw ⊢
      obtain ⟨ha, hb, hc, hd, he⟩ := h
      have hK3 : Blk w4 g3 104 .u32 [ha, hb, hc, hd, he] := H.out.2.2.2.1.below hb4 H.out.2.2.2.1.lt
      have x0 := hK3.cell 0 (Nat.lt_of_sub_eq_succ rfl)
      have x1 := hK3.cell 1 (Nat.lt_of_sub_eq_succ rfl)
      have x2 := hK3.cell 2 (Nat.lt_of_sub_eq_succ rfl)
      have x3 := hK3.cell 3 (Nat.lt_of_sub_eq_succ rfl)
      have x4 := hK3.cell 4 (Nat.lt_of_sub_eq_succ rfl)
      simp only [rd5_0, rd5_1, rd5_2, rd5_3, rd5_4] at x0 x1 x2 x3 x4
      obtain ⟨g6, hg6⟩ : ∃ g6, g6 = w4.heap.size := ⟨_, rfl⟩
      obtain ⟨W5, hW5⟩ : ∃ W5, W5 = w4.alloc (.cells #[.int .u32 ha, .int .u32 hb, .int .u32 hc, .int .u32 hd, .int .u32 he] 104) := ⟨_, rfl⟩
      have hK6 : Blk W5 g6 104 .u32 (St5.mk ha hb hc hd he).l := by rw [hW5, hg6]; exact Blk.new w4 104 .u32 [ha, hb, hc, hd, he]
      have hB5 : Below g6 w4 W5 := by rw [hW5, hg6]; exact below_alloc (Below.refl _ _) _
      obtain ⟨S, hS⟩ : ∃ S, rounds1 X 0 ⟨ha, hb, hc, hd, he⟩ = S := ⟨_, rfl⟩
      have HX := Lib.hid (show X.length = 80 ∧ Ws X ∧ X = extW sch1 64 (w32 ((P.drop (64 * k)).take 64)) ∧ RdW w4 Aw 80 X ∧ w4.heap.size = g6 ∧ rounds1 X 0 ⟨ha, hb, hc, hd, he⟩ = S from ⟨hXl, hXw, hX, hrw, hg6.symm, hS⟩)
      have HQ := Lib.hid (show Rd w4 A m (P.drop (64 * k)) ∧ (∀ ad, A = some ad → ad.block ≠ g3) ∧ Blk w4 g2 91 .u8 (List.replicate 20 0) ∧ Blk w4 g3 104 .u32 (St5.mk ha hb hc hd he).l ∧ Below g2 w w4 ∧ blocks1 (K - k) ⟨ha, hb, hc, hd, he⟩ (P.drop (64 * k)) = T ∧ g3 < g6 from
        ⟨Kd.C_below H.out.1 hb4, H.out.2.1, H.out.2.2.1.below hb4 H.out.2.2.1.lt, hK3, H.out.2.2.2.2.1.trans (hb4.mono (by have := HG.out; have := H.out.2.2.2.1.lt; omega)), H.out.2.2.2.2.2.1, by rw [hg6]; exact hK3.lt⟩)
      have HI := Lib.hid (show Blk W5 g6 104 .u32 (St5.mk ha hb hc hd he).l ∧ Below g6 w4 W5 ∧ rounds1 (X.drop 0) 0 ⟨ha, hb, hc, hd, he⟩ = S ∧ (St5.mk ha hb hc hd he).ok from ⟨hK6, hB5, hS, H.out.2.2.2.2.2.2⟩)
      have HW5 := Lib.hid hW5
      clear hrd64 hby ho4 hb4 hX hXl hXw hrw hK3 hK6 hB5 hS
      go_wp2_with fail
      rw [← hg6, ← hW5]
      clear hW5 hg6 x0 x1 x2 x3 x4
      go_wp2
      go_loopw [29] (fun v wi => ∃ (t : Nat) (q : St5), v = .int .i64 t ∧ t ≤ 80 ∧ Hid (Blk wi g6 104 .u32 q.l ∧ Below g6 w4 wi ∧ rounds1 (X.drop t) t q = S ∧ q.ok)) (fun v _ => 80 - (intOf v).toNat)
      case atStart => exact ⟨0, _, rfl, by omega, HI⟩
      case round =>
        clear HI
        obtain ⟨t, q, rfl, ht, HI⟩ := hrel
        by_cases ht80 : t < 80
        · have d1 : decide ((t : Int) < 80) = true := decide_eq_true (by omega)
          have d1' : decide (t < 80) = true := decide_eq_true ht80
          obtain ⟨ad, rfl, hcell⟩ := RdW.cells (Kd.C_below HX.out.2.2.2.1 (show Below w4.heap.size w4 wr by rw [HX.out.2.2.2.2.1]; exact HI.out.2.1)) (by omega)
          have hx := hcell t (by omega)
          obtain ⟨x, hxe⟩ : ∃ x, x = rd X (t : Int) := ⟨_, rfl⟩
          rw [← hxe] at hx
          obtain ⟨qa, qb, qc, qd, qe⟩ := q
          have hK6 : Blk wr g6 104 .u32 [qa, qb, qc, qd, qe] := HI.out.1
          have x0 := hK6.cell 0 (Nat.lt_of_sub_eq_succ rfl)
          have x1 := hK6.cell 1 (Nat.lt_of_sub_eq_succ rfl)
          have x2 := hK6.cell 2 (Nat.lt_of_sub_eq_succ rfl)
          have x3 := hK6.cell 3 (Nat.lt_of_sub_eq_succ rfl)
          have x4 := hK6.cell 4 (Nat.lt_of_sub_eq_succ rfl)
          simp only [rd5_0, rd5_1, rd5_2, rd5_3, rd5_4] at x0 x1 x2 x3 x4
          have HXE := Lib.hid hxe
          have hsg : IntKind.u32.signed = false := rfl
          have hno : bits .xor .u32 IntKind.u32.max qb = no qb := no_eq qb (HI.out.2.2.2 qb (by simp [St5.l])).1 (HI.out.2.2.2 qb (by simp [St5.l])).2
          have HQB := Lib.hid (show 0 ≤ qb ∧ qb < 4294967296 from HI.out.2.2.2 qb (by simp [St5.l]))
          clear hxe hcell hK6
          go_upto_block 4 with (fail)
          go_cut [9, 10] (fun f k wc => f = .int .u32 (fk1 t ⟨qa, qb, qc, qd, qe⟩).1 ∧ k = .int .u32 (fk1 t ⟨qa, qb, qc, qd, qe⟩).2 ∧ wc = wr)
          case first =>
            by_cases h60 : 60 ≤ t
            · have d60 : decide (60 ≤ (t : Int)) = true := decide_eq_true (by omega)
              have d60' : decide (60 ≤ t) = true := decide_eq_true h60
              go_wp2
              go_meet
              case rel => exact ⟨by rw [fk1, if_pos h60]; rfl, by rw [fk1, if_pos h60], rfl⟩
            · have d60 : decide (60 ≤ (t : Int)) = false := decide_eq_false (by omega)
              have d60' : decide (60 ≤ t) = false := decide_eq_false h60
              by_cases h40 : 40 ≤ t
              · have d40 : decide (40 ≤ (t : Int)) = true := decide_eq_true (by omega)
                have d40' : decide (40 ≤ t) = true := decide_eq_true h40
                go_wp2
                go_meet
                case rel => exact ⟨by rw [fk1, if_neg h60, if_pos h40]; rfl, by rw [fk1, if_neg h60, if_pos h40], rfl⟩
              · have d40 : decide (40 ≤ (t : Int)) = false := decide_eq_false (by omega)
                have d40' : decide (40 ≤ t) = false := decide_eq_false h40
                by_cases h20 : 20 ≤ t
                · have d20 : decide (20 ≤ (t : Int)) = true := decide_eq_true (by omega)
                  have d20' : decide (20 ≤ t) = true := decide_eq_true h20
                  go_wp2
                  go_meet
                  case rel => exact ⟨by rw [fk1, if_neg h60, if_neg h40, if_pos h20]; rfl, by rw [fk1, if_neg h60, if_neg h40, if_pos h20], rfl⟩
                · have d20 : decide (20 ≤ (t : Int)) = false := decide_eq_false (by omega)
                  have d20' : decide (20 ≤ t) = false := decide_eq_false h20
                  go_wp2
                  go_meet
                  case rel => exact ⟨by rw [fk1, if_neg h60, if_neg h40, if_neg h20]; rfl, by rw [fk1, if_neg h60, if_neg h40, if_neg h20], rfl⟩
          case rest =>
            obtain ⟨rfl, rfl, rfl⟩ := hcut
            obtain ⟨F, hF⟩ : ∃ F, F = (fk1 t ⟨qa, qb, qc, qd, qe⟩).1 := ⟨_, rfl⟩
            obtain ⟨Z, hZ⟩ : ∃ Z, Z = (fk1 t ⟨qa, qb, qc, qd, qe⟩).2 := ⟨_, rfl⟩
            obtain ⟨y1, e1⟩ : ∃ y, ad_ (rotl qa 5) F = y := ⟨_, rfl⟩
            obtain ⟨y2, e2⟩ : ∃ y, ad_ y1 qe = y := ⟨_, rfl⟩
            obtain ⟨y3, e3⟩ : ∃ y, ad_ y2 Z = y := ⟨_, rfl⟩
            obtain ⟨y4, e4⟩ : ∃ y, ad_ y3 x = y := ⟨_, rfl⟩
            have HE := Lib.hid (show round1 ⟨qa, qb, qc, qd, qe⟩ t x = ⟨y4, qa, rotl qb 30, qc, qd⟩ by rw [← e4, ← e3, ← e2, ← e1, hF, hZ]; rfl)
            have wr1 : IntKind.u32.wrap (rotl qa 5 + F) = y1 := by rw [IntKind.wrap_u32]; exact e1
            have wr2 : IntKind.u32.wrap (y1 + qe) = y2 := by rw [IntKind.wrap_u32]; exact e2
            have wr3 : IntKind.u32.wrap (y2 + Z) = y3 := by rw [IntKind.wrap_u32]; exact e3
            have wr4 : IntKind.u32.wrap (y3 + x) = y4 := by rw [IntKind.wrap_u32]; exact e4
            have HQA := Lib.hid (show 0 ≤ qa ∧ qa < 4294967296 from HI.out.2.2.2 qa (by simp [St5.l]))
            rw [← hF, ← hZ]
            have HY4 := Lib.hid e4
            clear e1 e2 e3 e4 hF hZ hno hsg
            go_upto_region 17 with (fail)
            refine wp_region_quiet_tail_at 22 (by kernel_rfl) (by kernel_rfl) (by kernel_rfl) (by kernel_rfl) ?_
            simp only [List.take_succ_cons, List.take_zero, List.drop_succ_cons, List.drop_zero]
            repeat (quiet_step (first | (go_at_call 67; (first | with_reducible refine (rot_calls qa 5 _ HQA.out.1 HQA.out.2 5 (by omega) (by omega)).mono ?_ | with_reducible refine (rot_calls qb 30 _ HQB.out.1 HQB.out.2 30 (by omega) (by omega)).mono ?_); rintro e w' ⟨rfl, ⟨nd, rfl⟩⟩; exact ⟨rfl, _, World.drewN_drewN _ _ _⟩)))
            refine wpQuiet_nil ?_
            intro _ hw'
            obtain ⟨nq, hw''⟩ := hw'
            subst hw''
            have hk6 : Blk (wc.drewN nq) g6 104 .u32 [qa, qb, qc, qd, qe] := HI.out.1
            have hb6 : Below g6 w4 (wc.drewN nq) := below_drewN HI.out.2.1 nq
            generalize wc.drewN nq = W6 at hk6 hb6 ⊢
            clear x0 x1 x2 x3 x4 hx
            obtain ⟨c0, f0⟩ := hk6.both 0 (Nat.lt_of_sub_eq_succ rfl)
            have k0 := hk6.set 0 (Nat.lt_of_sub_eq_succ rfl) y4
            obtain ⟨c1, f1⟩ := k0.both 1 (Nat.lt_of_sub_eq_succ rfl)
            have k1 := k0.set 1 (Nat.lt_of_sub_eq_succ rfl) qa
            obtain ⟨c2, f2⟩ := k1.both 2 (Nat.lt_of_sub_eq_succ rfl)
            have k2 := k1.set 2 (Nat.lt_of_sub_eq_succ rfl) (rotl qb 30)
            obtain ⟨c3, f3⟩ := k2.both 3 (Nat.lt_of_sub_eq_succ rfl)
            have k3 := k2.set 3 (Nat.lt_of_sub_eq_succ rfl) qc
            obtain ⟨c4, f4⟩ := k3.both 4 (Nat.lt_of_sub_eq_succ rfl)
            have k4 := k3.set 4 (Nat.lt_of_sub_eq_succ rfl) qd
            go_wp2
            go_roundw
            case rel =>
              refine ⟨t + 1, ⟨y4, qa, rotl qb 30, qc, qd⟩, by go_num, by omega, Lib.hid ⟨k4, ?_, ?_, ?_⟩⟩
              · exact ((((hb6.setCell (Nat.le_refl _) _).setCell (Nat.le_refl _) _).setCell (Nat.le_refl _) _).setCell (Nat.le_refl _) _).setCell (Nat.le_refl _) _
              · have h1 := rounds1_step X t (by rw [HX.out.1]; exact ht80) ⟨qa, qb, qc, qd, qe⟩
                rw [HI.out.2.2.1, ← HXE.out, HE.out] at h1
                exact h1.symm
              · have hok := HI.out.2.2.2
                intro z hz
                simp only [St5.l, List.mem_cons, List.not_mem_nil, or_false] at hz
                rcases hz with rfl | rfl | rfl | rfl | rfl
                · rw [← HY4.out]; exact ad_range _ _
                · exact hok _ (by simp [St5.l])
                · exact rotl_range qb HQB.out.1 HQB.out.2 30 (by omega)
                · exact hok _ (by simp [St5.l])
                · exact hok _ (by simp [St5.l])
            case measure => simp [intOf]; omega
        · obtain rfl : t = 80 := by omega
          obtain rfl : q = S := by have := HI.out.2.2.1; rw [List.drop_of_length_le (by rw [HX.out.1]; exact Nat.le_refl _)] at this; exact this
          have HJ := Lib.hid (show Blk wr g3 104 .u32 (addUp (St5.mk ha hb hc hd he).l q.l 0) ∧ Blk wr g6 104 .u32 q.l ∧ Below g3 w4 wr ∧ KeepBut w4 wr g3 none from
            ⟨by rw [addUp_zero]; exact HQ.out.2.2.2.1.below HI.out.2.1 HQ.out.2.2.2.2.2.2, HI.out.1, HI.out.2.1.mono (Nat.le_of_lt HQ.out.2.2.2.2.2.2), KeepBut.of_below (by rw [HX.out.2.2.2.2.1]; exact HI.out.2.1) g3 none⟩)
          have HQK := Lib.hid HI.out.2.2.2
          clear HI
          go_wp2
          go_loopw [111] (fun v wi => ∃ i : Nat, v = .int .i64 i ∧ i ≤ 5 ∧ Hid (Blk wi g3 104 .u32 (addUp (St5.mk ha hb hc hd he).l q.l i) ∧ Blk wi g6 104 .u32 q.l ∧ Below g3 w4 wi ∧ KeepBut w4 wi g3 none)) (fun v _ => 5 - (intOf v).toNat)
          case atStart => exact ⟨0, rfl, by omega, HJ⟩
          case round =>
            clear HJ
            obtain ⟨i, rfl, hi, HJ⟩ := hrel
            by_cases hi5 : i < 5
            · have d1 : decide ((i : Int) < 5) = true := decide_eq_true (by omega)
              have d1' : decide (i < 5) = true := decide_eq_true hi5
              have i5 : (i : Int) < 5 := by omega
              have z1 := HJ.out.1.cell i (by rw [addUp5_length]; exact hi5)
              have z2 := HJ.out.2.1.cell i hi5
              rw [addUp5_at _ _ i hi5] at z1
              obtain ⟨z, hz⟩ : ∃ z, z = rd (St5.mk ha hb hc hd he).l (i : Int) := ⟨_, rfl⟩
              obtain ⟨y, hy⟩ : ∃ y, y = rd q.l (i : Int) := ⟨_, rfl⟩
              obtain ⟨s', hs'⟩ : ∃ s', s' = ad z y := ⟨_, rfl⟩
              rw [← hz] at z1
              rw [← hy] at z2
              have wz : IntKind.u32.wrap (z + y) = s' := by rw [IntKind.wrap_u32, hs']; rfl
              have HSE := Lib.hid (show (addUp (St5.mk ha hb hc hd he).l q.l i).set i s' = addUp (St5.mk ha hb hc hd he).l q.l (i + 1) by rw [hs', hz, hy]; exact addUp5_set _ _ i hi5)
              clear hz hy hs'
              go_upto_region 22 with (fail)
              refine wp_region_quiet_tail_at 7 (by kernel_rfl) (by kernel_rfl) (by kernel_rfl) (by kernel_rfl) ?_
              simp only [List.take_succ_cons, List.take_zero, List.drop_succ_cons, List.drop_zero]
              repeat (quiet_step (fail))
              refine wpQuiet_nil ?_
              intro _ hw'
              obtain ⟨nq, hw''⟩ := hw'
              subst hw''
              have hk3 := HJ.out.1.drew nq
              have hk6 := HJ.out.2.1.drew nq
              have hbb := below_drewN HJ.out.2.2.1 nq
              have hkb : KeepBut w4 (wr.drewN nq) g3 none := HJ.out.2.2.2
              generalize wr.drewN nq = W6 at hk3 hk6 hbb hkb ⊢
              have hks := hk3.set i (by rw [addUp5_length]; exact hi5) s'
              rw [HSE.out] at hks
              have hks6 := hk6.far (p := ⟨g3, i, none⟩) (by have := HQ.out.2.2.2.2.2.2; show g6 ≠ g3; omega) (.int .u32 s')
              have HJ2 := Lib.hid (show Blk (W6.setCell ⟨g3, i, none⟩ (.int .u32 s')) g3 104 .u32 (addUp (St5.mk ha hb hc hd he).l q.l (i + 1)) ∧ Blk (W6.setCell ⟨g3, i, none⟩ (.int .u32 s')) g6 104 .u32 q.l ∧ Below g3 w4 (W6.setCell ⟨g3, i, none⟩ (.int .u32 s')) ∧ KeepBut w4 (W6.setCell ⟨g3, i, none⟩ (.int .u32 s')) g3 none from
                ⟨hks, hks6, hbb.setCell (Nat.le_refl _) _, hkb.set_ i _⟩)
              obtain ⟨c3, f3⟩ := hk3.both i (by rw [addUp5_length]; exact hi5)
              clear z1 z2 hks hks6 hbb hkb hk3 hk6
              go_wp2
              refine ⟨⟨_, _, _, _, _, _, _, _, _, _, _, _, _, ?rel, rfl⟩, ?measure⟩
              case rel => exact ⟨i + 1, by go_num, by omega, HJ2⟩
              case measure => simp [intOf]; omega
            · obtain rfl : i = 5 := by omega
              have HB1 := Lib.hid (show block1 ⟨ha, hb, hc, hd, he⟩ ((P.drop (64 * k)).take 64) = ⟨ad ha q.a, ad hb q.b, ad hc q.c, ad hd q.d, ad he q.e⟩ by
                unfold block1
                rw [← HX.out.2.2.1, HX.out.2.2.2.2.2])
              obtain ⟨k', hk'⟩ : ∃ k', K - k = k' + 1 := ⟨K - k - 1, by have := HP.out.2.2.1; omega⟩
              have hT2 : blocks1 k' (block1 ⟨ha, hb, hc, hd, he⟩ ((P.drop (64 * k)).take 64)) (P.drop (64 * (k + 1))) = T := by
                have := HQ.out.2.2.2.2.2.1
                rw [hk', blocks1, List.drop_drop] at this
                exact this
              rw [HB1.out] at hT2
              have hkb := HJ.out.2.2.2
              have hr7 : Rd wr A m (P.drop (64 * k)) := Kd.C_keep (d := (0 : Int)) HQ.out.1 hkb (fun ad h _ => HQ.out.2.1 ad h)
              have hz7 := HQ.out.2.2.1.below HJ.out.2.2.1 (by have := HG.out; omega)
              have hh7 := HJ.out.1
              rw [addUp5_all] at hh7
              have hb7 : Below g2 w wr := HQ.out.2.2.2.2.1.trans (HJ.out.2.2.1.mono (by have := HG.out; omega))
              have hok7 : (St5.mk (ad ha q.a) (ad hb q.b) (ad hc q.c) (ad hd q.d) (ad he q.e)).ok := by
                intro z hz
                simp only [St5.l, List.mem_cons, List.not_mem_nil, or_false] at hz
                rcases hz with rfl | rfl | rfl | rfl | rfl <;> exact ad_range _ _
              have hkK : K - (k + 1) = k' := by omega
              obtain ⟨ad, rfl, _⟩ := Rd.cells hr7 hm0
              have hl : (P.drop (64 * k)).length = m := Kd.C_len hr7
              have hdr : Rd wr (if c = 64 then some ad else some (ad.add 64)) (m - 64) (P.drop (64 * (k + 1))) := by
                have h1 := hr7
                rw [← hl] at h1
                have := Kd.C_drop (k := Kd.int .u8) (m := 64) (c := c) h1 (by omega) (by omega)
                rw [show 64 * (Kd.int .u8).sz = 64 from rfl, List.length_drop, hl, List.drop_drop] at this
                exact this
              have hadd : (ad.add 64).block = ad.block := by unfold Addr.add; split <;> rfl
              have hne := HQ.out.2.1 ad rfl
              by_cases hc64 : c = 64
              · subst hc64
                obtain rfl : m = 64 := by omega
                rw [if_pos rfl] at hdr
                have HF := Lib.hid (show Rd wr (some ad) 0 (P.drop (64 * (k + 1))) ∧ (∀ ad', some ad = some ad' → ad'.block ≠ g3) ∧ Blk wr g2 91 .u8 (List.replicate 20 0) ∧ Blk wr g3 104 .u32 (St5.mk (ad_ ha q.a) (ad_ hb q.b) (ad_ hc q.c) (ad_ hd q.d) (ad_ he q.e)).l ∧ Below g2 w wr ∧ blocks1 (K - (k + 1)) (St5.mk (ad_ ha q.a) (ad_ hb q.b) (ad_ hc q.c) (ad_ hd q.d) (ad_ he q.e)) (P.drop (64 * (k + 1))) = T ∧ (St5.mk (ad_ ha q.a) (ad_ hb q.b) (ad_ hc q.c) (ad_ hd q.d) (ad_ he q.e)).ok from
                  ⟨hdr, (fun ad' e => by cases e; exact hne), hz7, hh7, hb7, by rw [hkK]; exact hT2, hok7⟩)
                clear hdr hz7 hh7 hb7 hT2 hok7 hkb hr7 hl hadd hne hkK hk' HJ
                go_wp2
                go_roundw
                case rel => exact ⟨k + 1, some ad, 0, 0, _, by omega, by first | rfl | go_num, by omega, HF⟩
                case measure => simp [slenB]
              · rw [if_neg hc64] at hdr
                have HF := Lib.hid (show Rd wr (some (ad.add 64)) (m - 64) (P.drop (64 * (k + 1))) ∧ (∀ ad', some (ad.add 64) = some ad' → ad'.block ≠ g3) ∧ Blk wr g2 91 .u8 (List.replicate 20 0) ∧ Blk wr g3 104 .u32 (St5.mk (ad_ ha q.a) (ad_ hb q.b) (ad_ hc q.c) (ad_ hd q.d) (ad_ he q.e)).l ∧ Below g2 w wr ∧ blocks1 (K - (k + 1)) (St5.mk (ad_ ha q.a) (ad_ hb q.b) (ad_ hc q.c) (ad_ hd q.d) (ad_ he q.e)) (P.drop (64 * (k + 1))) = T ∧ (St5.mk (ad_ ha q.a) (ad_ hb q.b) (ad_ hc q.c) (ad_ hd q.d) (ad_ he q.e)).ok from
                  ⟨hdr, (fun ad' e => by cases e; rw [hadd]; exact hne), hz7, hh7, hb7, by rw [hkK]; exact hT2, hok7⟩)
                have g1 : (64 : Int) ≤ m := by omega
                have g2' : (m : Int) ≤ c := by omega
                have g3' : (64 : Int) ≤ c := by omega
                clear hdr hz7 hh7 hb7 hT2 hok7 hkb hr7 hl hadd hne hkK hk' HJ
                go_wp2
                go_roundw
                case rel => exact ⟨k + 1, some (ad.add 64), m - 64, c - 64, _, by omega, by first | rfl | go_num, by omega, HF⟩
                case measure => simp [slenB]; omega
    · obtain rfl : m = 0 := by omega
      have hT0 : h = T := by
        have := H.out.2.2.2.2.2.1
        rw [show K - k = 0 by have := HP.out.2.2.1; omega] at this
        exact this
      subst hT0
      obtain ⟨ha, hb, hc, hd, he⟩ := h
      obtain ⟨g12, hg12⟩ : ∃ g12, g12 = wr.heap.size := ⟨_, rfl⟩
      obtain ⟨W8, hW8⟩ : ∃ W8, W8 = wr.alloc (.cells #[.int .u8 0, .int .u8 0, .int .u8 0, .int .u8 0, .int .u8 0, .int .u8 0, .int .u8 0, .int .u8 0, .int .u8 0, .int .u8 0, .int .u8 0, .int .u8 0, .int .u8 0, .int .u8 0, .int .u8 0, .int .u8 0, .int .u8 0, .int .u8 0, .int .u8 0, .int .u8 0] 91) := ⟨_, rfl⟩
      have hB8 : Below g12 wr W8 := by rw [hW8, hg12]; exact below_alloc (Below.refl _ _) _
      have hK12 : Blk W8 g12 91 .u8 (outB (St5.mk ha hb hc hd he).l 0) := by rw [hW8, hg12]; exact Blk.new wr 91 .u8 (List.replicate 20 0)
      have hK2 : Blk W8 g2 91 .u8 (List.replicate 20 0) := H.out.2.2.1.below hB8 (by rw [hg12]; exact H.out.2.2.1.lt)
      have hK3 : Blk W8 g3 104 .u32 [ha, hb, hc, hd, he] := H.out.2.2.2.1.below hB8 (by rw [hg12]; exact H.out.2.2.2.1.lt)
      have hB2 : Below g2 w W8 := H.out.2.2.2.2.1.trans (hB8.mono (by have := H.out.2.2.1.lt; omega))
      have HN := Lib.hid (show g2 < g12 ∧ (St5.mk ha hb hc hd he).ok from ⟨by rw [hg12]; exact H.out.2.2.1.lt, H.out.2.2.2.2.2.2⟩)
      have HO := Lib.hid (show Blk W8 g12 91 .u8 (outB (St5.mk ha hb hc hd he).l 0) ∧ Blk W8 g2 91 .u8 (List.replicate 20 0) ∧ Below g2 w W8 from ⟨hK12, hK2, hB2⟩)
      have HK3 := Lib.hid (show Blk W8 g3 104 .u32 (St5.mk ha hb hc hd he).l from hK3)
      clear hB8 hK12 hK2 hK3 hB2
      go_upto_region 25 with (fail)
      rw [← hg12, ← hW8]
      clear hg12 hW8 H
      go_wp2_with (refine gate_ (.load 104 (.tmp 3)) rfl ?_; refine load_blk rfl rfl rfl HK3.out (by kernel_rfl) (by kernel_rfl) ?_)
      go_loopw [124] (fun v wi => ∃ i : Nat, v = .int .i64 i ∧ i ≤ 5 ∧ Hid (Blk wi g12 91 .u8 (outB (St5.mk ha hb hc hd he).l i) ∧ Blk wi g2 91 .u8 (List.replicate 20 0) ∧ Below g2 w wi)) (fun v _ => 5 - (intOf v).toNat)
      case atStart => exact ⟨0, rfl, by omega, HO⟩
      case round =>
        clear HO
        obtain ⟨i, rfl, hi, HO⟩ := hrel
        by_cases hi5 : i < 5
        · have d1 : decide ((i : Int) < 5) = true := decide_eq_true (by omega)
          have d1' : decide (i < 5) = true := decide_eq_true hi5
          have i5 : (i : Int) < 5 := by omega
          have hidx := index_blk (w := wr) (T := 104) (E := 103) (k := .u32) (l := (St5.mk ha hb hc hd he).l) (i := i) Tryd.underlying104 (by kernel_rfl) (by kernel_rfl) hi5
          obtain ⟨x, hx⟩ : ∃ x, x = rd (St5.mk ha hb hc hd he).l (i : Int) := ⟨_, rfl⟩
          have hxr : 0 ≤ x ∧ x < 4294967296 := by rw [hx]; exact HN.out.2.rd i hi5
          have hst := outB_step (St5.mk ha hb hc hd he).l i hi5
          rw [← hx] at hidx hst
          obtain ⟨q, hq⟩ : ∃ q, q = 4 * i := ⟨_, rfl⟩
          rw [← hq] at hst
          have hq4 : (4 : Int) * i = q := by omega
          have q20 : (q : Int) ≤ 20 := by omega
          have wq : IntKind.i64.wrap (q : Int) = q := by rw [IntKind.wrap_i64]; omega
          have HX := Lib.hid (show (0 ≤ x ∧ x < 4294967296) ∧ q + 4 ≤ 20 ∧ (outB (St5.mk ha hb hc hd he).l i).length = 20 ∧ (outB (St5.mk ha hb hc hd he).l i).take q ++ be4 x ++ (outB (St5.mk ha hb hc hd he).l i).drop (q + (be4 x).length) = outB (St5.mk ha hb hc hd he).l (i + 1) from ⟨hxr, by omega, outB_length _ _ hi, hst⟩)
          clear hx hxr hst hq
          go_upto_block 8 with (fail)
          go_cut [] (fun wc => Hid (Blk wc g12 91 .u8 (outB (St5.mk ha hb hc hd he).l (i + 1)) ∧ Blk wc g2 91 .u8 (List.replicate 20 0) ∧ Below g2 w wc))
          case first =>
            go_upto_region 28 with (fail)
            clear hidx
            go_region_with (go_at_call 68; refine (laid_calls x _ _ _ [] (Own.nil _ _) (Below.refl _ _) (by decide) HX.out.1.1 HX.out.1.2).mono ?_; rintro e w1 ⟨v1, rfl, ho1, hb1⟩; obtain ⟨A1, c1', hv1, hc1', hr1⟩ := ho1.reads; replace hv1 : v1 = .slice A1 4 c1' := hv1; replace hr1 : Rd w1 A1 4 (be4 x) := hr1; subst hv1; have hbw := below_drew (Below.refl wr.heap.size wr); have hk12 := (HO.out.1.below hbw HO.out.1.lt).below hb1 (HO.out.1.below hbw HO.out.1.lt).lt; have hk2 := (HO.out.2.1.below hbw HO.out.2.1.lt).below hb1 (HO.out.2.1.below hbw HO.out.2.1.lt).lt; obtain ⟨a1, rfl, _⟩ := Rd.cells hr1 (by decide); have hcp := fun dl dc ty (hd : 4 ≤ dl) => hk12.copy (off := q) (dLen := dl) (dCap := dc) (ty := ty) (c := c1') hr1 (by rw [HX.out.2.2.1]; exact HX.out.2.1) hd; have hcp1 := (hcp (20 - q) (20 - q) 3 (by have := HX.out.2.1; omega)).1; have HC2 := Lib.hid (hcp (20 - q) (20 - q) 3 (by have := HX.out.2.1; omega)).2; have HK2 := Lib.hid hk2; have HB2 := Lib.hid ((HO.out.2.2.trans (Below.mono hbw (by have := HO.out.2.1.lt; omega))).trans (Below.mono hb1 (by have := HO.out.2.1.lt; have := hbw.size; omega))); clear hcp hk12 hk2 hb1 ho1 hr1 hbw)
            all_goals
              go_wp2
              go_meet
              case rel => exact Lib.hid ⟨by have := HC2.out; rwa [HX.out.2.2.2] at this, HK2.out.farCells (by have := HN.out.1; omega) _, Below.setCells_ HB2.out (by have := HN.out.1; omega) _⟩
          case rest =>
            go_wp2
            go_roundw
            case rel => exact ⟨i + 1, by go_num, by omega, hcut⟩
            case measure => simp [intOf]; omega
        · obtain rfl : i = 5 := by omega
          have hz : (St5.mk ha hb hc hd he).l.length = 5 := rfl
          go_wp2_with (first | (refine gate_ (.load 91 (.tmp 12)) rfl ?_; refine load_blk rfl rfl rfl HO.out.1 (by kernel_rfl) (by rw [outB_length _ _ (by rw [hz]; exact Nat.le_refl _), hz]; kernel_rfl) ?_) | (refine gate_ (.store 91 (.tmp 2) (.tmp 135)) rfl ?_; refine store_blk rfl rfl rfl rfl rfl HO.out.2.1 (by rw [outB_length _ _ (by rw [hz]; exact Nat.le_refl _), hz]; rfl) (by rw [outB_length _ _ (by rw [hz]; exact Nat.le_refl _), hz]; kernel_rfl) ?_; intro w9 hk9 hb9))
          refine bodyPost_ret (results_blk rfl rfl hk9 (by kernel_rfl) (by rw [outB_length _ _ (by rw [hz]; exact Nat.le_refl _), hz]; kernel_rfl)) rfl ?_
          refine ⟨?_, hb9 _ _ (HW.out ▸ HO.out.2.2) (by rw [HW.out]; exact Nat.le_refl _)⟩
          have hsha : sha1 l0 = outB (St5.mk ha hb hc hd he).l 5 := by
            have e1 : sha1 l0 = (blocks1 ((padSha l0).length / 64) init1 (padSha l0)).l.flatMap be4 := by
              unfold sha1 init1
              simp [St5.l]
            rw [e1, ← HP.out.2.2.2.1, ← HP.out.2.1, HP.out.2.2.1, Nat.mul_div_cancel_left _ (by decide : 0 < 64), HP.out.2.2.2.2]
            exact (outB_all (St5.mk ha hb hc hd he).l).symm
          rw [hsha]
end Go.Proofs.YtcfbfmgckaehdaaDoor
