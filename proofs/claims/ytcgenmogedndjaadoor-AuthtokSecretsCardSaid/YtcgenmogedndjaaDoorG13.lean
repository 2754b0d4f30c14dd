/- The texts AuthCheck, AuthName in one. -/
import Derived.Test.YtcgenmogedndjaaDoorG03
import Derived.Test.YtcgenmogedndjaaDoorG12
namespace Go.Proofs.YtcgenmogedndjaaDoor
open Go.RowKit Go.Proofs.YtcgenmogedndjaaDoorW.PrintWords
theorem checkE_bad {L : List Sec} (h : 1 ≤ L.length ∧ L.length ≤ 8) (h2 : rise (-1) L = false) : checkE L = 102 := by
  unfold checkE
  rw [checkB_eq h, h2]
  rfl
theorem checkE_ok {L : List Sec} (h : 1 ≤ L.length ∧ L.length ≤ 8) (h2 : rise (-1) L = true) : checkE L = 0 := by
  unfold checkE
  rw [checkB_eq h, h2]
  rfl
theorem rise_bad {L : List Sec} {k : Nat} {last : Int} (h : k < L.length) (h2 : (L.getD k Sec.none).id ≤ last ∨ 1099511627776 < (L.getD k Sec.none).id ∨ (L.getD k Sec.none).key.length < 16 ∨ 64 < (L.getD k Sec.none).key.length) : rise last (L.drop k) = false := by
  rw [rise_step L k h, decide_eq_false (by omega), Bool.false_and]
theorem rise_good {L : List Sec} {k : Nat} {last : Int} (h : k < L.length) (h2 : ¬ ((L.getD k Sec.none).id ≤ last ∨ 1099511627776 < (L.getD k Sec.none).id ∨ (L.getD k Sec.none).key.length < 16 ∨ 64 < (L.getD k Sec.none).key.length)) : rise last (L.drop k) = rise (L.getD k Sec.none).id (L.drop (k + 1)) := by
  rw [rise_step L k h, decide_eq_true (by omega), Bool.true_and]
set_option maxHeartbeats 1600000 in
theorem Check_calls {n : Nat} (A0 : Option Addr) (c0 : Nat) (L : List Sec) (w : World) (hr0 : RdS w A0 n L) :
    Calls Tryd.prog 15 #[.slice A0 n c0] w fun e w' => e = .returned (.int .i64 (checkE L)) ∧ Below w.heap.size w w' := by
  have hlen : L.length = n := Kd.C_len hr0
  have hmax := Kd.C_max hr0
  obtain ⟨R, hR⟩ : ∃ R, R = checkE L := ⟨_, rfl⟩
  rw [← hR]
  have HRR := Lib.hid hR
  have HR := Lib.hid hr0
  have HL := Lib.hid hlen
  clear hR hr0
  by_cases h0 : n = 0
  · have HE := Lib.hid (show R = 102 by rw [HRR.out]; exact checkB_long (by omega))
    subst h0
    clear hlen
    go_enter Tryd.func15, Tryd.ntmps15
    go_wp2
    go_ret
    exact ⟨by rw [HE.out]; rfl, Below.refl _ _⟩
  by_cases h8 : 8 < n
  · have HE := Lib.hid (show R = 102 by rw [HRR.out]; exact checkB_long (by omega))
    have d0 : ((n : Int) == 0) = false := beq_eq_false_iff_ne.2 (by omega)
    have d8 : decide (8 < (n : Int)) = true := decide_eq_true (by omega)
    have d8' : decide (8 < n) = true := decide_eq_true (by omega)
    clear hlen h0 h8
    go_enter Tryd.func15, Tryd.ntmps15
    go_wp2
    go_ret
    exact ⟨by rw [HE.out]; rfl, Below.refl _ _⟩
  have d0 : ((n : Int) == 0) = false := beq_eq_false_iff_ne.2 (by omega)
  have d8 : decide (8 < (n : Int)) = false := decide_eq_false (by omega)
  have d8' : decide (8 < n) = false := decide_eq_false (by omega)
  have HN := Lib.hid (show 1 ≤ L.length ∧ L.length ≤ 8 by omega)
  have hn8 : n ≤ 8 := by omega
  have hn1 : 1 ≤ n := by omega
  clear h0 h8 hlen hmax
  go_enter Tryd.func15, Tryd.ntmps15
  go_wp2
  clear d0 d8 d8'
  go_loopw [3, 16] (fun l i wr => ∃ (k : Nat) (last : Int), i = .int .i64 k ∧ l = .int .i64 last ∧ k ≤ n ∧ Hid (rise last (L.drop k) = rise (-1) L) ∧ Hid (Below w.heap.size w wr)) (fun _ i _ => n - (intOf i).toNat)
  case atStart => exact ⟨0, -1, rfl, rfl, by omega, Lib.hid rfl, Lib.hid (Below.refl _ _)⟩
  case round =>
    obtain ⟨k, last, rfl, rfl, hk, HS, HB⟩ := hrel
    by_cases hkn : k < n
    · have dkn : decide ((k : Int) < n) = true := decide_eq_true (by omega)
      have ikn : (k : Int) < n := by omega
      obtain ⟨ad, Ai, ci, rfl, x0, x1, hci, hrd⟩ := RdS.at (Kd.C_below HR.out HB.out) k hkn
      have HBAD := Lib.hid (fun h => rise_bad (L := L) (k := k) (last := last) (by rw [HL.out]; exact hkn) h)
      have HGOOD := Lib.hid (fun h => rise_good (L := L) (k := k) (last := last) (by rw [HL.out]; exact hkn) h)
      obtain ⟨sid, hsid⟩ : ∃ sid, sid = (L.getD k Sec.none).id := ⟨_, rfl⟩
      obtain ⟨sk, hsk⟩ : ∃ sk, sk = (L.getD k Sec.none).key := ⟨_, rfl⟩
      rw [← hsid, ← hsk] at HBAD HGOOD
      rw [← hsid] at x0
      rw [← hsk] at x1
      clear hsid hsk hci hrd
      obtain ⟨kl, hkl⟩ : ∃ kl, kl = sk.length := ⟨_, rfl⟩
      rw [← hkl] at HBAD HGOOD x1
      clear hkl sk
      by_cases c1 : sid ≤ last
      · have c1d : decide (sid ≤ last) = true := decide_eq_true (by omega)
        have HE := Lib.hid (show R = 102 by rw [HRR.out]; exact checkE_bad HN.out (by rw [← HS.out]; exact HBAD.out (by omega)))
        clear c1
        go_wp2
        go_ret
        exact ⟨by rw [HE.out]; rfl, below_alloc HB.out _⟩
      have c1d : decide (sid ≤ last) = false := decide_eq_false (by omega)
      by_cases c2 : 1099511627776 < sid
      · have c2d : decide (1099511627776 < sid) = true := decide_eq_true (by omega)
        have HE := Lib.hid (show R = 102 by rw [HRR.out]; exact checkE_bad HN.out (by rw [← HS.out]; exact HBAD.out (by omega)))
        clear c2 c1
        go_wp2
        go_ret
        exact ⟨by rw [HE.out]; rfl, below_alloc HB.out _⟩
      have c2d : decide (1099511627776 < sid) = false := decide_eq_false (by omega)
      by_cases c3 : kl < 16
      · have c3d : decide ((kl : Int) < 16) = true := decide_eq_true (by omega)
        have c3e : decide (kl < 16) = true := decide_eq_true (by omega)
        have HE := Lib.hid (show R = 102 by rw [HRR.out]; exact checkE_bad HN.out (by rw [← HS.out]; exact HBAD.out (by omega)))
        clear c3 c1 c2
        go_wp2
        go_ret
        exact ⟨by rw [HE.out]; rfl, below_alloc HB.out _⟩
      have c3d : decide ((kl : Int) < 16) = false := decide_eq_false (by omega)
      have c3e : decide (kl < 16) = false := decide_eq_false (by omega)
      by_cases c4 : 64 < kl
      · have c4d : decide (64 < (kl : Int)) = true := decide_eq_true (by omega)
        have c4e : decide (64 < kl) = true := decide_eq_true (by omega)
        have HE := Lib.hid (show R = 102 by rw [HRR.out]; exact checkE_bad HN.out (by rw [← HS.out]; exact HBAD.out (by omega)))
        clear c4 c1 c2 c3
        go_wp2
        go_ret
        exact ⟨by rw [HE.out]; rfl, below_alloc HB.out _⟩
      have c4d : decide (64 < (kl : Int)) = false := decide_eq_false (by omega)
      have c4e : decide (64 < kl) = false := decide_eq_false (by omega)
      have HS2 := Lib.hid (show rise sid (L.drop (k + 1)) = rise (-1) L by rw [← HS.out, HGOOD.out (by omega)])
      clear c1 c2 c3 c4
      have HB2 := Lib.hid (below_alloc HB.out (.cells #[.int .i64 sid, .slice Ai kl ci] 42))
      go_wp2
      go_roundw
      case rel => exact ⟨k + 1, sid, by go_num, rfl, by omega, HS2, HB2⟩
      case measure => simp [intOf]; omega
    · obtain rfl : k = n := by omega
      have dkn : decide ((k : Int) < k) = false := decide_eq_false (by omega)
      have HE := Lib.hid (show R = 0 by rw [HRR.out]; exact checkE_ok HN.out (by rw [← HS.out, List.drop_of_length_le (by rw [HL.out]; exact Nat.le_refl _)]; rfl))
      go_wp2
      go_ret
      exact ⟨by rw [HE.out]; rfl, HB.out⟩
end Go.Proofs.YtcgenmogedndjaaDoor
namespace Go.Proofs.YtcgenmogedndjaaDoor
open Go.RowKit Go.Proofs.YtcgenmogedndjaaDoorW.PrintWords
theorem nameCh_iff (x : Int) : nameCh x = true ↔ (x = 46 ∨ x = 45 ∨ x = 95 ∨ (48 ≤ x ∧ x ≤ 57) ∨ (97 ≤ x ∧ x ≤ 122) ∨ (65 ≤ x ∧ x ≤ 90)) := by
  unfold nameCh
  rw [decide_eq_true_eq]
theorem nameB_yes {s : ByteArray} (h : ∀ k, k < s.size → nameCh (rd (bytesOf s) (k : Nat)) = true) (h1 : 1 ≤ s.size) (h2 : s.size ≤ 24) : nameB s = true := by
  rw [nameB_all h, decide_eq_true_eq]
  exact ⟨h1, h2⟩
theorem nameB_no {s : ByteArray} (h : s.size < 1 ∨ 24 < s.size) : nameB s = false := by
  unfold nameB
  rw [Bool.and_eq_false_iff, decide_eq_false_iff_not]
  right
  omega
set_option maxHeartbeats 1600000 in
theorem Name_calls (s : ByteArray) (w : World) (hs : s.size ≤ 35184372088832) :
    Calls Tryd.prog 20 #[.string s] w fun e w' => e = .returned (.bool (nameB s)) ∧ Below w.heap.size w w' := by
  obtain ⟨R, hR⟩ : ∃ R, R = nameB s := ⟨_, rfl⟩
  rw [← hR]
  have HRR := Lib.hid hR
  have HY := Lib.hid (Bytes_bytesOf s)
  have HL := Lib.hid (bytesOf_length s)
  clear hR
  have kb := fun W => print_bytes (P := Tryd.prog) 9 34 5 Tryd.underlying9 Tryd.underlying34 Tryd.underlying5 s W
  go_enter Tryd.func20, Tryd.ntmps20
  go_wp2
  have hr0 := str_reads w s (by omega)
  have hb0 : Below w.heap.size w (Lib.bytesWorld w 5 s) := bytes_below (Below.refl _ _) (Nat.le_refl _) _ _
  obtain ⟨c0, hc0⟩ : ∃ c0, c0 = grownCap w s.size 0 5 := ⟨_, rfl⟩
  rw [← hc0]
  obtain ⟨w0, hw0⟩ : ∃ w0, w0 = Lib.bytesWorld w 5 s := ⟨_, rfl⟩
  rw [← hw0] at hr0 hb0 ⊢
  have HR := Lib.hid hr0
  have HB0 := Lib.hid hb0
  obtain ⟨ad, had⟩ : ∃ ad : Addr, ad = ⟨w.heap.size, 0, none⟩ := ⟨_, rfl⟩
  rw [← had] at HR ⊢
  clear hc0 hr0 hb0 kb had hw0
  go_loop [8] (fun i => ∃ k : Nat, i = .int .i64 k ∧ k ≤ s.size ∧ Hid (∀ j, j < k → nameCh (rd (bytesOf s) (j : Nat)) = true)) (fun i => s.size - (intOf i).toNat)
  case atStart => exact ⟨0, rfl, by omega, Lib.hid (fun j hj => by omega)⟩
  case round =>
    obtain ⟨k, rfl, hk, HA⟩ := hrel
    by_cases hkn : k < s.size
    · have dkn : decide ((k : Int) < s.size) = true := decide_eq_true (by omega)
      obtain ⟨x, hx⟩ : ∃ x, x = rd (bytesOf s) k := ⟨_, rfl⟩
      obtain ⟨x0, x1⟩ := bytes_rd HY.out k (by rw [HL.out]; exact hkn)
      rw [← hx] at x0 x1
      obtain ⟨ad', e, hcell⟩ := Rd.cells HR.out (by omega)
      cases e
      have hxc := hcell k hkn
      rw [← hx] at hxc
      have HX := Lib.hid hx
      clear hcell hx
      by_cases hch : nameCh x = true
      · have HA2 := Lib.hid (show ∀ j, j < k + 1 → nameCh (rd (bytesOf s) (j : Nat)) = true from fun j hj => by
          rcases Nat.lt_or_ge j k with h | h
          · exact HA.out j h
          · obtain rfl : j = k := by omega
            rw [← HX.out]; exact hch)
        rcases (nameCh_iff x).1 hch with h | h | h | h | h | h
        · clear hch
          subst h
          go_wp2
          go_round
          case rel => exact ⟨k + 1, by go_num, by omega, HA2⟩
          case measure => simp [intOf]; omega
        · clear hch
          subst h
          go_wp2
          go_round
          case rel => exact ⟨k + 1, by go_num, by omega, HA2⟩
          case measure => simp [intOf]; omega
        · clear hch
          subst h
          go_wp2
          go_round
          case rel => exact ⟨k + 1, by go_num, by omega, HA2⟩
          case measure => simp [intOf]; omega
        · clear hch
          obtain ⟨l0, l1⟩ := h
          have f0 : decide (x < 48) = false := decide_eq_false (by omega)
          have f1 : decide (x < 97) = true := decide_eq_true (by omega)
          have f2 : decide (x < 65) = true := decide_eq_true (by omega)
          have f3 : decide (57 < x) = false := decide_eq_false (by omega)
          have f4 : decide (122 < x) = false := decide_eq_false (by omega)
          have f5 : decide (90 < x) = false := decide_eq_false (by omega)
          have f6 : (x == 46) = false := beq_eq_false_iff_ne.2 (by omega)
          have f7 : (x != 46) = true := bne_iff_ne.2 (by omega)
          have f8 : (x == 45) = false := beq_eq_false_iff_ne.2 (by omega)
          have f9 : (x != 45) = true := bne_iff_ne.2 (by omega)
          have f10 : (x == 95) = false := beq_eq_false_iff_ne.2 (by omega)
          have f11 : (x != 95) = true := bne_iff_ne.2 (by omega)
          clear l0 l1
          go_wp2
          go_round
          case rel => exact ⟨k + 1, by go_num, by omega, HA2⟩
          case measure => simp [intOf]; omega
        · clear hch
          obtain ⟨l0, l1⟩ := h
          have f0 : decide (x < 48) = false := decide_eq_false (by omega)
          have f1 : decide (x < 97) = false := decide_eq_false (by omega)
          have f2 : decide (x < 65) = false := decide_eq_false (by omega)
          have f3 : decide (57 < x) = true := decide_eq_true (by omega)
          have f4 : decide (122 < x) = false := decide_eq_false (by omega)
          have f5 : decide (90 < x) = true := decide_eq_true (by omega)
          have f6 : (x == 46) = false := beq_eq_false_iff_ne.2 (by omega)
          have f7 : (x != 46) = true := bne_iff_ne.2 (by omega)
          have f8 : (x == 45) = false := beq_eq_false_iff_ne.2 (by omega)
          have f9 : (x != 45) = true := bne_iff_ne.2 (by omega)
          have f10 : (x == 95) = false := beq_eq_false_iff_ne.2 (by omega)
          have f11 : (x != 95) = true := bne_iff_ne.2 (by omega)
          clear l0 l1
          go_wp2
          go_round
          case rel => exact ⟨k + 1, by go_num, by omega, HA2⟩
          case measure => simp [intOf]; omega
        · clear hch
          obtain ⟨l0, l1⟩ := h
          have f0 : decide (x < 48) = false := decide_eq_false (by omega)
          have f1 : decide (x < 97) = true := decide_eq_true (by omega)
          have f2 : decide (x < 65) = false := decide_eq_false (by omega)
          have f3 : decide (57 < x) = true := decide_eq_true (by omega)
          have f4 : decide (122 < x) = false := decide_eq_false (by omega)
          have f5 : decide (90 < x) = false := decide_eq_false (by omega)
          have f6 : (x == 46) = false := beq_eq_false_iff_ne.2 (by omega)
          have f7 : (x != 46) = true := bne_iff_ne.2 (by omega)
          have f8 : (x == 45) = false := beq_eq_false_iff_ne.2 (by omega)
          have f9 : (x != 45) = true := bne_iff_ne.2 (by omega)
          have f10 : (x == 95) = false := beq_eq_false_iff_ne.2 (by omega)
          have f11 : (x != 95) = true := bne_iff_ne.2 (by omega)
          clear l0 l1
          go_wp2
          go_round
          case rel => exact ⟨k + 1, by go_num, by omega, HA2⟩
          case measure => simp [intOf]; omega
      · have hno := mt (nameCh_iff x).2 hch
        have HE := Lib.hid (show R = false by rw [HRR.out]; exact nameB_bad k hkn (by rw [← HX.out]; exact Bool.eq_false_iff.2 hch))
        have hr : x ≤ 44 ∨ x = 47 ∨ (58 ≤ x ∧ x ≤ 64) ∨ (91 ≤ x ∧ x ≤ 94) ∨ x = 96 ∨ 123 ≤ x := by omega
        clear hch hno
        rcases hr with h | h | h | h | h | h
        · have f0 : decide (x < 48) = true := decide_eq_true (by omega)
          have f1 : decide (x < 97) = true := decide_eq_true (by omega)
          have f2 : decide (x < 65) = true := decide_eq_true (by omega)
          have f3 : decide (57 < x) = false := decide_eq_false (by omega)
          have f4 : decide (122 < x) = false := decide_eq_false (by omega)
          have f5 : decide (90 < x) = false := decide_eq_false (by omega)
          have f6 : (x == 46) = false := beq_eq_false_iff_ne.2 (by omega)
          have f7 : (x != 46) = true := bne_iff_ne.2 (by omega)
          have f8 : (x == 45) = false := beq_eq_false_iff_ne.2 (by omega)
          have f9 : (x != 45) = true := bne_iff_ne.2 (by omega)
          have f10 : (x == 95) = false := beq_eq_false_iff_ne.2 (by omega)
          have f11 : (x != 95) = true := bne_iff_ne.2 (by omega)
          clear h
          go_wp2
          go_ret
          exact ⟨by rw [HE.out]; rfl, HB0.out⟩
        · subst h
          go_wp2
          go_ret
          exact ⟨by rw [HE.out]; rfl, HB0.out⟩
        · have f0 : decide (x < 48) = false := decide_eq_false (by omega)
          have f1 : decide (x < 97) = true := decide_eq_true (by omega)
          have f2 : decide (x < 65) = true := decide_eq_true (by omega)
          have f3 : decide (57 < x) = true := decide_eq_true (by omega)
          have f4 : decide (122 < x) = false := decide_eq_false (by omega)
          have f5 : decide (90 < x) = false := decide_eq_false (by omega)
          have f6 : (x == 46) = false := beq_eq_false_iff_ne.2 (by omega)
          have f7 : (x != 46) = true := bne_iff_ne.2 (by omega)
          have f8 : (x == 45) = false := beq_eq_false_iff_ne.2 (by omega)
          have f9 : (x != 45) = true := bne_iff_ne.2 (by omega)
          have f10 : (x == 95) = false := beq_eq_false_iff_ne.2 (by omega)
          have f11 : (x != 95) = true := bne_iff_ne.2 (by omega)
          clear h
          go_wp2
          go_ret
          exact ⟨by rw [HE.out]; rfl, HB0.out⟩
        · have f0 : decide (x < 48) = false := decide_eq_false (by omega)
          have f1 : decide (x < 97) = true := decide_eq_true (by omega)
          have f2 : decide (x < 65) = false := decide_eq_false (by omega)
          have f3 : decide (57 < x) = true := decide_eq_true (by omega)
          have f4 : decide (122 < x) = false := decide_eq_false (by omega)
          have f5 : decide (90 < x) = true := decide_eq_true (by omega)
          have f6 : (x == 46) = false := beq_eq_false_iff_ne.2 (by omega)
          have f7 : (x != 46) = true := bne_iff_ne.2 (by omega)
          have f8 : (x == 45) = false := beq_eq_false_iff_ne.2 (by omega)
          have f9 : (x != 45) = true := bne_iff_ne.2 (by omega)
          have f10 : (x == 95) = false := beq_eq_false_iff_ne.2 (by omega)
          have f11 : (x != 95) = true := bne_iff_ne.2 (by omega)
          clear h
          go_wp2
          go_ret
          exact ⟨by rw [HE.out]; rfl, HB0.out⟩
        · subst h
          go_wp2
          go_ret
          exact ⟨by rw [HE.out]; rfl, HB0.out⟩
        · have f0 : decide (x < 48) = false := decide_eq_false (by omega)
          have f1 : decide (x < 97) = false := decide_eq_false (by omega)
          have f2 : decide (x < 65) = false := decide_eq_false (by omega)
          have f3 : decide (57 < x) = true := decide_eq_true (by omega)
          have f4 : decide (122 < x) = true := decide_eq_true (by omega)
          have f5 : decide (90 < x) = true := decide_eq_true (by omega)
          have f6 : (x == 46) = false := beq_eq_false_iff_ne.2 (by omega)
          have f7 : (x != 46) = true := bne_iff_ne.2 (by omega)
          have f8 : (x == 45) = false := beq_eq_false_iff_ne.2 (by omega)
          have f9 : (x != 45) = true := bne_iff_ne.2 (by omega)
          have f10 : (x == 95) = false := beq_eq_false_iff_ne.2 (by omega)
          have f11 : (x != 95) = true := bne_iff_ne.2 (by omega)
          clear h
          go_wp2
          go_ret
          exact ⟨by rw [HE.out]; rfl, HB0.out⟩
    · obtain rfl : k = s.size := by omega
      have dkn : decide ((s.size : Int) < s.size) = false := decide_eq_false (by omega)
      by_cases h0 : s.size = 0
      · have HE := Lib.hid (show R = false by rw [HRR.out]; exact nameB_no (by omega))
        have hz : s = ByteArray.empty := bytesOf_inj (List.eq_nil_of_length_eq_zero (by rw [HL.out]; exact h0) |>.trans rfl)
        have e1 : s.toList = [] := by rw [hz, ByteArray.toList_eq]; rfl
        have e2 : (!s.toList.isEmpty) = false := by rw [e1]; rfl
        clear h0 hz
        go_wp2
        go_ret
        exact ⟨by rw [HE.out]; rfl, HB0.out⟩
      · have hne : s.toList ≠ [] := fun h => h0 (by
          have := congrArg List.length h
          rw [ByteArray.toList_eq] at this
          simpa using this)
        have e1 : s.toList.isEmpty = false := by cases h : s.toList with | nil => exact absurd h hne | cons => rfl
        have e2 : (!s.toList.isEmpty) = true := by rw [e1]; rfl
        by_cases h24 : s.size ≤ 24
        · have HE := Lib.hid (show R = true by rw [HRR.out]; exact nameB_yes HA.out (by omega) h24)
          have d24 : decide ((s.size : Int) ≤ 24) = true := decide_eq_true (by omega)
          go_wp2
          go_ret
          exact ⟨by rw [HE.out]; rfl, HB0.out⟩
        · have HE := Lib.hid (show R = false by rw [HRR.out]; exact nameB_no (by omega))
          have d24 : decide ((s.size : Int) ≤ 24) = false := decide_eq_false (by omega)
          go_wp2
          go_ret
          exact ⟨by rw [HE.out]; rfl, HB0.out⟩
set_option maxHeartbeats 1600000 in
theorem NameRef_calls (s : ByteArray) (w : World) (hs : s.size ≤ 35184372088832) :
    Calls Tryd.prog 21 #[.string s] w fun e w' => e = .returned (.bool (nameB s)) ∧ w' = w := by
  obtain ⟨R, hR⟩ : ∃ R, R = nameB s := ⟨_, rfl⟩
  rw [← hR]
  have HRR := Lib.hid hR
  have HY := Lib.hid (Bytes_bytesOf s)
  have HL := Lib.hid (bytesOf_length s)
  clear hR
  go_enter Tryd.func21, Tryd.ntmps21
  go_wp2
  go_loop [8] (fun i => ∃ k : Nat, i = .int .i64 k ∧ k ≤ s.size ∧ Hid (∀ j, j < k → nameCh (rd (bytesOf s) (j : Nat)) = true)) (fun i => s.size - (intOf i).toNat)
  case atStart => exact ⟨0, rfl, by omega, Lib.hid (fun j hj => by omega)⟩
  case round =>
    obtain ⟨k, rfl, hk, HA⟩ := hrel
    by_cases hkn : k < s.size
    · have dkn : decide ((k : Int) < s.size) = true := decide_eq_true (by omega)
      obtain ⟨x, hx⟩ : ∃ x, x = rd (bytesOf s) k := ⟨_, rfl⟩
      obtain ⟨x0, x1⟩ := bytes_rd HY.out k (by rw [HL.out]; exact hkn)
      rw [← hx] at x0 x1
      have hbt : ∀ h : (k : Int).toNat < s.size, ((s[(k : Int).toNat]'h).toNat : Int) = x := fun h => by rw [hx, rd_bytesOf]; exact bt_at s k h
      simp only [Int.toNat_natCast] at hbt
      have HX := Lib.hid hx
      clear hx
      by_cases hch : nameCh x = true
      · have HA2 := Lib.hid (show ∀ j, j < k + 1 → nameCh (rd (bytesOf s) (j : Nat)) = true from fun j hj => by
          rcases Nat.lt_or_ge j k with h | h
          · exact HA.out j h
          · obtain rfl : j = k := by omega
            rw [← HX.out]; exact hch)
        rcases (nameCh_iff x).1 hch with h | h | h | h | h | h
        · clear hch
          subst h
          go_wp2
          go_round
          case rel => exact ⟨k + 1, by go_num, by omega, HA2⟩
          case measure => simp [intOf]; omega
        · clear hch
          subst h
          go_wp2
          go_round
          case rel => exact ⟨k + 1, by go_num, by omega, HA2⟩
          case measure => simp [intOf]; omega
        · clear hch
          subst h
          go_wp2
          go_round
          case rel => exact ⟨k + 1, by go_num, by omega, HA2⟩
          case measure => simp [intOf]; omega
        · clear hch
          obtain ⟨l0, l1⟩ := h
          have f0 : decide (48 ≤ x) = true := decide_eq_true (by omega)
          have f1 : decide (97 ≤ x) = false := decide_eq_false (by omega)
          have f2 : decide (65 ≤ x) = false := decide_eq_false (by omega)
          have f3 : decide (x ≤ 57) = true := decide_eq_true (by omega)
          have f4 : decide (x ≤ 122) = true := decide_eq_true (by omega)
          have f5 : decide (x ≤ 90) = true := decide_eq_true (by omega)
          have f6 : (x == 46) = false := beq_eq_false_iff_ne.2 (by omega)
          have f7 : (x != 46) = true := bne_iff_ne.2 (by omega)
          have f8 : (x == 45) = false := beq_eq_false_iff_ne.2 (by omega)
          have f9 : (x != 45) = true := bne_iff_ne.2 (by omega)
          have f10 : (x == 95) = false := beq_eq_false_iff_ne.2 (by omega)
          have f11 : (x != 95) = true := bne_iff_ne.2 (by omega)
          clear l0 l1
          go_wp2
          go_round
          case rel => exact ⟨k + 1, by go_num, by omega, HA2⟩
          case measure => simp [intOf]; omega
        · clear hch
          obtain ⟨l0, l1⟩ := h
          have f0 : decide (48 ≤ x) = true := decide_eq_true (by omega)
          have f1 : decide (97 ≤ x) = true := decide_eq_true (by omega)
          have f2 : decide (65 ≤ x) = true := decide_eq_true (by omega)
          have f3 : decide (x ≤ 57) = false := decide_eq_false (by omega)
          have f4 : decide (x ≤ 122) = true := decide_eq_true (by omega)
          have f5 : decide (x ≤ 90) = false := decide_eq_false (by omega)
          have f6 : (x == 46) = false := beq_eq_false_iff_ne.2 (by omega)
          have f7 : (x != 46) = true := bne_iff_ne.2 (by omega)
          have f8 : (x == 45) = false := beq_eq_false_iff_ne.2 (by omega)
          have f9 : (x != 45) = true := bne_iff_ne.2 (by omega)
          have f10 : (x == 95) = false := beq_eq_false_iff_ne.2 (by omega)
          have f11 : (x != 95) = true := bne_iff_ne.2 (by omega)
          clear l0 l1
          go_wp2
          go_round
          case rel => exact ⟨k + 1, by go_num, by omega, HA2⟩
          case measure => simp [intOf]; omega
        · clear hch
          obtain ⟨l0, l1⟩ := h
          have f0 : decide (48 ≤ x) = true := decide_eq_true (by omega)
          have f1 : decide (97 ≤ x) = false := decide_eq_false (by omega)
          have f2 : decide (65 ≤ x) = true := decide_eq_true (by omega)
          have f3 : decide (x ≤ 57) = false := decide_eq_false (by omega)
          have f4 : decide (x ≤ 122) = true := decide_eq_true (by omega)
          have f5 : decide (x ≤ 90) = true := decide_eq_true (by omega)
          have f6 : (x == 46) = false := beq_eq_false_iff_ne.2 (by omega)
          have f7 : (x != 46) = true := bne_iff_ne.2 (by omega)
          have f8 : (x == 45) = false := beq_eq_false_iff_ne.2 (by omega)
          have f9 : (x != 45) = true := bne_iff_ne.2 (by omega)
          have f10 : (x == 95) = false := beq_eq_false_iff_ne.2 (by omega)
          have f11 : (x != 95) = true := bne_iff_ne.2 (by omega)
          clear l0 l1
          go_wp2
          go_round
          case rel => exact ⟨k + 1, by go_num, by omega, HA2⟩
          case measure => simp [intOf]; omega
      · have hno := mt (nameCh_iff x).2 hch
        have HE := Lib.hid (show R = false by rw [HRR.out]; exact nameB_bad k hkn (by rw [← HX.out]; exact Bool.eq_false_iff.2 hch))
        have hr : x ≤ 44 ∨ x = 47 ∨ (58 ≤ x ∧ x ≤ 64) ∨ (91 ≤ x ∧ x ≤ 94) ∨ x = 96 ∨ 123 ≤ x := by omega
        clear hch hno
        rcases hr with h | h | h | h | h | h
        · have f0 : decide (48 ≤ x) = false := decide_eq_false (by omega)
          have f1 : decide (97 ≤ x) = false := decide_eq_false (by omega)
          have f2 : decide (65 ≤ x) = false := decide_eq_false (by omega)
          have f3 : decide (x ≤ 57) = true := decide_eq_true (by omega)
          have f4 : decide (x ≤ 122) = true := decide_eq_true (by omega)
          have f5 : decide (x ≤ 90) = true := decide_eq_true (by omega)
          have f6 : (x == 46) = false := beq_eq_false_iff_ne.2 (by omega)
          have f7 : (x != 46) = true := bne_iff_ne.2 (by omega)
          have f8 : (x == 45) = false := beq_eq_false_iff_ne.2 (by omega)
          have f9 : (x != 45) = true := bne_iff_ne.2 (by omega)
          have f10 : (x == 95) = false := beq_eq_false_iff_ne.2 (by omega)
          have f11 : (x != 95) = true := bne_iff_ne.2 (by omega)
          clear h
          go_wp2
          go_ret
          exact ⟨by rw [HE.out]; rfl, rfl⟩
        · subst h
          go_wp2
          go_ret
          exact ⟨by rw [HE.out]; rfl, rfl⟩
        · have f0 : decide (48 ≤ x) = true := decide_eq_true (by omega)
          have f1 : decide (97 ≤ x) = false := decide_eq_false (by omega)
          have f2 : decide (65 ≤ x) = false := decide_eq_false (by omega)
          have f3 : decide (x ≤ 57) = false := decide_eq_false (by omega)
          have f4 : decide (x ≤ 122) = true := decide_eq_true (by omega)
          have f5 : decide (x ≤ 90) = true := decide_eq_true (by omega)
          have f6 : (x == 46) = false := beq_eq_false_iff_ne.2 (by omega)
          have f7 : (x != 46) = true := bne_iff_ne.2 (by omega)
          have f8 : (x == 45) = false := beq_eq_false_iff_ne.2 (by omega)
          have f9 : (x != 45) = true := bne_iff_ne.2 (by omega)
          have f10 : (x == 95) = false := beq_eq_false_iff_ne.2 (by omega)
          have f11 : (x != 95) = true := bne_iff_ne.2 (by omega)
          clear h
          go_wp2
          go_ret
          exact ⟨by rw [HE.out]; rfl, rfl⟩
        · have f0 : decide (48 ≤ x) = true := decide_eq_true (by omega)
          have f1 : decide (97 ≤ x) = false := decide_eq_false (by omega)
          have f2 : decide (65 ≤ x) = true := decide_eq_true (by omega)
          have f3 : decide (x ≤ 57) = false := decide_eq_false (by omega)
          have f4 : decide (x ≤ 122) = true := decide_eq_true (by omega)
          have f5 : decide (x ≤ 90) = false := decide_eq_false (by omega)
          have f6 : (x == 46) = false := beq_eq_false_iff_ne.2 (by omega)
          have f7 : (x != 46) = true := bne_iff_ne.2 (by omega)
          have f8 : (x == 45) = false := beq_eq_false_iff_ne.2 (by omega)
          have f9 : (x != 45) = true := bne_iff_ne.2 (by omega)
          have f10 : (x == 95) = false := beq_eq_false_iff_ne.2 (by omega)
          have f11 : (x != 95) = true := bne_iff_ne.2 (by omega)
          clear h
          go_wp2
          go_ret
          exact ⟨by rw [HE.out]; rfl, rfl⟩
        · subst h
          go_wp2
          go_ret
          exact ⟨by rw [HE.out]; rfl, rfl⟩
        · have f0 : decide (48 ≤ x) = true := decide_eq_true (by omega)
          have f1 : decide (97 ≤ x) = true := decide_eq_true (by omega)
          have f2 : decide (65 ≤ x) = true := decide_eq_true (by omega)
          have f3 : decide (x ≤ 57) = false := decide_eq_false (by omega)
          have f4 : decide (x ≤ 122) = false := decide_eq_false (by omega)
          have f5 : decide (x ≤ 90) = false := decide_eq_false (by omega)
          have f6 : (x == 46) = false := beq_eq_false_iff_ne.2 (by omega)
          have f7 : (x != 46) = true := bne_iff_ne.2 (by omega)
          have f8 : (x == 45) = false := beq_eq_false_iff_ne.2 (by omega)
          have f9 : (x != 45) = true := bne_iff_ne.2 (by omega)
          have f10 : (x == 95) = false := beq_eq_false_iff_ne.2 (by omega)
          have f11 : (x != 95) = true := bne_iff_ne.2 (by omega)
          clear h
          go_wp2
          go_ret
          exact ⟨by rw [HE.out]; rfl, rfl⟩
    · obtain rfl : k = s.size := by omega
      have dkn : decide ((s.size : Int) < s.size) = false := decide_eq_false (by omega)
      by_cases h0 : s.size < 1
      · have HE := Lib.hid (show R = false by rw [HRR.out]; exact nameB_no (by omega))
        have d1 : decide (1 ≤ (s.size : Int)) = false := decide_eq_false (by omega)
        have d1' : decide (1 ≤ s.size) = false := decide_eq_false (by omega)
        go_wp2
        go_ret
        exact ⟨by rw [HE.out]; rfl, rfl⟩
      · have d1 : decide (1 ≤ (s.size : Int)) = true := decide_eq_true (by omega)
        have d1' : decide (1 ≤ s.size) = true := decide_eq_true (by omega)
        by_cases h24 : s.size ≤ 24
        · have HE := Lib.hid (show R = true by rw [HRR.out]; exact nameB_yes HA.out (by omega) h24)
          have d24 : decide ((s.size : Int) ≤ 24) = true := decide_eq_true (by omega)
          have d24' : decide (s.size ≤ 24) = true := decide_eq_true (by omega)
          go_wp2
          go_ret
          exact ⟨by rw [HE.out]; rfl, rfl⟩
        · have HE := Lib.hid (show R = false by rw [HRR.out]; exact nameB_no (by omega))
          have d24 : decide ((s.size : Int) ≤ 24) = false := decide_eq_false (by omega)
          have d24' : decide (s.size ≤ 24) = false := decide_eq_false (by omega)
          go_wp2
          go_ret
          exact ⟨by rw [HE.out]; rfl, rfl⟩
end Go.Proofs.YtcgenmogedndjaaDoor
