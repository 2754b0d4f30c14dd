/- blotterref01.Cursor: what lies in memory, and its methods. -/
import Derived.Test.YthbdgakeglppbaaReadRef
import Derived.Test.YthbdgakeglppbaaCursorAll
namespace Go.Proofs.Ythbdgakeglppbaa
open Go.RowKit Go.Proofs.YthbdgakeglppbaaW.PrintWords
structure RCur (w : World) (g : Nat) (A : Option Addr) (n c : Nat) (l : List Int) (a : Nat) : Prop where
  own : w.heap[g]? = some (.cells #[.slice A n c, .int .i64 a] 69 (0, 0))
  row : Rd w A n l
  far : ∀ ad, A = some ad → 0 < n → ad.block ≠ g
  cap : n ≤ c
  le : a ≤ n
theorem Rd.grown0 {w w' : World} {row : Option Nat} {A : Option Addr} {n : Nat} {l : List Int} (h : Rd w A n l) (hg : w.grownBy w' row) (hf : ∀ ad, A = some ad → 0 < n → some ad.block ≠ row) : Rd w' A n l := by
  rcases Nat.eq_zero_or_pos n with h0 | h0
  · subst h0
    obtain rfl := List.eq_nil_of_length_eq_zero (Kd.C_len h)
    exact Rd.empty _ _
  · exact h.grown hg (fun ad he => hf ad he h0)
variable {w w' : World} {g : Nat} {A : Option Addr} {n c : Nat} {l : List Int} {a : Nat}
theorem RCur.x1 (h : RCur w g A n c l a) : w.cell? ⟨g, 0, none⟩ = some (.slice A n c) := by simp [World.cell?, h.own]
theorem RCur.x2 (h : RCur w g A n c l a) : w.cell? ⟨g, 1, none⟩ = some (.int .i64 a) := by simp [World.cell?, h.own]
theorem RCur.f2 (h : RCur w g A n c l a) : w.frozen? ⟨g, 1, none⟩ = false := by simp [World.frozen?, h.own]
theorem RCur.grown (h : RCur w g A n c l a) {row : Option Nat} (hg : w.grownBy w' row) (h1 : some g ≠ row) (h3 : ∀ ad, A = some ad → 0 < n → some ad.block ≠ row) : RCur w' g A n c l a :=
  ⟨(hg.block g (lt_of_heap h.own) h1).trans h.own, h.row.grown0 hg h3, h.far, h.cap, h.le⟩
theorem RCur.below (h : RCur w g A n c l a) (hb : Below w.heap.size w w') : RCur w' g A n c l a :=
  ⟨(hb.block g (lt_of_heap h.own)).trans h.own, Kd.C_below h.row hb, h.far, h.cap, h.le⟩
theorem RCur.set (h : RCur w g A n c l a) (b : Nat) (hb : b ≤ n) : RCur (w.setCell ⟨g, 1, none⟩ (.int .i64 b)) g A n c l b := by
  have hg := Lib.grownBy_setCell w g 1 (.int .i64 b)
  refine ⟨?_, h.row.grown0 hg (fun ad he hp e => h.far ad he hp (Option.some.inj e)), h.far, h.cap, hb⟩
  have hp := h.own
  simp [World.setCell, Array.getElem?_modify, hp]
set_option maxHeartbeats 400000 in
theorem RByte_short (w : World) (h : RCur w g A n c l a) (ha : a = n) :
    Calls Try.prog 49 #[.pointer (some ⟨g, 0, none⟩)] w fun e w' => e = .returned (.tuple #[.int .i64 0, .int .i64 2]) ∧ Drawn0 w w' := by
  subst ha
  have x1 := h.x1
  have x2 := h.x2
  clear h
  go_enter Try.func49, Try.ntmps49
  go_wp2_with fail
  go_quiet (fail)
  go_wp2
  go_ret2
  exact ⟨rfl, (Drawn0.refl _).step _⟩
set_option maxHeartbeats 400000 in
theorem RByte_ok (w : World) (h : RCur w g A n c l a) (hb : Bytes l) (ha : a < n) :
    Calls Try.prog 49 #[.pointer (some ⟨g, 0, none⟩)] w fun e w' => e = .returned (.tuple #[.int .i64 (rd l a), .int .i64 0]) ∧ RCur w' g A n c l (a + 1) ∧ w.grownBy w' (some g) := by
  have H := Lib.hid h
  have hd : ((a : Int) == n) = false := beq_eq_false_iff_ne.2 (by omega)
  have hd' : (a == n) = false := beq_eq_false_iff_ne.2 (by omega)
  have hm := Kd.C_max h.row
  have hcap := h.cap
  have hlen := Kd.C_len h.row
  obtain ⟨b0, b1⟩ := bytes_rd hb a (by omega)
  have hw := wrap_id (x := (a : Int) + 1) (by omega) (by omega)
  have hw2 : IntKind.i64.wrap ((a : Int) + 1 - 1) = a := by rw [wrap_id (by omega) (by omega)]; omega
  have hw3 := wrap_id b0 (by omega)
  have x1 := h.x1
  have x2 := h.x2
  clear h hb hlen
  go_enter Try.func49, Try.ntmps49
  go_wp2_with fail
  go_quiet (fail)
  clear x1 x2
  rename_i nq
  have H2 := Lib.hid (H.out.below (pw_below_drewN (Below.refl w.heap.size w) nq))
  have HG := Lib.hid (Lib.grownBy_below (World.grownBy.refl w (some g)) (pw_below_drewN (Below.refl w.heap.size w) nq))
  generalize w.drewN nq = w2 at H2 HG ⊢
  have x1 := H2.out.x1
  have x2 := H2.out.x2
  have f2 := H2.out.f2
  go_wp2_with fail
  have e1 : ((a + 1 : Nat) : Int) = (a : Int) + 1 := by omega
  have H3 : RCur (w2.setCell ⟨g, 1, none⟩ (.int .i64 ((a : Int) + 1))) g A n c l (a + 1) := by
    have := H2.out.set (a + 1) (by omega)
    rwa [e1] at this
  have hg3 : w.grownBy (w2.setCell ⟨g, 1, none⟩ (.int .i64 ((a : Int) + 1))) (some g) := Lib.grownBy_setB HG.out 1 _
  obtain ⟨w3, hw3'⟩ : ∃ w3, w3 = w2.setCell ⟨g, 1, none⟩ (.int .i64 ((a : Int) + 1)) := ⟨_, rfl⟩
  rw [← hw3'] at H3 hg3 ⊢
  clear hw3' x1 x2 f2
  have x1 := H3.x1
  have x2 := H3.x2
  rw [e1] at x2
  obtain ⟨ad, rfl, hcell⟩ := Rd.cells H3.row (by omega)
  have hx := hcell a (by omega)
  have H4 := Lib.hid H3
  have HG3 := Lib.hid hg3
  have i0 : (a : Int) < n := by omega
  clear H3 hg3 hcell e1
  go_quiet (fail)
  go_wp2
  go_ret2
  exact ⟨rfl, H4.out.below (pw_below_drewN (Below.refl _ _) _), Lib.grownBy_below HG3.out (pw_below_drewN (Below.refl _ _) _)⟩
theorem RByte_calls (w : World) (h : RCur w g A n c l a) (hb : Bytes l) :
    Calls Try.prog 49 #[.pointer (some ⟨g, 0, none⟩)] w fun e w' => e = .returned (.tuple #[.int .i64 (if a < n then rd l a else 0), .int .i64 (if a < n then 0 else 2)]) ∧ RCur w' g A n c l (if a < n then a + 1 else a) ∧ w.grownBy w' (some g) := by
  by_cases ha : a < n
  · rw [if_pos ha, if_pos ha, if_pos ha]
    exact RByte_ok w h hb ha
  · rw [if_neg ha, if_neg ha, if_neg ha]
    have hle := h.le
    exact (RByte_short w h (by omega)).mono fun e w' ⟨h1, h2⟩ => ⟨h1, h.below h2.below, Lib.grownBy_below (World.grownBy.refl w (some g)) h2.below⟩
theorem Byte_calls {p : Nat} (w : World) (h : Cur w g p A n c l a) (hb : Bytes l) :
    Calls Try.prog 42 #[.pointer (some ⟨g, 0, none⟩)] w fun e w' => e = .returned (.tuple #[.int .i64 (if a < n then rd l a else 0), .int .i64 (if a < n then 0 else 2)]) ∧ Cur w' g p A n c l (if a < n then a + 1 else a) ∧ w.grownBy w' (some p) := by
  by_cases ha : a < n
  · rw [if_pos ha, if_pos ha, if_pos ha]
    exact Byte_ok w h hb ha
  · rw [if_neg ha, if_neg ha, if_neg ha]
    have hle := h.le
    exact (Byte_short w h (by omega)).mono fun e w' ⟨h1, h2⟩ => ⟨h1, h.below h2.below, Lib.grownBy_below (World.grownBy.refl w (some p)) h2.below⟩
set_option maxHeartbeats 800000 in
theorem RNumber_calls (w : World) (h : RCur w g A n c l a) (hb : Bytes l) (hs : n ≤ 140737488355328) :
    Calls Try.prog 50 #[.pointer (some ⟨g, 0, none⟩)] w fun e w' => e = .returned (.tuple #[.int .i64 (readNum (l.drop a)).1, .int .i64 (readNum (l.drop a)).2.2]) ∧ RCur w' g A n c l (a + (readNum (l.drop a)).2.1.toNat) ∧ w.grownBy w' (some g) := by
  have H := Lib.hid h
  have hm := Kd.C_max h.row
  have hcap := h.cap
  have hle := h.le
  have hlen := Kd.C_len h.row
  have HY := Lib.hid (hb.dp a)
  have x1 := h.x1
  have x2 := h.x2
  have hrd : Rd w (if c = a then A else Option.map (fun x => x.add a) A) (n - a) (l.drop a) := by
    have h1 := h.row
    rw [← hlen] at h1
    have := Kd.C_drop (k := Kd.int .u8) (m := a) (c := c) h1 (by omega) (by omega)
    rw [show a * (Kd.int .u8).sz = a from Nat.mul_one a, List.length_drop, hlen] at this
    exact this
  have HRD := Lib.hid hrd
  have hK : ∃ K : Nat, (readNum (l.drop a)).2.1 = K ∧ a + K ≤ n := by
    by_cases hE : (readNum (l.drop a)).2.2 = 0
    · have := readNum_ok _ (hb.dp a) hE
      rw [List.length_drop, hlen] at this
      exact ⟨(readNum (l.drop a)).2.1.toNat, by omega, by omega⟩
    · exact ⟨0, (readNum_bad _ hE).2, by omega⟩
  obtain ⟨K, hK1, hK2⟩ := hK
  have i0 : (0 : Int) ≤ a := by omega
  have i1 : (a : Int) ≤ n := by omega
  have i2 : (n : Int) ≤ c := by omega
  have i3 : (a : Int) ≤ c := by omega
  clear h hb hlen hrd
  go_enter Try.func50, Try.ntmps50
  go_wp2_with fail
  go_quiet (first | (go_at_call 65; refine (Read_calls _ _ (l.drop a) _ (Kd.C_drewN HRD.out _) HY.out (by omega)).mono ?_; rintro e w' ⟨rfl, ⟨nd, rfl⟩⟩; exact ⟨rfl, _, World.drewN_drewN _ _ _⟩))
  have HB3 := Lib.hid (pw_below_drewN (Below.refl w.heap.size w) nq)
  rw [hK1]
  generalize w.drewN nq = w3 at HB3 ⊢
  generalize (if c = a then A else Option.map (fun x => x.add a) A) = AA
  have H3 := Lib.hid (H.out.below HB3.out)
  have HG3 := Lib.hid (Lib.grownBy_below (World.grownBy.refl w (some g)) HB3.out)
  clear x1 x2
  have x1 := H3.out.x1
  have x2 := H3.out.x2
  have f2 := H3.out.f2
  have hw : IntKind.i64.wrap ((a : Int) + K) = a + K := wrap_id (by omega) (by omega)
  have H4 : RCur (w3.setCell ⟨g, 1, none⟩ (.int .i64 ((a : Int) + K))) g A n c l (a + K) := by
    have := H3.out.set (a + K) (by omega)
    rwa [show ((a + K : Nat) : Int) = (a : Int) + K by omega] at this
  have hg4 : w.grownBy (w3.setCell ⟨g, 1, none⟩ (.int .i64 ((a : Int) + K))) (some g) := Lib.grownBy_setB HG3.out 1 _
  have H4' := Lib.hid H4
  have HG4 := Lib.hid hg4
  obtain ⟨N, hN⟩ : ∃ N, N = (readNum (l.drop a)).1 := ⟨_, rfl⟩
  obtain ⟨E, hE⟩ : ∃ E, E = (readNum (l.drop a)).2.2 := ⟨_, rfl⟩
  rw [← hN, ← hE]
  have HK1 := Lib.hid hK1
  have HNN := Lib.hid hN
  have HEE := Lib.hid hE
  clear H4 hg4 hN hE hK1
  go_wp2
  go_ret2
  exact ⟨by rw [← HNN.out, ← HEE.out]; rfl, by rw [HK1.out, Int.toNat_natCast]; exact H4'.out, HG4.out⟩
set_option maxHeartbeats 800000 in
theorem RText_bad (most : Int) (w : World) (h : RCur w g A n c l a) (hb : Bytes l) (hs : n ≤ 140737488355328) (E : Int) (hE : E ≠ 0) (hr : readNum (l.drop a) = (0, 0, E)) :
    Calls Try.prog 51 #[.pointer (some ⟨g, 0, none⟩), .int .i64 most] w fun e w' => e = .returned (.tuple #[.string ByteArray.empty, .int .i64 E]) ∧ RCur w' g A n c l a ∧ w.grownBy w' (some g) := by
  have H := Lib.hid h
  have HY := Lib.hid hb
  have HR := Lib.hid hr
  have hm := Kd.C_max h.row
  have hcap := h.cap
  have hle := h.le
  have hlen := Kd.C_len h.row
  have x1 := h.x1
  have x2 := h.x2
  have hrd : Rd w (if c = a then A else Option.map (fun x => x.add a) A) (n - a) (l.drop a) := by
    have h1 := h.row
    rw [← hlen] at h1
    have := Kd.C_drop (k := Kd.int .u8) (m := a) (c := c) h1 (by omega) (by omega)
    rw [show a * (Kd.int .u8).sz = a from Nat.mul_one a, List.length_drop, hlen] at this
    exact this
  have HRD := Lib.hid hrd
  have HHL := Lib.hid hlen
  have i0 : (0 : Int) ≤ a := by omega
  have i1 : (a : Int) ≤ n := by omega
  have i2 : (n : Int) ≤ c := by omega
  have i3 : (a : Int) ≤ c := by omega
  have d1 : (E == 0) = false := beq_eq_false_iff_ne.2 hE
  have d2 : (E != 0) = true := by rw [bne, d1]; rfl
  clear h hb hlen hrd hr
  go_enter Try.func51, Try.ntmps51
  go_wp2_with fail
  go_quiet (first | (go_at_call 65; refine (Read_calls _ _ (l.drop a) _ (Kd.C_drewN HRD.out _) (HY.out.dp a) (by omega)).mono ?_; rintro e w' ⟨rfl, ⟨nd, rfl⟩⟩; exact ⟨rfl, _, World.drewN_drewN _ _ _⟩))
  have HB3 := Lib.hid (pw_below_drewN (Below.refl w.heap.size w) nq)
  rw [HR.out]
  generalize w.drewN nq = w3 at HB3 ⊢
  generalize (if c = a then A else Option.map (fun x => x.add a) A) = AA
  have H3 := Lib.hid (H.out.below HB3.out)
  have HG3 := Lib.hid (Lib.grownBy_below (World.grownBy.refl w (some g)) HB3.out)
  clear x1 x2
  go_wp2
  go_ret2
  exact ⟨rfl, H3.out, HG3.out⟩
set_option maxHeartbeats 800000 in
theorem RText_long (most : Int) (w : World) (h : RCur w g A n c l a) (hb : Bytes l) (hs : n ≤ 140737488355328) (N : Int) (K : Nat) (hr : readNum (l.drop a) = (N, (K : Int), 0)) (hlg : max most 0 < N) :
    Calls Try.prog 51 #[.pointer (some ⟨g, 0, none⟩), .int .i64 most] w fun e w' => e = .returned (.tuple #[.string ByteArray.empty, .int .i64 4]) ∧ RCur w' g A n c l a ∧ w.grownBy w' (some g) := by
  have H := Lib.hid h
  have HY := Lib.hid hb
  have HR := Lib.hid hr
  have hm := Kd.C_max h.row
  have hcap := h.cap
  have hle := h.le
  have hlen := Kd.C_len h.row
  have x1 := h.x1
  have x2 := h.x2
  have hrd : Rd w (if c = a then A else Option.map (fun x => x.add a) A) (n - a) (l.drop a) := by
    have h1 := h.row
    rw [← hlen] at h1
    have := Kd.C_drop (k := Kd.int .u8) (m := a) (c := c) h1 (by omega) (by omega)
    rw [show a * (Kd.int .u8).sz = a from Nat.mul_one a, List.length_drop, hlen] at this
    exact this
  have HRD := Lib.hid hrd
  have HHL := Lib.hid hlen
  have i0 : (0 : Int) ≤ a := by omega
  have i1 : (a : Int) ≤ n := by omega
  have i2 : (n : Int) ≤ c := by omega
  have i3 : (a : Int) ≤ c := by omega
  have d1 : decide (most < N) = true := decide_eq_true (by omega)
  have d2 : decide (0 < N) = true := decide_eq_true (by omega)
  clear h hb hlen hrd hr hlg
  go_enter Try.func51, Try.ntmps51
  go_wp2_with fail
  go_quiet (first | (go_at_call 65; refine (Read_calls _ _ (l.drop a) _ (Kd.C_drewN HRD.out _) (HY.out.dp a) (by omega)).mono ?_; rintro e w' ⟨rfl, ⟨nd, rfl⟩⟩; exact ⟨rfl, _, World.drewN_drewN _ _ _⟩))
  have HB3 := Lib.hid (pw_below_drewN (Below.refl w.heap.size w) nq)
  rw [HR.out]
  generalize w.drewN nq = w3 at HB3 ⊢
  generalize (if c = a then A else Option.map (fun x => x.add a) A) = AA
  have H3 := Lib.hid (H.out.below HB3.out)
  have HG3 := Lib.hid (Lib.grownBy_below (World.grownBy.refl w (some g)) HB3.out)
  clear x1 x2
  go_wp2
  go_ret2
  exact ⟨rfl, H3.out, HG3.out⟩
set_option maxHeartbeats 800000 in
theorem RText_short (most : Int) (w : World) (h : RCur w g A n c l a) (hb : Bytes l) (hs : n ≤ 140737488355328) (N : Int) (K : Nat) (hr : readNum (l.drop a) = (N, (K : Int), 0)) (hlg : ¬ max most 0 < N) (hsh : (n : Int) - a - K < N) :
    Calls Try.prog 51 #[.pointer (some ⟨g, 0, none⟩), .int .i64 most] w fun e w' => e = .returned (.tuple #[.string ByteArray.empty, .int .i64 2]) ∧ RCur w' g A n c l a ∧ w.grownBy w' (some g) := by
  have H := Lib.hid h
  have HY := Lib.hid hb
  have HR := Lib.hid hr
  have hm := Kd.C_max h.row
  have hcap := h.cap
  have hle := h.le
  have hlen := Kd.C_len h.row
  have x1 := h.x1
  have x2 := h.x2
  have hrd : Rd w (if c = a then A else Option.map (fun x => x.add a) A) (n - a) (l.drop a) := by
    have h1 := h.row
    rw [← hlen] at h1
    have := Kd.C_drop (k := Kd.int .u8) (m := a) (c := c) h1 (by omega) (by omega)
    rw [show a * (Kd.int .u8).sz = a from Nat.mul_one a, List.length_drop, hlen] at this
    exact this
  have HRD := Lib.hid hrd
  have HHL := Lib.hid hlen
  have i0 : (0 : Int) ≤ a := by omega
  have i1 : (a : Int) ≤ n := by omega
  have i2 : (n : Int) ≤ c := by omega
  have i3 : (a : Int) ≤ c := by omega
  have hk := readNum_ok _ (hb.dp a) (by rw [hr])
  rw [hr, List.length_drop, hlen] at hk
  have hk2 : (K : Int) ≤ ((n - a : Nat) : Int) := hk.2.1
  have hw1 := wrap_id (x := (n : Int) - a) (by omega) (by omega)
  have hw2 := wrap_id (x := (n : Int) - a - K) (by omega) (by omega)
  have d3 : decide ((n : Int) - a - K < N) = true := decide_eq_true hsh
  clear h hb hlen hrd hr hk hk2
  by_cases hmn : most < N
  case' pos =>
    have d1 : decide (most < N) = true := decide_eq_true hmn
    have d2 : decide (0 < N) = false := decide_eq_false (by omega)
  case' neg =>
    have d1 : decide (most < N) = false := decide_eq_false hmn
  all_goals
    clear hlg hmn hsh
    go_enter Try.func51, Try.ntmps51
    go_wp2_with fail
    go_quiet (first | (go_at_call 65; refine (Read_calls _ _ (l.drop a) _ (Kd.C_drewN HRD.out _) (HY.out.dp a) (by omega)).mono ?_; rintro e w' ⟨rfl, ⟨nd, rfl⟩⟩; exact ⟨rfl, _, World.drewN_drewN _ _ _⟩))
    have HB3 := Lib.hid (pw_below_drewN (Below.refl w.heap.size w) nq)
    rw [HR.out]
    generalize w.drewN nq = w3 at HB3 ⊢
    generalize (if c = a then A else Option.map (fun x => x.add a) A) = AA
    have H3 := Lib.hid (H.out.below HB3.out)
    have HG3 := Lib.hid (Lib.grownBy_below (World.grownBy.refl w (some g)) HB3.out)
    clear x1 x2
    have x1 := H3.out.x1
    have x2 := H3.out.x2
    go_wp2_with fail
    go_quiet (fail)
    go_wp2
    go_ret2
    exact ⟨rfl, H3.out.below (pw_below_drewN (Below.refl _ _) _), Lib.grownBy_below HG3.out (pw_below_drewN (Below.refl _ _) _)⟩
set_option maxHeartbeats 1600000 in
theorem RText_ok (most : Int) (w : World) (h : RCur w g A n c l a) (hb : Bytes l) (hs : n ≤ 140737488355328) (N : Int) (K : Nat) (hr : readNum (l.drop a) = (N, (K : Int), 0)) (M : Nat) (hM : N = M) (hlg : ¬ max most 0 < N) (hsh : a + K + M ≤ n) :
    Calls Try.prog 51 #[.pointer (some ⟨g, 0, none⟩), .int .i64 most] w fun e w' => e = .returned (.tuple #[.string (strOfNums ((l.take (a + (K + M))).drop (a + K))), .int .i64 0]) ∧ RCur w' g A n c l (a + (K + M)) ∧ w.grownBy w' (some g) := by
  subst hM
  have H := Lib.hid h
  have HY := Lib.hid hb
  have HR := Lib.hid hr
  have hm := Kd.C_max h.row
  have hcap := h.cap
  have hle := h.le
  have hlen := Kd.C_len h.row
  have x1 := h.x1
  have x2 := h.x2
  have hrd : Rd w (if c = a then A else Option.map (fun x => x.add a) A) (n - a) (l.drop a) := by
    have h1 := h.row
    rw [← hlen] at h1
    have := Kd.C_drop (k := Kd.int .u8) (m := a) (c := c) h1 (by omega) (by omega)
    rw [show a * (Kd.int .u8).sz = a from Nat.mul_one a, List.length_drop, hlen] at this
    exact this
  have HRD := Lib.hid hrd
  have HHL := Lib.hid hlen
  have i0 : (0 : Int) ≤ a := by omega
  have i1 : (a : Int) ≤ n := by omega
  have i2 : (n : Int) ≤ c := by omega
  have i3 : (a : Int) ≤ c := by omega
  have hk := readNum_ok _ (hb.dp a) (by rw [hr])
  rw [hr] at hk
  have hk1 : 1 ≤ (K : Int) := hk.1
  have hw1 := wrap_id (x := (n : Int) - a) (by omega) (by omega)
  have hw2 := wrap_id (x := (n : Int) - a - K) (by omega) (by omega)
  have hw3 := wrap_id (x := (a : Int) + K) (by omega) (by omega)
  have hw4 := wrap_id (x := (a : Int) + K + M) (by omega) (by omega)
  have hw5 := wrap_id (x := (K : Int) + M) (by omega) (by omega)
  have hw6 := wrap_id (x := (a : Int) + ((K : Int) + M)) (by omega) (by omega)
  have d3 : decide ((n : Int) - a - K < M) = false := decide_eq_false (by omega)
  have e1 : ((a + (K + M) : Nat) : Int) = (a : Int) + ((K : Int) + M) := by omega
  have HE1 := Lib.hid e1
  have HSH := Lib.hid hsh
  have HHK := Lib.hid hk1
  clear h hb hlen hrd hr hk e1
  by_cases hmn : most < M
  case' pos =>
    have d1 : decide (most < (M : Int)) = true := decide_eq_true hmn
    have d2 : decide (0 < M) = false := decide_eq_false (by omega)
  case' neg =>
    have d1 : decide (most < (M : Int)) = false := decide_eq_false hmn
  all_goals
    clear hlg hmn hsh hk1
    go_enter Try.func51, Try.ntmps51
    go_wp2_with fail
    go_quiet (first | (go_at_call 65; refine (Read_calls _ _ (l.drop a) _ (Kd.C_drewN HRD.out _) (HY.out.dp a) (by omega)).mono ?_; rintro e w' ⟨rfl, ⟨nd, rfl⟩⟩; exact ⟨rfl, _, World.drewN_drewN _ _ _⟩))
    have HB3 := Lib.hid (pw_below_drewN (Below.refl w.heap.size w) nq)
    rw [HR.out]
    generalize w.drewN nq = w3 at HB3 ⊢
    generalize (if c = a then A else Option.map (fun x => x.add a) A) = AA
    have H3 := Lib.hid (H.out.below HB3.out)
    have HG3 := Lib.hid (Lib.grownBy_below (World.grownBy.refl w (some g)) HB3.out)
    clear x1 x2
    clear HRD
    have hsh := HSH.out
    have hk1 := HHK.out
    obtain ⟨ad, rfl, _⟩ := Rd.cells H3.out.row (by omega)
    have x1 := H3.out.x1
    have x2 := H3.out.x2
    go_wp2_with fail
    go_quiet (fail)
    rename_i nq
    have H4 := Lib.hid (H3.out.below (pw_below_drewN (Below.refl _ _) nq))
    have HG4 := Lib.hid (Lib.grownBy_below HG3.out (pw_below_drewN (Below.refl _ _) nq))
    generalize w3.drewN nq = w4 at H4 HG4 ⊢
    clear x1 x2 d1
    have x1 := H4.out.x1
    have x2 := H4.out.x2
    have HT := Lib.hid (show ∀ W, Below w4.heap.size w4 W → Rd W (some (ad.add (a + K))) M ((l.take (a + (K + M))).drop (a + K)) from fun W hb => by
      have hq := Rd.mid (x := ad.add (a + K)) (Kd.C_below H4.out.row hb) (a + K) (a + (K + M)) (by omega) (by omega) (fun _ => rfl)
      rwa [show a + (K + M) - (a + K) = M by omega] at hq)
    have k0 := fun i => Kd.C_string (P := Try.prog) (src := 22) (dst := 9) (e := 5) Try.underlying22 Try.underlying5 Try.underlying9 (c := c - (a + K)) (HT.out (w4.drewN i) (pw_below_drewN (Below.refl _ _) _))
    have g3 : (0 : Int) ≤ (a : Int) + K := by omega
    have g4 : (0 : Int) ≤ (a : Int) + K + M := by omega
    have g5 : (a : Int) + K ≤ c := by omega
    have g6 : (a : Int) + K + M ≤ c := by omega
    have g7 : (a : Int) + K ≤ (a : Int) + K + M := by omega
    have g8 : ((a : Int) + K).toNat = a + K := by omega
    have g9 : ((a : Int) + K + M).toNat = a + K + M := by omega
    have g11 : a + K + M - (a + K) = M := by omega
    go_wp2_with fail
    by_cases hc : c = a + K
    · obtain rfl : M = 0 := by omega
      subst hc
      clear g3 g4 g5 g6 g7 g8 g9 g11 k0
      have g3 : (0 : Int) ≤ (a : Int) + K := by omega
      have g8 : ((a : Int) + K).toNat = a + K := by omega
      have k0 := fun i => Kd.C_string (P := Try.prog) (src := 22) (dst := 9) (e := 5) Try.underlying22 Try.underlying5 Try.underlying9 (c := 0) (Rd.empty (w4.drewN i) (some ad))
      have HNL := Lib.hid (show (l.take (a + (K + 0))).drop (a + K) = [] from List.drop_eq_nil_of_le (by rw [List.length_take]; omega))
      go_quiet (fail)
      have H5 := Lib.hid (H4.out.below (pw_below_drewN (Below.refl _ _) nq))
      have HG5 := Lib.hid (Lib.grownBy_below HG4.out (pw_below_drewN (Below.refl _ _) nq))
      generalize w4.drewN nq = w5 at H5 HG5 ⊢
      clear x1 x2 k0 g3 g8
      have x1 := H5.out.x1
      have x2 := H5.out.x2
      have f2 := H5.out.f2
      have H6 : RCur (w5.setCell ⟨g, 1, none⟩ (.int .i64 ((a : Int) + K))) g (some ad) n (a + K) l (a + (K + 0)) := by
        have := H5.out.set (a + (K + 0)) (by omega)
        rwa [show ((a + (K + 0) : Nat) : Int) = (a : Int) + K by omega] at this
      have hg6 : w.grownBy (w5.setCell ⟨g, 1, none⟩ (.int .i64 ((a : Int) + K))) (some g) := Lib.grownBy_setB HG5.out 1 _
      have H6' := Lib.hid H6
      have HG6 := Lib.hid hg6
      clear H6 hg6
      go_wp2
      go_ret2
      exact ⟨by rw [HNL.out]; rfl, H6'.out, HG6.out⟩
    · go_quiet (fail)
      have H5 := Lib.hid (H4.out.below (pw_below_drewN (Below.refl _ _) nq))
      have HG5 := Lib.hid (Lib.grownBy_below HG4.out (pw_below_drewN (Below.refl _ _) nq))
      generalize w4.drewN nq = w5 at H5 HG5 ⊢
      clear x1 x2 k0 g3 g4 g5 g6 g7 g8 g9 g11
      have x1 := H5.out.x1
      have x2 := H5.out.x2
      have f2 := H5.out.f2
      have H6 : RCur (w5.setCell ⟨g, 1, none⟩ (.int .i64 ((a : Int) + ((K : Int) + M)))) g (some ad) n c l (a + (K + M)) := by
        have := H5.out.set (a + (K + M)) (by omega)
        rwa [HE1.out] at this
      have hg6 : w.grownBy (w5.setCell ⟨g, 1, none⟩ (.int .i64 ((a : Int) + ((K : Int) + M)))) (some g) := Lib.grownBy_setB HG5.out 1 _
      have H6' := Lib.hid H6
      have HG6 := Lib.hid hg6
      clear H6 hg6
      go_wp2
      go_ret2
      exact ⟨rfl, H6'.out, HG6.out⟩
theorem RText_calls (most : Int) (w : World) (h : RCur w g A n c l a) (hb : Bytes l) (hs : n ≤ 140737488355328) :
    Calls Try.prog 51 #[.pointer (some ⟨g, 0, none⟩), .int .i64 most] w fun e w' => e = .returned (.tuple #[.string (strOfNums (readText (l.drop a) most).1), .int .i64 (readText (l.drop a) most).2.2]) ∧ RCur w' g A n c l (a + (readText (l.drop a) most).2.1) ∧ w.grownBy w' (some g) := by
  have hlen := Kd.C_len h.row
  have hle := h.le
  unfold readText
  by_cases hE : (readNum (l.drop a)).2.2 = 0
  · have hk := readNum_ok _ (hb.dp a) hE
    have hr : readNum (l.drop a) = ((readNum (l.drop a)).1, ((readNum (l.drop a)).2.1.toNat : Int), 0) := by rw [← hE, Int.toNat_of_nonneg (by omega)]
    rw [if_neg (by simp [hE])]
    by_cases h1 : max most 0 < (readNum (l.drop a)).1
    · rw [if_pos h1]
      exact RText_long most w h hb hs _ _ hr h1
    rw [if_neg h1]
    have hdl : (l.drop a).length = n - a := by rw [List.length_drop, hlen]
    by_cases h2 : ((l.drop a).length : Int) - (readNum (l.drop a)).2.1 < (readNum (l.drop a)).1
    · rw [if_pos h2]
      exact RText_short most w h hb hs _ _ hr h1 (by omega)
    rw [if_neg h2]
    refine (RText_ok most w h hb hs _ _ hr (readNum (l.drop a)).1.toNat (by omega) h1 (by omega)).mono fun e w' ⟨h1, h2, h3⟩ => ⟨?_, h2, h3⟩
    rw [h1, List.take_drop, List.drop_drop, ← Nat.add_assoc]
  · have hk := readNum_bad _ hE
    rw [if_pos hE]
    exact RText_bad most w h hb hs (readNum (l.drop a)).2.2 hE (Prod.ext hk.1 (Prod.ext hk.2 rfl))
end Go.Proofs.Ythbdgakeglppbaa
