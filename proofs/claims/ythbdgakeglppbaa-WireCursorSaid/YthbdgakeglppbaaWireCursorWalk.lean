/- WireCursor: the walk of the law. -/
import Derived.Test.YthbdgakeglppbaaCursorRef
import Derived.Test.YthbdgakeglppbaaClone
import Derived.Test.YthbdgakeglppbaaSumRef
import Derived.Test.YthbdgakeglppbaaTorn
import Derived.Test.YthbdgakeglppbaaInts
import Derived.Deep.Slices
namespace Go.Proofs.Ythbdgakeglppbaa
open Go.RowKit Go.Proofs.YthbdgakeglppbaaW.PrintWords
/-- Asks in memory: two numbers each. -/
def Asks (w : World) (A : Option Addr) (n : Nat) (F G : Nat → Int) : Prop := ∀ i, i < n → ∃ ad, A = some ad ∧ w.cell? (ad.add (i * 2)) = some (.int .i64 (F i)) ∧ w.cell? (ad.add (i * 2 + 1)) = some (.int .i64 (G i))
theorem Rd.lt {w : World} {A : Option Addr} {n : Nat} {l : List Int} (h : Rd w A n l) (ad : Addr) (he : A = some ad) (hp : 0 < n) : ad.block < w.heap.size := by
  obtain ⟨ad', e', hc⟩ := Rd.cells h hp
  rw [he] at e'
  cases e'
  have h0 := hc 0 hp
  rw [add_zero_addr] at h0
  unfold World.cell? at h0
  rcases Nat.lt_or_ge ad.block w.heap.size with hl | hl
  · exact hl
  · rw [Array.getElem?_eq_none hl] at h0
    cases h0
theorem Cur.grown0 {w w' : World} {g p : Nat} {A : Option Addr} {n c : Nat} {l : List Int} {a : Nat} (h : Cur w g p A n c l a) {row : Option Nat} (hg : w.grownBy w' row) (h1 : some g ≠ row) (h2 : some p ≠ row) (h3 : ∀ ad, A = some ad → 0 < n → some ad.block ≠ row) : Cur w' g p A n c l a :=
  ⟨(hg.block g (lt_of_heap h.own) h1).trans h.own, (hg.block p (lt_of_heap h.place) h2).trans h.place, h.row.grown0 hg h3, h.part, h.far, h.cap, h.le⟩
theorem some_ne {a b : Nat} (h : a ≠ b) : some a ≠ some b := fun e => h (Option.some.inj e)
theorem Asks.next {W : World} {a : Addr} {m : Nat} {v : Value} (h : W.cell? (a.add (m + 1)) = some v) : W.cell? ⟨(a.add m).block, (a.add m).off + 1, none⟩ = some v := by
  rw [← Deep.add_add] at h
  have e : (a.add m).add 1 = ⟨(a.add m).block, (a.add m).off + 1, none⟩ := by
    conv => lhs; unfold Addr.add
    rw [if_neg (by omega)]
    rfl
  rwa [e] at h
set_option maxRecDepth 20000 in
set_option maxHeartbeats 4000000 in
theorem WireCursor_main (A0 : Option Addr) (c0 : Nat) (l0 : List Int) (A1 : Option Addr) (n1 c1 : Nat) (F G : Nat → Int) (w : World) (hr0 : Rd w A0 l0.length l0) (hc0 : l0.length ≤ c0) (hb0 : Bytes l0) (hl0 : l0.length ≤ 262144) (hk : Asks w A1 n1 F G) (hn1 : n1 ≤ 1000) :
    Calls Try.prog 15 #[.slice A0 l0.length c0, .slice A1 n1 c1] w fun e w' => e = .returned (.bool true) ∧ Below w.heap.size w w' := by
  have hd : decide (262144 < l0.length) = false := decide_eq_false (by omega)
  have hd2 : decide (1000 < n1) = false := decide_eq_false (by omega)
  have HR := Lib.hid hr0
  have HY := Lib.hid hb0
  have HK := Lib.hid hk
  have HA0 := Lib.hid (show ∀ ad, A0 = some ad → 0 < l0.length → ad.block < w.heap.size by
    intro ad he hp
    exact Rd.lt hr0 ad he hp)
  clear hr0 hb0 hk
  go_enter Try.func15, Try.ntmps15
  go_wp2_with fail
  refine (bytes_Clone.calls A0 c0 l0 l0 _ HR.out hc0 (if_pos (by omega))).mono ?_
  rintro e w1 ⟨v1, rfl, ho1, hb1⟩
  replace ho1 : Own w w1 v1 l0 := ho1
  obtain ⟨A2, c2, rfl, hc2, hrd1⟩ := Own.reads ho1
  have HO1 := Lib.hid ho1
  have HB1 := Lib.hid hb1
  have HR1 := Lib.hid hrd1
  clear ho1 hb1 hrd1
  obtain ⟨n0, hn0⟩ : ∃ n0, n0 = l0.length := ⟨_, rfl⟩
  rw [← hn0] at hd hc0 hl0 HR HA0 HO1 hc2 HR1 ⊢
  have HL := Lib.hid hn0.symm
  clear hn0
  go_wp2_with fail
  refine (From_calls A2 c2 l0 _ HR1.out (by omega)).mono ?_
  rintro e w2 ⟨g, p, A, c, rfl, hcur, hg, hp, hA, hb⟩
  have HC2 := Lib.hid hcur
  have HB2 := Lib.hid (below_step HB1.out hb)
  have HO2 := Lib.hid (HO1.out.below hb)
  have HGP := Lib.hid (show w1.heap.size ≤ g ∧ w1.heap.size ≤ p ∧ (∀ ad, A = some ad → w1.heap.size ≤ ad.block) from ⟨hg, hp, hA⟩)
  have HGG := Lib.hid (show 0 < n0 → ∃ gg, A2 = some ⟨gg, 0, none⟩ ∧ w.heap.size ≤ gg ∧ gg < w1.heap.size by
    intro hpos
    obtain ⟨gg, cap, e, _, h1, h2⟩ := HO1.out.form (by rw [HL.out]; exact hpos)
    injection e with e1 _ _
    exact ⟨gg, e1, h1, h2⟩)
  have hr3 : RCur (w2.alloc (.cells #[.slice A0 n0 c0, .int .i64 0] 69)) w2.heap.size A0 n0 c0 l0 0 := by
    refine ⟨heap_alloc_new _ _, Kd.C_below HR.out (below_alloc HB2.out _), fun ad he hp => ?_, hc0, by omega⟩
    have h1 := HA0.out ad he hp
    have h2 := HB2.out.size
    omega
  have hal : Below w2.heap.size w2 (w2.alloc (.cells #[.slice A0 n0 c0, .int .i64 0] 69)) := below_alloc (Below.refl _ _) _
  have HSZ := Lib.hid (show w1.heap.size ≤ w2.heap.size from hb.size)
  have HLT := Lib.hid (show g < w2.heap.size ∧ p < w2.heap.size ∧ (∀ ad, A = some ad → 0 < n0 → ad.block < w2.heap.size) from ⟨lt_of_heap hcur.own, lt_of_heap hcur.place, fun ad he hp => Rd.lt hcur.row ad he hp⟩)
  clear hcur hg hp hA hb HR1
  go_wp2
  obtain ⟨r, hr⟩ : ∃ r, r = w2.heap.size := ⟨_, rfl⟩
  rw [← hr] at hr3 HSZ HLT ⊢
  have HO3 := Lib.hid (HO2.out.below hal)
  have HC3 := Lib.hid (HC2.out.below hal)
  have HB3 := Lib.hid (below_step HB2.out hal)
  obtain ⟨w3, hw3⟩ : ∃ w3, w3 = w2.alloc (.cells #[.slice A0 n0 c0, .int .i64 0] 69) := ⟨_, rfl⟩
  rw [← hw3] at hr3 HO3 HC3 HB3 ⊢
  have HR3 := Lib.hid hr3
  clear hr3 hal hr hw3 HO2 HC2 HB2 HO1
  go_loopw [38] (fun i wr => ∃ (k : Nat) (l' : List Int), k ≤ n0 ∧ i = .int .i64 k ∧ Hid (Own w wr (.slice A2 n0 c2) l') ∧ Hid (Bytes l') ∧ Hid (l'.length = n0) ∧ Hid (Cur wr g p A n0 c l0 0) ∧ Hid (RCur wr r A0 n0 c0 l0 0) ∧ Hid (Below w.heap.size w wr)) (fun i _ => n0 - (intOf i).toNat)
  case atStart => exact ⟨0, l0, by omega, rfl, HO3, HY, HL, HC3, HR3, HB3⟩
  case round =>
    obtain ⟨k, l', hk, rfl, HO, HYl, HLl, HC, HRC, HB⟩ := hrel
    by_cases hkn : k < n0
    · have dkn : decide ((k : Int) < n0) = true := decide_eq_true (by omega)
      obtain ⟨gg, rfl, hg1, hg2⟩ := HGG.out (by omega)
      obtain ⟨hc, hf⟩ := Own.cell HO.out k hkn
      obtain ⟨x, hx⟩ : ∃ x, x = rd l' k := ⟨_, rfl⟩
      obtain ⟨x0, x1⟩ := bytes_rd HYl.out k (by rw [HLl.out]; exact hkn)
      rw [← hx] at hc x0 x1
      obtain ⟨⟨y0, y1⟩, _⟩ := xor8_ne x 255 x0 x1 (by omega) (by omega)
      obtain ⟨y, hy⟩ : ∃ y, bits .xor .u8 x 255 = y := ⟨_, rfl⟩
      rw [hy] at y0 y1
      have hgr := Lib.grownBy_setCell wr gg k (.int .u8 y)
      have HO4 := Lib.hid (Own.put HO.out k y)
      have HY4 := Lib.hid (show Bytes (l'.set k y) from fun z hz => by
        rcases List.mem_or_eq_of_mem_set hz with hz | rfl
        · exact HYl.out z hz
        · exact ⟨y0, y1⟩)
      have HL4 := Lib.hid (show (l'.set k y).length = n0 by rw [List.length_set, HLl.out])
      have HC4 := Lib.hid (HC.out.grown hgr (by have := HGP.out; intro e; cases e; omega) (by have := HGP.out; intro e; cases e; omega) (fun ad he e => by
        have := HGP.out.2.2 ad he
        injection e with e
        omega))
      have HR4 := Lib.hid (HRC.out.grown hgr (by have := HSZ.out; intro e; cases e; omega) (fun ad he hp e => by
        have := HA0.out ad he hp
        injection e with e
        omega))
      have HB4 := Lib.hid (HB.out.grown hgr HB.out.size (fun q hq => by cases hq; exact hg1))
      clear hgr hx
      go_wp2
      go_roundw
      case rel => exact ⟨k + 1, l'.set k y, by omega, by go_num, HO4, HY4, HL4, HC4, HR4, HB4⟩
      case measure => simp [intOf]; omega
    · obtain rfl : k = n0 := by omega
      have dkn : decide ((k : Int) < k) = false := decide_eq_false (by omega)
      clear HO HYl HLl HO3 HC3 HR3 HB3 HGG hk
      go_wp2
      go_loopw [50] (fun i wr => ∃ (q : Nat) (a : Nat), q ≤ n1 ∧ a ≤ k ∧ i = .int .i64 q ∧ Hid (Cur wr g p A k c l0 a) ∧ Hid (RCur wr r A0 k c0 l0 a) ∧ Hid (Below w.heap.size w wr)) (fun i _ => n1 - (intOf i).toNat)
      case atStart => exact ⟨0, 0, by omega, by omega, rfl, HC, HRC, HB⟩
      case round =>
        clear HC HRC HB
        obtain ⟨q, a, hq, ha, rfl, HC, HRC, HB⟩ := hrel
        by_cases hqn : q < n1
        · have dqn : decide ((q : Int) < n1) = true := decide_eq_true (by omega)
          obtain ⟨ad1, rfl, hF, hG⟩ := HK.out q hqn
          have hF' := pw_cell_below HB.out hF
          have hG' := Asks.next (pw_cell_below HB.out hG)
          clear hF hG
          obtain ⟨z, hz⟩ : ∃ z, (IntKind.u64.wrap (F q)).tmod 5 = z := ⟨_, rfl⟩
          have hz5 : z = 0 ∨ z = 1 ∨ z = 2 ∨ z = 3 ∨ z = 4 := by
            have h1 := u64_wrap_range (F q)
            rw [Int.tmod_eq_emod_of_nonneg h1.1] at hz
            omega
          have hal : Below wr.heap.size wr (wr.alloc (.cells #[.int .i64 (F q), .int .i64 (G q)] 71)) := below_alloc (Below.refl _ _) _
          have HC4 := Lib.hid (HC.out.below hal)
          have HR4 := Lib.hid (HRC.out.below hal)
          have HB4 := Lib.hid (below_step HB.out hal)
          clear hal
          rcases hz5 with rfl | rfl | rfl | rfl | rfl
          · obtain ⟨N, hN⟩ : ∃ N, N = (if a < k then rd l0 a else 0) := ⟨_, rfl⟩
            obtain ⟨E, hE⟩ : ∃ E : Int, E = (if a < k then 0 else 2) := ⟨_, rfl⟩
            obtain ⟨a2, ha2⟩ : ∃ a2, a2 = (if a < k then a + 1 else a) := ⟨_, rfl⟩
            have hle : a2 ≤ k := by rw [ha2]; split <;> omega
            have K1 := Byte_calls _ HC4.out HY.out
            have K2 := fun (W : World) (h : RCur W r A0 k c0 l0 a) => RByte_calls W h HY.out
            rw [← hN, ← hE, ← ha2] at K1
            have K2' : ∀ (W : World), RCur W r A0 k c0 l0 a → Calls Try.prog 49 #[.pointer (some ⟨r, 0, none⟩)] W fun e w' => e = .returned (.tuple #[.int .i64 N, .int .i64 E]) ∧ RCur w' r A0 k c0 l0 a2 ∧ W.grownBy w' (some r) := by
              intro W h
              have := K2 W h
              rw [← hN, ← hE, ← ha2] at this
              exact this
            have HK1 := Lib.hid K1
            have HK2 := Lib.hid K2'
            clear hN hE ha2 K1 K2 K2'
            go_wp2_with fail
            refine HK1.out.mono ?_
            rintro e w5 ⟨rfl, hc5, hg5⟩
            have HC5 := Lib.hid hc5
            have HR5 := Lib.hid (HR4.out.grown hg5 (some_ne (by have := HLT.out; omega)) (fun ad he hp => some_ne (by have := HA0.out ad he hp; have := HGP.out; have := HB1.out.size; omega)))
            have HB5 := Lib.hid (HB4.out.grown hg5 HB4.out.size (fun k hk => by cases hk; have := HGP.out; have := HB1.out.size; omega))
            clear hc5 hg5 HK1
            go_wp2_with fail
            refine (HK2.out _ HR5.out).mono ?_
            rintro e w6 ⟨rfl, hr6, hg6⟩
            have HC6 := Lib.hid (HC5.out.grown0 hg6 (some_ne (by have := HLT.out; omega)) (some_ne (by have := HLT.out; omega)) (fun ad he hp => some_ne (by have := HLT.out.2.2 ad he hp; omega)))
            have HR6 := Lib.hid hr6
            have HB6 := Lib.hid (HB5.out.grown hg6 HB5.out.size (fun k hk => by cases hk; have := HSZ.out; have := HB1.out.size; omega))
            clear hr6 hg6 HC5 HR5 HB5 HC4 HR4 HB4
            clear HK2 hF' hG' hz
            have x2 := HR6.out.x2
            go_wp2_with fail
            go_quiet (first | (go_at_call 46; refine (At_calls _ (HC6.out.below (pw_below_drewN (Below.refl _ _) _))).mono ?_; rintro e w' ⟨rfl, ⟨nd, rfl⟩⟩; exact ⟨rfl, _, World.drewN_drewN _ _ _⟩))
            have hdb := pw_below_drewN (Below.refl w6.heap.size w6) nq
            have HC7 := Lib.hid (HC6.out.below hdb)
            have HR7 := Lib.hid (HR6.out.below hdb)
            have HB7 := Lib.hid (below_step HB6.out hdb)
            generalize w6.drewN nq = w7 at HC7 HR7 HB7 ⊢
            clear hdb x2
            go_wp2
            go_roundw
            case rel => exact ⟨q + 1, a2, by omega, hle, by go_num, HC7, HR7, HB7⟩
            case measure => simp [intOf]; omega
          · obtain ⟨N, hN⟩ : ∃ N, N = (readNum (l0.drop a)).1 := ⟨_, rfl⟩
            obtain ⟨E, hE⟩ : ∃ E : Int, E = (readNum (l0.drop a)).2.2 := ⟨_, rfl⟩
            obtain ⟨a2, ha2⟩ : ∃ a2, a2 = a + (readNum (l0.drop a)).2.1.toNat := ⟨_, rfl⟩
            have hle : a2 ≤ k := by
              rw [ha2]
              by_cases h0 : (readNum (l0.drop a)).2.2 = 0
              · have := readNum_ok _ (HY.out.dp a) h0
                rw [List.length_drop, HL.out] at this
                omega
              · rw [(readNum_bad _ h0).2]
                exact ha
            have K1 := CNumber_calls _ HC4.out HY.out
            have K2 := fun (W : World) (h : RCur W r A0 k c0 l0 a) => RNumber_calls W h HY.out (by omega)
            rw [← hN, ← hE, ← ha2] at K1
            have K2' : ∀ (W : World), RCur W r A0 k c0 l0 a → Calls Try.prog 50 #[.pointer (some ⟨r, 0, none⟩)] W fun e w' => e = .returned (.tuple #[.int .i64 N, .int .i64 E]) ∧ RCur w' r A0 k c0 l0 a2 ∧ W.grownBy w' (some r) := by
              intro W h
              have := K2 W h
              rw [← hN, ← hE, ← ha2] at this
              exact this
            have HK1 := Lib.hid K1
            have HK2 := Lib.hid K2'
            clear hN hE ha2 K1 K2 K2'
            go_wp2_with fail
            refine HK1.out.mono ?_
            rintro e w5 ⟨rfl, hc5, hg5⟩
            have HC5 := Lib.hid hc5
            have HR5 := Lib.hid (HR4.out.grown hg5 (some_ne (by have := HLT.out; omega)) (fun ad he hp => some_ne (by have := HA0.out ad he hp; have := HGP.out; have := HB1.out.size; omega)))
            have HB5 := Lib.hid (HB4.out.grown hg5 HB4.out.size (fun k hk => by cases hk; have := HGP.out; have := HB1.out.size; omega))
            clear hc5 hg5 HK1
            go_wp2_with fail
            refine (HK2.out _ HR5.out).mono ?_
            rintro e w6 ⟨rfl, hr6, hg6⟩
            have HC6 := Lib.hid (HC5.out.grown0 hg6 (some_ne (by have := HLT.out; omega)) (some_ne (by have := HLT.out; omega)) (fun ad he hp => some_ne (by have := HLT.out.2.2 ad he hp; omega)))
            have HR6 := Lib.hid hr6
            have HB6 := Lib.hid (HB5.out.grown hg6 HB5.out.size (fun k hk => by cases hk; have := HSZ.out; have := HB1.out.size; omega))
            clear hr6 hg6 HC5 HR5 HB5 HC4 HR4 HB4
            clear HK2 hF' hG' hz
            have x2 := HR6.out.x2
            go_wp2_with fail
            go_quiet (first | (go_at_call 46; refine (At_calls _ (HC6.out.below (pw_below_drewN (Below.refl _ _) _))).mono ?_; rintro e w' ⟨rfl, ⟨nd, rfl⟩⟩; exact ⟨rfl, _, World.drewN_drewN _ _ _⟩))
            have hdb := pw_below_drewN (Below.refl w6.heap.size w6) nq
            have HC7 := Lib.hid (HC6.out.below hdb)
            have HR7 := Lib.hid (HR6.out.below hdb)
            have HB7 := Lib.hid (below_step HB6.out hdb)
            generalize w6.drewN nq = w7 at HC7 HR7 HB7 ⊢
            clear hdb x2
            go_wp2
            go_roundw
            case rel => exact ⟨q + 1, a2, by omega, hle, by go_num, HC7, HR7, HB7⟩
            case measure => simp [intOf]; omega
          · obtain ⟨N, hN⟩ : ∃ N, N = strOfNums (readText (l0.drop a) (G q)).1 := ⟨_, rfl⟩
            obtain ⟨E, hE⟩ : ∃ E : Int, E = (readText (l0.drop a) (G q)).2.2 := ⟨_, rfl⟩
            obtain ⟨a2, ha2⟩ : ∃ a2, a2 = a + (readText (l0.drop a) (G q)).2.1 := ⟨_, rfl⟩
            have hle : a2 ≤ k := by
              rw [ha2]
              by_cases h0 : (readText (l0.drop a) (G q)).2.2 = 0
              · have := (textForm_read _ (HY.out.dp a) (G q) h0).2
                rw [List.length_drop, HL.out] at this
                omega
              · rw [readText_bad _ _ h0]
                exact ha
            have K1 := CText_calls (G q) _ HC4.out HY.out
            have K2 := fun (W : World) (h : RCur W r A0 k c0 l0 a) => RText_calls (G q) W h HY.out (by omega)
            rw [← hN, ← hE, ← ha2] at K1
            have K2' : ∀ (W : World), RCur W r A0 k c0 l0 a → Calls Try.prog 51 #[.pointer (some ⟨r, 0, none⟩), .int .i64 (G q)] W fun e w' => e = .returned (.tuple #[.string N, .int .i64 E]) ∧ RCur w' r A0 k c0 l0 a2 ∧ W.grownBy w' (some r) := by
              intro W h
              have := K2 W h
              rw [← hN, ← hE, ← ha2] at this
              exact this
            have HK1 := Lib.hid K1
            have HK2 := Lib.hid K2'
            have hx1 : (wr.alloc (.cells #[.int .i64 (F q), .int .i64 (G q)] 71)).cell? ⟨wr.heap.size, 1, none⟩ = some (.int .i64 (G q)) := by go_simp
            have hpt : p ≠ wr.heap.size := by have := lt_of_heap HC.out.place; omega
            clear hN hE ha2 K1 K2 K2'
            go_wp2_with fail
            refine HK1.out.mono ?_
            rintro e w5 ⟨rfl, hc5, hg5⟩
            have HC5 := Lib.hid hc5
            have HR5 := Lib.hid (HR4.out.grown hg5 (some_ne (by have := HLT.out; omega)) (fun ad he hp => some_ne (by have := HA0.out ad he hp; have := HGP.out; have := HB1.out.size; omega)))
            have HB5 := Lib.hid (HB4.out.grown hg5 HB4.out.size (fun k hk => by cases hk; have := HGP.out; have := HB1.out.size; omega))
            have hx2 := hg5.cell hx1 (some_ne (Ne.symm hpt))
            clear hc5 hg5 HK1 hx1
            obtain ⟨tb, htb⟩ : ∃ tb, tb = wr.heap.size := ⟨_, rfl⟩
            rw [← htb] at hx2 ⊢
            clear htb hpt
            go_wp2_with fail
            refine (HK2.out _ HR5.out).mono ?_
            rintro e w6 ⟨rfl, hr6, hg6⟩
            have HC6 := Lib.hid (HC5.out.grown0 hg6 (some_ne (by have := HLT.out; omega)) (some_ne (by have := HLT.out; omega)) (fun ad he hp => some_ne (by have := HLT.out.2.2 ad he hp; omega)))
            have HR6 := Lib.hid hr6
            have HB6 := Lib.hid (HB5.out.grown hg6 HB5.out.size (fun k hk => by cases hk; have := HSZ.out; have := HB1.out.size; omega))
            clear hr6 hg6 HC5 HR5 HB5 HC4 HR4 HB4
            clear HK2 hF' hG' hz hx2
            have x2 := HR6.out.x2
            go_wp2_with fail
            go_quiet (first | (go_at_call 46; refine (At_calls _ (HC6.out.below (pw_below_drewN (Below.refl _ _) _))).mono ?_; rintro e w' ⟨rfl, ⟨nd, rfl⟩⟩; exact ⟨rfl, _, World.drewN_drewN _ _ _⟩))
            have hdb := pw_below_drewN (Below.refl w6.heap.size w6) nq
            have HC7 := Lib.hid (HC6.out.below hdb)
            have HR7 := Lib.hid (HR6.out.below hdb)
            have HB7 := Lib.hid (below_step HB6.out hdb)
            generalize w6.drewN nq = w7 at HC7 HR7 HB7 ⊢
            clear hdb x2
            go_wp2
            go_roundw
            case rel => exact ⟨q + 1, a2, by omega, hle, by go_num, HC7, HR7, HB7⟩
            case measure => simp [intOf]; omega
          · by_cases hak : a < k
            · have dak : decide ((a : Int) < k) = true := decide_eq_true (by omega)
              have dak2 : decide (a < k) = true := decide_eq_true hak
              go_wp2_with fail
              refine (End_more _ HC4.out hak).mono ?_
              rintro e w5 ⟨rfl, hd5⟩
              have HC6' := Lib.hid (HC4.out.below hd5.below)
              have HR6' := Lib.hid (HR4.out.below hd5.below)
              have HB6' := Lib.hid (below_step HB4.out hd5.below)
              obtain ⟨w6, hw6⟩ : ∃ w6, w6 = w5 := ⟨_, rfl⟩
              rw [← hw6] at HC6' HR6' HB6' ⊢
              have HC6 := HC6'
              have HR6 := HR6'
              have HB6 := HB6'
              clear hd5 hw6 HC6' HR6' HB6' HC4 HR4 HB4 hF' hG' hz
              have x2 := HR6.out.x2
              go_wp2_with fail
              go_quiet (first | (go_at_call 46; refine (At_calls _ (HC6.out.below (pw_below_drewN (Below.refl _ _) _))).mono ?_; rintro e w' ⟨rfl, ⟨nd, rfl⟩⟩; exact ⟨rfl, _, World.drewN_drewN _ _ _⟩))
              have hdb := pw_below_drewN (Below.refl w6.heap.size w6) nq
              have HC7 := Lib.hid (HC6.out.below hdb)
              have HR7 := Lib.hid (HR6.out.below hdb)
              have HB7 := Lib.hid (below_step HB6.out hdb)
              generalize w6.drewN nq = w7 at HC7 HR7 HB7 ⊢
              clear hdb x2
              go_wp2
              go_roundw
              case rel => exact ⟨q + 1, a, by omega, ha, by go_num, HC7, HR7, HB7⟩
              case measure => simp [intOf]; omega
              
            · have dak : decide ((a : Int) < k) = false := decide_eq_false (by omega)
              have dak2 : decide (a < k) = false := decide_eq_false hak
              go_wp2_with fail
              refine (End_ok _ HC4.out (by omega)).mono ?_
              rintro e w5 ⟨rfl, hd5⟩
              have HC6' := Lib.hid (HC4.out.below hd5.below)
              have HR6' := Lib.hid (HR4.out.below hd5.below)
              have HB6' := Lib.hid (below_step HB4.out hd5.below)
              obtain ⟨w6, hw6⟩ : ∃ w6, w6 = w5 := ⟨_, rfl⟩
              rw [← hw6] at HC6' HR6' HB6' ⊢
              have HC6 := HC6'
              have HR6 := HR6'
              have HB6 := HB6'
              clear hd5 hw6 HC6' HR6' HB6' HC4 HR4 HB4 hF' hG' hz
              have x2 := HR6.out.x2
              go_wp2_with fail
              go_quiet (first | (go_at_call 46; refine (At_calls _ (HC6.out.below (pw_below_drewN (Below.refl _ _) _))).mono ?_; rintro e w' ⟨rfl, ⟨nd, rfl⟩⟩; exact ⟨rfl, _, World.drewN_drewN _ _ _⟩))
              have hdb := pw_below_drewN (Below.refl w6.heap.size w6) nq
              have HC7 := Lib.hid (HC6.out.below hdb)
              have HR7 := Lib.hid (HR6.out.below hdb)
              have HB7 := Lib.hid (below_step HB6.out hdb)
              generalize w6.drewN nq = w7 at HC7 HR7 HB7 ⊢
              clear hdb x2
              go_wp2
              go_roundw
              case rel => exact ⟨q + 1, a, by omega, ha, by go_num, HC7, HR7, HB7⟩
              case measure => simp [intOf]; omega
              
          · go_upto_region 17 with (fail)
            obtain ⟨tb, htb⟩ : ∃ tb, tb = wr.heap.size := ⟨_, rfl⟩
            obtain ⟨w4, hw4⟩ : ∃ w4, w4 = wr.alloc (.cells #[.int .i64 (F q), .int .i64 (G q)] 71) := ⟨_, rfl⟩
            rw [← hw4] at HC4 HR4 HB4 ⊢
            rw [← htb]
            clear hw4 htb hF' hG' hz
            go_cut [13, 14] (fun s t wc => ∃ S : ByteArray, s = .string S ∧ t = .string S ∧ Hid (Cur wc g p A k c l0 k) ∧ Hid (RCur wc r A0 k c0 l0 a) ∧ Hid (Below w.heap.size w wc))
            case first =>
              have hdl : (l0.drop a).length = k - a := by rw [List.length_drop, HL.out]
              have i0 : (0 : Int) ≤ a := by omega
              have i1 : (a : Int) ≤ k := by omega
              have i2 : (k : Int) ≤ c0 := by omega
              by_cases hca : c0 = a
              · obtain rfl : a = k := by omega
                subst hca
                have HDL := Lib.hid (show (l0.drop c0).length = 0 by rw [hdl]; omega)
                have HDN := Lib.hid (List.eq_nil_of_length_eq_zero HDL.out)
                have HSTR := Lib.hid (fun (W : World) (hb : Below w.heap.size w W) => Kd.C_string (P := Try.prog) (src := 22) (dst := 9) (e := 5) Try.underlying22 Try.underlying5 Try.underlying9 (c := 0) (Rd.empty W A0))
                clear hdl
                have x2d := (HR4.out.below (below_drew (Below.refl _ _))).x2
                have ksd := HSTR.out _ (below_drew HB4.out)
                go_region_with (go_at_call 47; refine (Rest_calls _ (HC4.out.below (below_drew (Below.refl _ _))) (by omega)).mono ?_; rintro e w5 ⟨v5, rfl, ho5, hc5, hg5⟩; obtain ⟨A5, c5, rfl, hcc5, hrd5⟩ := ho5.reads; rw [HDL.out] at hcc5 hrd5 ⊢; have HC5 := Lib.hid hc5; have HR5 := Lib.hid ((HR4.out.below (below_drew (Below.refl _ _))).grown hg5 (some_ne (by have := HLT.out; omega)) (fun ad he hp => some_ne (by have := HA0.out ad he hp; have := HGP.out; have := HB1.out.size; omega))); have HB5 := Lib.hid ((below_drew HB4.out).grown hg5 (below_drew HB4.out).size (fun k hk => by cases hk; have := HGP.out; have := HB1.out.size; omega)); have x2e := HR5.out.x2; have x2f := fun j => (HR5.out.below (pw_below_drewN (Below.refl _ _) j)).x2; have ks1 := HSTR.out _ HB5.out; have ks2 := fun j => HSTR.out _ (pw_below_drewN HB5.out j); have ks3 := fun j => Kd.C_string (P := Try.prog) (src := 22) (dst := 9) (e := 5) Try.underlying22 Try.underlying5 Try.underlying9 (c := c5) (Kd.C_drewN hrd5 j); have ks4 := Kd.C_string (P := Try.prog) (src := 22) (dst := 9) (e := 5) Try.underlying22 Try.underlying5 Try.underlying9 (c := c5) hrd5; clear ho5 hc5 hg5 hrd5)
                all_goals
                  go_wp2
                  go_meet
                  case rel => exact ⟨strOfNums (l0.drop c0), by first | rfl | (rw [HDN.out]), by first | rfl | (rw [HDN.out]), HC5, HR5, HB5⟩
              · have hdrop : Rd w (Option.map (fun x => x.add a) A0) (k - a) (l0.drop a) := by
                  have h1 := HR.out
                  rw [← HL.out] at h1
                  have := Kd.C_drop (k := Kd.int .u8) (m := a) (c := c0) h1 (by rw [HL.out]; omega) (by rw [HL.out]; omega)
                  rw [show a * (Kd.int .u8).sz = a from Nat.mul_one a, hdl, if_neg hca] at this
                  exact this
                have HSTR := Lib.hid (fun (W : World) (hb : Below w.heap.size w W) => Kd.C_string (P := Try.prog) (src := 22) (dst := 9) (e := 5) Try.underlying22 Try.underlying5 Try.underlying9 (c := c0 - a) (Kd.C_below hdrop hb))
                have HDL := Lib.hid hdl
                clear hdrop hdl
                have x2d := (HR4.out.below (below_drew (Below.refl _ _))).x2
                have ksd := HSTR.out _ (below_drew HB4.out)
                go_region_with (go_at_call 47; refine (Rest_calls _ (HC4.out.below (below_drew (Below.refl _ _))) (by omega)).mono ?_; rintro e w5 ⟨v5, rfl, ho5, hc5, hg5⟩; obtain ⟨A5, c5, rfl, hcc5, hrd5⟩ := ho5.reads; rw [HDL.out] at hcc5 hrd5 ⊢; have HC5 := Lib.hid hc5; have HR5 := Lib.hid ((HR4.out.below (below_drew (Below.refl _ _))).grown hg5 (some_ne (by have := HLT.out; omega)) (fun ad he hp => some_ne (by have := HA0.out ad he hp; have := HGP.out; have := HB1.out.size; omega))); have HB5 := Lib.hid ((below_drew HB4.out).grown hg5 (below_drew HB4.out).size (fun k hk => by cases hk; have := HGP.out; have := HB1.out.size; omega)); have x2e := HR5.out.x2; have x2f := fun j => (HR5.out.below (pw_below_drewN (Below.refl _ _) j)).x2; have ks1 := HSTR.out _ HB5.out; have ks2 := fun j => HSTR.out _ (pw_below_drewN HB5.out j); have ks3 := fun j => Kd.C_string (P := Try.prog) (src := 22) (dst := 9) (e := 5) Try.underlying22 Try.underlying5 Try.underlying9 (c := c5) (Kd.C_drewN hrd5 j); have ks4 := Kd.C_string (P := Try.prog) (src := 22) (dst := 9) (e := 5) Try.underlying22 Try.underlying5 Try.underlying9 (c := c5) hrd5; clear ho5 hc5 hg5 hrd5)
                all_goals
                  go_wp2
                  go_meet
                  case rel => exact ⟨strOfNums (l0.drop a), by first | rfl | (rw [HDN.out]), by first | rfl | (rw [HDN.out]), HC5, HR5, HB5⟩
            case rest =>
              obtain ⟨S, rfl, rfl, HC5, HR5, HB5⟩ := hcut
              have x1 := HR5.out.x1
              have x2 := HR5.out.x2
              have f2 := HR5.out.f2
              have hH6 := HR5.out.set k (Nat.le_refl _)
              have hg6 := Lib.grownBy_setCell wc r 1 (.int .i64 k)
              have HC6 := Lib.hid (HC5.out.grown0 hg6 (some_ne (by have := HLT.out; omega)) (some_ne (by have := HLT.out; omega)) (fun ad he hp => some_ne (by have := HLT.out.2.2 ad he hp; omega)))
              have HR6 := Lib.hid hH6
              have HB6 := Lib.hid (HB5.out.grown hg6 HB5.out.size (fun k hk => by cases hk; have := HSZ.out; have := HB1.out.size; omega))
              clear hg6 hH6 HC4 HR4 HB4
              go_upto_region 32 with (fail)
              obtain ⟨w6, hw6⟩ : ∃ w6, w6 = wc.setCell ⟨r, 1, none⟩ (.int .i64 k) := ⟨_, rfl⟩
              rw [← hw6] at HC6 HR6 HB6 ⊢
              clear hw6 x1 x2 f2 HC5 HR5 HB5
              have x2 := HR6.out.x2
              go_wp2_with fail
              go_quiet (first | (go_at_call 46; refine (At_calls _ (HC6.out.below (pw_below_drewN (Below.refl _ _) _))).mono ?_; rintro e w' ⟨rfl, ⟨nd, rfl⟩⟩; exact ⟨rfl, _, World.drewN_drewN _ _ _⟩))
              have hdb := pw_below_drewN (Below.refl w6.heap.size w6) nq
              have HC7 := Lib.hid (HC6.out.below hdb)
              have HR7 := Lib.hid (HR6.out.below hdb)
              have HB7 := Lib.hid (below_step HB6.out hdb)
              generalize w6.drewN nq = w7 at HC7 HR7 HB7 ⊢
              clear hdb x2
              go_wp2
              go_roundw
              case rel => exact ⟨q + 1, k, by omega, by omega, by go_num, HC7, HR7, HB7⟩
              case measure => simp [intOf]; omega
        · obtain rfl : q = n1 := by omega
          have dqn : decide ((q : Int) < q) = false := decide_eq_false (by omega)
          have x2 := HRC.out.x2
          go_wp2_with fail
          go_quiet (first | (go_at_call 46; refine (At_calls _ (HC.out.below (pw_below_drewN (Below.refl _ _) _))).mono ?_; rintro e w' ⟨rfl, ⟨nd, rfl⟩⟩; exact ⟨rfl, _, World.drewN_drewN _ _ _⟩))
          have hdb := pw_below_drewN (Below.refl wr.heap.size wr) nq
          have HB7 := Lib.hid (below_step HB.out hdb)
          generalize wr.drewN nq = w7 at HB7 ⊢
          go_wp2
          go_ret
          exact ⟨rfl, HB7.out⟩
set_option maxRecDepth 20000 in
set_option maxHeartbeats 800000 in
theorem WireCursor_early (A0 : Option Addr) (n0 c0 : Nat) (A1 : Option Addr) (n1 c1 : Nat) (w : World) (hbig : 262144 < n0 ∨ 1000 < n1) :
    Calls Try.prog 15 #[.slice A0 n0 c0, .slice A1 n1 c1] w fun e w' => e = .returned (.bool true) ∧ Below w.heap.size w w' := by
  by_cases h1 : 262144 < n0
  case' pos =>
    have hd : decide (262144 < n0) = true := decide_eq_true h1
  case' neg =>
    have hd : decide (262144 < n0) = false := decide_eq_false h1
    have hd2 : decide (1000 < n1) = true := decide_eq_true (by omega)
  all_goals
    go_enter Try.func15, Try.ntmps15
    go_wp2_with fail
    refine (Sum_nil _).mono ?_
    rintro e w1 ⟨rfl, hd1⟩
    have HB1 := Lib.hid hd1.below
    clear hd1
    go_wp2
    go_ret
    exact ⟨rfl, HB1.out⟩
theorem WireCursor_walk (A0 : Option Addr) (c0 : Nat) (l0 : List Int) (A1 : Option Addr) (n1 c1 : Nat) (F G : Nat → Int) (w : World) (hr0 : Rd w A0 l0.length l0) (hc0 : l0.length ≤ c0) (_hs0 : l0.length ≤ 140737488351232) (hb0 : Bytes l0) (hk : Asks w A1 n1 F G) :
    Calls Try.prog 15 #[.slice A0 l0.length c0, .slice A1 n1 c1] w fun e w' => e = .returned (.bool true) ∧ Below w.heap.size w w' := by
  by_cases hbig : 262144 < l0.length ∨ 1000 < n1
  · exact WireCursor_early A0 _ c0 A1 n1 c1 w hbig
  · exact WireCursor_main A0 c0 l0 A1 n1 c1 F G w hr0 hc0 hb0 (by omega) hk (by omega)
end Go.Proofs.Ythbdgakeglppbaa
