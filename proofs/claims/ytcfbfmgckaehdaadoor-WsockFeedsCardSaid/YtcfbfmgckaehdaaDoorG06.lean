/- The texts ShaSpec, Sched, Turn, Blk, ShaMem in one. -/
import Derived.Test.YtcfbfmgckaehdaaDoorG03
import Derived.Test.YtcfbfmgckaehdaaDoorG04
import Derived.Laws.IdiomCopy
namespace Go.Proofs.YtcfbfmgckaehdaaDoor
open Go.RowKit Go.Proofs.YtcfbfmgckaehdaaDoorW.PrintWords
def xr (x y : Int) : Int := bits .xor .u32 x y
def an (x y : Int) : Int := bits .and .u32 x y
def orr (x y : Int) : Int := bits .or .u32 x y
/-- All bits of a word turned. -/
def no (x : Int) : Int := 4294967295 - x
def ad (x y : Int) : Int := (x + y) % 4294967296
/-- SHA-1: the next word; a round; a block; all of it. -/
def sch1 (l : List Int) : Int := rotl (xr (xr (xr (rd l ((l.length : Int) - 3)) (rd l ((l.length : Int) - 8))) (rd l ((l.length : Int) - 14))) (rd l ((l.length : Int) - 16))) 1
structure St5 where
  (a b c d e : Int)
def fk1 (t : Nat) (s : St5) : Int × Int :=
  if 60 ≤ t then (xr (xr s.b s.c) s.d, 3395469782)
  else if 40 ≤ t then (orr (orr (an s.b s.c) (an s.b s.d)) (an s.c s.d), 2400959708)
  else if 20 ≤ t then (xr (xr s.b s.c) s.d, 1859775393)
  else (orr (an s.b s.c) (an (no s.b) s.d), 1518500249)
def round1 (s : St5) (t : Nat) (x : Int) : St5 := ⟨ad (ad (ad (ad (rotl s.a 5) (fk1 t s).1) s.e) (fk1 t s).2) x, s.a, rotl s.b 30, s.c, s.d⟩
def rounds1 : List Int → Nat → St5 → St5
  | [], _, s => s
  | x :: l, t, s => rounds1 l (t + 1) (round1 s t x)
def block1 (h : St5) (b : List Int) : St5 :=
  let s := rounds1 (extW sch1 64 (w32 b)) 0 h
  ⟨ad h.a s.a, ad h.b s.b, ad h.c s.c, ad h.d s.d, ad h.e s.e⟩
def blocks1 : Nat → St5 → List Int → St5
  | 0, h, _ => h
  | k + 1, h, p => blocks1 k (block1 h (p.take 64)) (p.drop 64)
def sha1 (l : List Int) : List Int :=
  let h := blocks1 ((padSha l).length / 64) ⟨1732584193, 4023233417, 2562383102, 271733878, 3285377520⟩ (padSha l)
  be4 h.a ++ be4 h.b ++ be4 h.c ++ be4 h.d ++ be4 h.e
structure St8 where
  (a b c d e f g h : Int)
def consts : List Int := [1116352408, 1899447441, 3049323471, 3921009573, 961987163, 1508970993, 2453635748, 2870763221, 3624381080, 310598401, 607225278, 1426881987, 1925078388, 2162078206, 2614888103, 3248222580, 3835390401, 4022224774, 264347078, 604807628, 770255983, 1249150122, 1555081692, 1996064986, 2554220882, 2821834349, 2952996808, 3210313671, 3336571891, 3584528711, 113926993, 338241895, 666307205, 773529912, 1294757372, 1396182291, 1695183700, 1986661051, 2177026350, 2456956037, 2730485921, 2820302411, 3259730800, 3345764771, 3516065817, 3600352804, 4094571909, 275423344, 430227734, 506948616, 659060556, 883997877, 958139571, 1322822218, 1537002063, 1747873779, 1955562222, 2024104815, 2227730452, 2361852424, 2428436474, 2756734187, 3204031479, 3329325298]
end Go.Proofs.YtcfbfmgckaehdaaDoor
namespace Go.Proofs.YtcfbfmgckaehdaaDoor
open Go.RowKit Go.Proofs.YtcfbfmgckaehdaaDoorW.PrintWords
theorem xr_range (x y : Int) : 0 ≤ xr x y ∧ xr x y < 4294967296 := by
  have := bits_within .xor .u32 x y
  have e1 : IntKind.u32.min = 0 := rfl
  have e2 : IntKind.u32.max = 4294967295 := rfl
  unfold xr
  omega
theorem ad_range (x y : Int) : 0 ≤ ad x y ∧ ad x y < 4294967296 := ⟨Int.emod_nonneg _ (by decide), Int.emod_lt_of_pos _ (by decide)⟩
theorem sch1_range (l : List Int) : 0 ≤ sch1 l ∧ sch1 l < 4294967296 := by
  unfold sch1
  have h := xr_range (xr (xr (rd l ((l.length : Int) - 3)) (rd l ((l.length : Int) - 8))) (rd l ((l.length : Int) - 14))) (rd l ((l.length : Int) - 16))
  exact rotl_range _ h.1 h.2 1 (by omega)
set_option maxHeartbeats 1600000 in
theorem sch1_calls (W : World) (A : Option Addr) (c : Nat) (l : List Int) (hr : RdW W A l.length l) (_hw : Ws l) (hl : 16 ≤ l.length) (hl2 : l.length ≤ 80) :
    Calls Tryd.prog 66 #[.slice A l.length c] W fun e w' => e = .returned (.int .u32 (sch1 l)) ∧ Drawn0 W w' := by
  obtain ⟨ad', rfl, hcell⟩ := RdW.cells hr (by omega)
  obtain ⟨n, hn⟩ : ∃ n, n = l.length := ⟨_, rfl⟩
  rw [← hn] at hcell hl hl2 ⊢
  have cell : ∀ q : Nat, q ≤ n → 1 ≤ q → W.cell? (ad'.add (n - q)) = some (.int .u32 (rd l ((n : Int) - q))) := by
    intro q h1 h2
    have := hcell (n - q) (by omega)
    rwa [show ((n - q : Nat) : Int) = (n : Int) - q by omega] at this
  have x3 := cell 3 (by omega) (by omega)
  have x8 := cell 8 (by omega) (by omega)
  have x14 := cell 14 (by omega) (by omega)
  have x16 := cell 16 (by omega) (by omega)
  have HE := Lib.hid (show sch1 l = rotl (xr (xr (xr (rd l ((n : Int) - (3 : Nat))) (rd l ((n : Int) - (8 : Nat)))) (rd l ((n : Int) - (14 : Nat)))) (rd l ((n : Int) - (16 : Nat)))) 1 by unfold sch1; rw [← hn]; rfl)
  obtain ⟨y3, e3⟩ : ∃ y, y = rd l ((n : Int) - (3 : Nat)) := ⟨_, rfl⟩
  obtain ⟨y8, e8⟩ : ∃ y, y = rd l ((n : Int) - (8 : Nat)) := ⟨_, rfl⟩
  obtain ⟨y14, e14⟩ : ∃ y, y = rd l ((n : Int) - (14 : Nat)) := ⟨_, rfl⟩
  obtain ⟨y16, e16⟩ : ∃ y, y = rd l ((n : Int) - (16 : Nat)) := ⟨_, rfl⟩
  rw [← e3, ← e8, ← e14, ← e16] at HE
  rw [← e3] at x3
  rw [← e8] at x8
  rw [← e14] at x14
  rw [← e16] at x16
  have hX := xr_range (xr (xr y3 y8) y14) y16
  obtain ⟨X, hXe⟩ : ∃ X, xr (xr (xr y3 y8) y14) y16 = X := ⟨_, rfl⟩
  rw [hXe] at hX HE
  have hX1 : bits .xor .u32 (bits .xor .u32 (bits .xor .u32 y3 y8) y14) y16 = X := hXe
  have HX := Lib.hid hX
  have w3 : IntKind.i64.wrap ((n : Int) - 3) = n - 3 := by rw [IntKind.wrap_i64]; omega
  have w8 : IntKind.i64.wrap ((n : Int) - 8) = n - 8 := by rw [IntKind.wrap_i64]; omega
  have w14 : IntKind.i64.wrap ((n : Int) - 14) = n - 14 := by rw [IntKind.wrap_i64]; omega
  have w16 : IntKind.i64.wrap ((n : Int) - 16) = n - 16 := by rw [IntKind.wrap_i64]; omega
  have t3 : ((n : Int) - 3).toNat = n - 3 := by omega
  have t8 : ((n : Int) - 8).toNat = n - 8 := by omega
  have t14 : ((n : Int) - 14).toNat = n - 14 := by omega
  have t16 : ((n : Int) - 16).toNat = n - 16 := by omega
  have l3 : (0 : Int) ≤ (n : Int) - 3 := by omega
  have l8 : (0 : Int) ≤ (n : Int) - 8 := by omega
  have l14 : (0 : Int) ≤ (n : Int) - 14 := by omega
  have l16 : (0 : Int) ≤ (n : Int) - 16 := by omega
  have u3 : (n : Int) - 3 < n := by omega
  have u8' : (n : Int) - 8 < n := by omega
  have u14 : (n : Int) - 14 < n := by omega
  have u16' : (n : Int) - 16 < n := by omega
  clear hcell cell e3 e8 e14 e16 hX hXe hn hr
  go_enter Tryd.func66, Tryd.ntmps66
  go_wp2_with fail
  go_quiet (first | (go_at_call 67; refine (rot_calls X 1 _ HX.out.1 HX.out.2 1 (by omega) (by omega)).mono ?_; rintro e w' ⟨rfl, ⟨nd, rfl⟩⟩; exact ⟨rfl, _, World.drewN_drewN _ _ _⟩))
  go_wp2
  go_ret
  exact ⟨by rw [HE.out]; rfl, (Drawn0.refl _).step _⟩
theorem sch1_makes : Makes 66 sch1 := ⟨fun l _ _ => sch1_range l, fun W A c l h1 h2 h3 h4 => sch1_calls W A c l h1 h2 h3 h4⟩
end Go.Proofs.YtcfbfmgckaehdaaDoor
namespace Go.Proofs.YtcfbfmgckaehdaaDoor
open Go.RowKit Go.Proofs.YtcfbfmgckaehdaaDoorW.PrintWords
theorem Drawn0.trans {w w1 w2 : World} (h : Drawn0 w w1) (k : Drawn0 w1 w2) : Drawn0 w w2 := by
  obtain ⟨n, rfl⟩ := k
  exact h.step n
end Go.Proofs.YtcfbfmgckaehdaaDoor
namespace Go.Proofs.YtcfbfmgckaehdaaDoor
open Go.RowKit Go.Proofs.YtcfbfmgckaehdaaDoorW.PrintWords
/-- The block g holds these words. -/
def Blk (w : World) (g : Nat) (t : TypeId) (k : IntKind) (l : List Int) : Prop := w.heap[g]? = some (.cells (nums k l).toArray t (0, 0))
theorem Blk.below {w w1 : World} {g t B : Nat} {k : IntKind} {l : List Int} (h : Blk w g t k l) (hb : Below B w w1) (hg : g < B) : Blk w1 g t k l := by
  unfold Blk at *
  rw [hb.block g hg, h]
theorem Blk.lt {w : World} {g t : Nat} {k : IntKind} {l : List Int} (h : Blk w g t k l) : g < w.heap.size := by
  have := (Array.getElem?_eq_some_iff.1 h).1
  exact this
theorem Blk.new (w : World) (t : Nat) (k : IntKind) (l : List Int) : Blk (w.alloc (.cells (nums k l).toArray t (0, 0))) w.heap.size t k l := by
  show (w.heap.push _)[w.heap.size]? = _
  simp
theorem Blk.cell {w : World} {g t : Nat} {k : IntKind} {l : List Int} (h : Blk w g t k l) (i : Nat) (hi : i < l.length) : w.cell? ⟨g, i, none⟩ = some (.int k (rd l i)) := by
  unfold World.cell?
  rw [h]
  simp [nums, rd, List.getD_eq_getElem?_getD, hi]
theorem Blk.drew {w : World} {g t : Nat} {k : IntKind} {l : List Int} (h : Blk w g t k l) (n : Nat) : Blk (w.drewN n) g t k l := h
theorem Blk.set {w : World} {g t : Nat} {k : IntKind} {l : List Int} (h : Blk w g t k l) (i : Nat) (_hi : i < l.length) (x : Int) : Blk (w.setCell ⟨g, i, none⟩ (.int k x)) g t k (l.set i x) := by
  have hm : (nums k l).toArray.setIfInBounds i (.int k x) = (nums k (l.set i x)).toArray := by
    apply Array.ext'
    simp [nums, List.map_set]
  unfold Blk at *
  unfold World.setCell
  show (w.heap.modify g _)[g]? = _
  rw [Array.getElem?_modify, if_pos rfl, h]
  simp only [Option.map_some, hm]
  rfl
theorem Blk.far {w : World} {g t : Nat} {k : IntKind} {l : List Int} (h : Blk w g t k l) {p : Addr} (hp : g ≠ p.block) (v : Value) : Blk (w.setCell p v) g t k l := by
  unfold Blk at *
  rw [Below.heap_setCell w p v g hp, h]
theorem Blk.free {w : World} {g t : Nat} {k : IntKind} {l : List Int} (h : Blk w g t k l) (i : Nat) : w.frozen? ⟨g, i, none⟩ = false := by
  unfold World.frozen?
  rw [h]
  simp
/-- Both facts of a cell that a store asks for. -/
theorem Blk.both {w : World} {g t : Nat} {k : IntKind} {l : List Int} (h : Blk w g t k l) (i : Nat) (hi : i < l.length) : w.cell? ⟨g, i, none⟩ = some (.int k (rd l i)) ∧ w.frozen? ⟨g, i, none⟩ = false := ⟨h.cell i hi, h.free i⟩
end Go.Proofs.YtcfbfmgckaehdaaDoor
namespace Go.Proofs.YtcfbfmgckaehdaaDoor
open Go.RowKit Go.Proofs.YtcfbfmgckaehdaaDoorW.PrintWords
/-- The laid variable rounds. -/
def Laid (w : World) : Prop := 0 < w.heap.size ∧ ∀ t : Nat, t < 64 → w.cell? ⟨0, t, none⟩ = some (.int .u32 (rd consts (t : Int)))
theorem Laid.lt {w : World} (h : Laid w) : 0 < w.heap.size := h.1
theorem Laid.cell {w : World} (h : Laid w) (t : Nat) (ht : t < 64) : w.cell? ⟨0, t, none⟩ = some (.int .u32 (rd consts (t : Int))) := h.2 t ht
theorem Laid.below {w w1 : World} {B : Nat} (h : Laid w) (hb : Below B w w1) (hB : 0 < B) : Laid w1 := by
  refine ⟨Nat.lt_of_lt_of_le h.1 hb.size, fun t ht => ?_⟩
  rw [← h.2 t ht]
  unfold World.cell?
  rw [hb.block 0 hB]
theorem cons_drop (l : List Int) (a : Nat) (h : a < l.length) : l.drop a = rd l a :: l.drop (a + 1) := by
  rw [rd_get l a h]
  exact List.drop_eq_getElem_cons h
theorem rounds1_step (X : List Int) (t : Nat) (ht : t < X.length) (s : St5) : rounds1 (X.drop t) t s = rounds1 (X.drop (t + 1)) (t + 1) (round1 s t (rd X t)) := by
  rw [cons_drop X t ht]
  rfl
/-- The first i words added up. -/
def addUp (h q : List Int) (i : Nat) : List Int := List.zipWith ad (h.take i) (q.take i) ++ h.drop i
theorem addUp_zero (h q : List Int) : addUp h q 0 = h := by simp [addUp]
theorem addUp_length (h q : List Int) (hq : q.length = h.length) (i : Nat) : (addUp h q i).length = h.length := by
  simp [addUp, hq]
  omega
theorem addUp_at (h q : List Int) (hq : q.length = h.length) (i : Nat) (hi : i < h.length) : rd (addUp h q i) (i : Int) = rd h i := by
  have h1 : (List.zipWith ad (h.take i) (q.take i)).length = i := by simp [hq]; omega
  unfold rd addUp
  simp only [Int.toNat_natCast, List.getD_eq_getElem?_getD]
  rw [List.getElem?_append_right (by omega), h1, Nat.sub_self, List.getElem?_drop, Nat.add_zero]
theorem addUp_set (h q : List Int) (hq : q.length = h.length) (i : Nat) (hi : i < h.length) : (addUp h q i).set i (ad (rd h i) (rd q i)) = addUp h q (i + 1) := by
  have h1 : (List.zipWith ad (h.take i) (q.take i)).length = i := by simp [hq]; omega
  unfold addUp
  rw [List.set_append_right _ _ (by omega), h1, Nat.sub_self, List.drop_eq_getElem_cons hi, List.set_cons_zero, List.take_succ_eq_append_getElem hi, List.take_succ_eq_append_getElem (show i < q.length by omega),
    List.zipWith_append (by simp [hq]), List.append_assoc, rd_get h i hi, rd_get q i (by omega)]
  rfl
theorem addUp_all (h q : List Int) (hq : q.length = h.length) : addUp h q h.length = List.zipWith ad h q := by
  unfold addUp
  rw [List.take_length, ← hq, List.take_length, hq, List.drop_length, List.append_nil]
/-- The first i words laid out as bytes, noughts behind. -/
def outB (h : List Int) (i : Nat) : List Int := (h.take i).flatMap be4 ++ List.replicate (4 * (h.length - i)) 0
theorem flat_length : ∀ (l : List Int), (l.flatMap be4).length = 4 * l.length
  | [] => rfl
  | a :: l => by rw [List.flatMap_cons, List.length_append, flat_length l, List.length_cons]; show 4 + _ = _; omega
theorem outB_length (h : List Int) (i : Nat) (hi : i ≤ h.length) : (outB h i).length = 4 * h.length := by
  unfold outB
  rw [List.length_append, flat_length, List.length_take, List.length_replicate]
  omega
theorem outB_step (h : List Int) (i : Nat) (hi : i < h.length) : (outB h i).take (4 * i) ++ be4 (rd h i) ++ (outB h i).drop (4 * i + (be4 (rd h i)).length) = outB h (i + 1) := by
  have hl : ((h.take i).flatMap be4).length = 4 * i := by rw [flat_length, List.length_take]; omega
  unfold outB
  rw [List.take_append, List.drop_append, hl, Nat.sub_self, List.take_zero, List.append_nil, List.take_of_length_le (by omega), List.drop_of_length_le (by rw [hl]; omega), List.nil_append, List.drop_replicate,
    List.take_succ_eq_append_getElem hi, List.flatMap_append, rd_get h i hi]
  have e : 4 * (h.length - i) - (4 * i + (be4 h[i]).length - 4 * i) = 4 * (h.length - (i + 1)) := by
    show 4 * (h.length - i) - (4 * i + 4 - 4 * i) = _
    omega
  rw [e]
  simp
theorem outB_all (h : List Int) : outB h h.length = h.flatMap be4 := by
  unfold outB
  rw [List.take_length, Nat.sub_self, List.replicate_zero, List.append_nil]
theorem info_u8s : (Tryd.prog.info? 5).map (·.size) = some 1 := by kernel_rfl
/-- copy into a part of an array of bytes. -/
theorem Blk.copy {w : World} {g t off m c dLen dCap ty : Nat} {a : Addr} {l ys : List Int} (h : Blk w g t .u8 l) (hr : Rd w (some a) m ys) (ho : off + m ≤ l.length) (hd : m ≤ dLen) :
    (Builtin.copy_ #[22, 22] ty #[.slice (some ⟨g, off, none⟩) dLen dCap, .slice (some a) m c]).run Tryd.prog w = .ok (.int .i64 m) (w.setCells g off (nums .u8 ys)) ∧ Blk (w.setCells g off (nums .u8 ys)) g t .u8 (l.take off ++ ys ++ l.drop (off + ys.length)) := by
  have hl := Kd.C_len hr
  have hnl : (nums .u8 ys).length = m := by simp [nums, hl]
  have hcell : ∀ j, j < m → w.cell? (a.add j) = some (.int .u8 (rd ys j)) := by
    intro j hj
    obtain ⟨ad', e, hx⟩ := Kd.at_int hr j (by omega) (by omega)
    cases e
    exact hx
  constructor
  · have := run_copy_cells (P := Tryd.prog) w 22 22 ty 5 g off dLen dCap a m c (nums .u8 ys) Tryd.underlying22 info_u8s
      (by rw [hnl]; exact (Nat.min_eq_left hd).symm)
      (fun j v hv => by
        have hj : j < m := by have := (List.getElem?_eq_some_iff.1 hv).1; omega
        rw [hcell j hj, ← hv]
        simp [nums, rd, List.getD_eq_getElem?_getD, show j < ys.length by omega])
      (fun j hj => by rw [h.cell (off + j) (by omega)]; rfl)
      (fun j hj => h.free (off + j))
      (fun v hv => by simp only [nums, List.mem_map] at hv; obtain ⟨x, _, rfl⟩ := hv; rfl)
    rw [hnl] at this
    exact this
  · obtain ⟨cur', h1, h2, h3⟩ := setCells_row (nums .u8 ys) off w _ h (by rw [hnl]; simp [nums]; omega)
    unfold Blk
    rw [h1]
    rw [show cur' = (nums .u8 (l.take off ++ ys ++ l.drop (off + ys.length))).toArray from Array.ext' (by rw [h3]; simp [nums, List.map_take, List.map_drop])]
theorem Blk.farCells {w : World} {g g' t o : Nat} {k : IntKind} {l : List Int} (h : Blk w g t k l) (hg : g ≠ g') (vs : List Value) : Blk (w.setCells g' o vs) g t k l := by
  unfold Blk at *
  rw [setCells_far vs o g hg, h]
theorem Below.setCells_ {B g o : Nat} {a w : World} (h : Below B a w) (hB : B ≤ g) (vs : List Value) : Below B a (w.setCells g o vs) := by
  obtain ⟨s1, s2, s3, s4⟩ := setCells_same g vs o w
  exact h.trans ⟨s1, s2, s3, by rw [s4]; exact Nat.le_refl _, fun j hj => setCells_far vs o j (by omega)⟩
section
variable {ops : Array Oper} {rest : List Oper} {o : Oper} {a : Act} {Q : Exit → Act → World → Prop} {w : World}
/-- A whole array is read: as what it says of the variable. -/
theorem Blk.loadVar {g t : Nat} {k : IntKind} {l : List Int} (h : Blk w g t k l) (T : TypeId) (ha : (isAgg T).run Tryd.prog w = .ok true w) (hz : (Go.sizeOf T).run Tryd.prog w = .ok l.length w) :
    (Go.loadVar T ⟨g, 0, none⟩).run Tryd.prog w = .ok (.agg (nums k l).toArray) w := by
  have hnl : (nums k l).length = l.length := by simp [nums]
  have := run_loadCells_list (P := Tryd.prog) (w := w) ⟨g, 0, none⟩ (nums k l) (fun j v hv => by
    have hj : j < l.length := by have := (List.getElem?_eq_some_iff.1 hv).1; omega
    have hc := h.cell j hj
    rw [show (⟨g, 0, none⟩ : Addr).add j = ⟨g, j, none⟩ by unfold Addr.add; split <;> simp_all]
    rw [hc, ← hv]
    simp [nums, rd, List.getD_eq_getElem?_getD, hj])
  rw [hnl] at this
  simp [Go.loadVar, ha, hz, this]
theorem load_blk {g t : Nat} {k : IntKind} {l : List Int} {T : TypeId} {p : Operand} (hgd : o.guard = none) (ho : o.op = .load T p) (hp : a.eval p = .pointer (some ⟨g, 0, none⟩)) (h : Blk w g t k l)
    (ha : (isAgg T).run Tryd.prog w = .ok true w) (hz : (Go.sizeOf T).run Tryd.prog w = .ok l.length w) (hK : wpList Tryd.prog ops Q rest (a.put o.dst (.agg (nums k l).toArray)) w) : wpList Tryd.prog ops Q (o :: rest) a w := by
  refine wpList_plain hgd fun K hK' => ?_
  have hl : (Instr.loadAt T (.pointer (some ⟨g, 0, none⟩))).run Tryd.prog w = .ok (.agg (nums k l).toArray) w := by
    simp [Instr.loadAt, Instr.sureAddr, h.loadVar T ha hz]
  unfold Oper.wp execOp
  simp only [ho, hp, Sem.run_bind, Sem.run_pure, Result.andThen_ok, hl]
  exact hK' _ _ hK
theorem store_blk {g t : Nat} {k : IntKind} {l m : List Int} {T : TypeId} {p x : Operand} (hgd : o.guard = none) (hN : o.dst = none) (ho : o.op = .store T p x) (hp : a.eval p = .pointer (some ⟨g, 0, none⟩)) (hx : a.eval x = .agg (nums k m).toArray) (h : Blk w g t k l) (hl : m.length = l.length)
    (ht : (Tryd.prog.info? T).map (·.size) = some m.length) (hK : ∀ w1, Blk w1 g t k m → (∀ B a0, Below B a0 w → B ≤ g → Below B a0 w1) → wpList Tryd.prog ops Q rest a w1) : wpList Tryd.prog ops Q (o :: rest) a w := by
  have hnm : (nums k m).length = m.length := by simp [nums]
  have hrun := run_store_run (P := Tryd.prog) (w := w) (g := g) (o := 0) T (.agg (nums k m).toArray) (nums k m) h rfl (by rw [hnm]; exact ht) (by rw [hnm, hl]; simp [nums]) (fun q hq => by simp only [nums, List.mem_map] at hq; obtain ⟨x, _, rfl⟩ := hq; rfl)
  obtain ⟨cur', h1, h2, h3⟩ := setCells_row (nums k m) 0 w _ h (by rw [hnm, hl]; simp [nums])
  obtain ⟨s1, s2, s3, s4⟩ := setCells_same g (nums k m) 0 w
  refine wpList_plain hgd fun K hK' => ?_
  unfold Oper.wp execOp
  simp only [ho, hp, hx, Sem.run_bind, Sem.run_pure, Result.andThen_ok, hrun]
  show K (a.put o.dst undef) _
  rw [hN]
  refine hK' a _ (hK _ ?_ ?_)
  · unfold Blk
    rw [h1]
    rw [show cur' = (nums k m).toArray from Array.ext' (by rw [h3]; simp [nums, hl])]
  · intro B a0 hb hB
    exact hb.trans ⟨s1, s2, s3, by rw [s4]; exact Nat.le_refl _, fun j hj => setCells_far _ _ j (by omega)⟩
theorem results_blk {fn : Func} {tm : Tmp} {T : TypeId} (h : fn.results = #[.cell tm T]) {tmps : Array Value} {g t : Nat} {k : IntKind} {l : List Int} (ht : tmps.getD tm undef = .pointer (some ⟨g, 0, none⟩)) (hb : Blk w g t k l)
    (ha : (isAgg T).run Tryd.prog w = .ok true w) (hz : (Go.sizeOf T).run Tryd.prog w = .ok l.length w) : (results fn tmps).run Tryd.prog w = .ok (.agg (nums k l).toArray) w := by
  have hl := hb.loadVar T ha hz
  rw [Array.getD_eq_getD_getElem?] at ht
  simp [results, h, ht, asAddr, hl]
theorem index_blk {T E : TypeId} {k : IntKind} {l : List Int} {i : Nat} (hu : Tryd.prog.underlying T = some (.array l.length E)) (hz : (Go.sizeOf E).run Tryd.prog w = .ok 1 w) (ha : (isAgg E).run Tryd.prog w = .ok false w) (hi : i < l.length) :
    (Instr.index T (.agg (nums k l).toArray) (.int .i64 i)).run Tryd.prog w = .ok (.int k (rd l i)) w := by
  have h1 : (nums k l)[i]? = some (.int k (rd l i)) := by simp [nums, rd, List.getD_eq_getElem?_getD, hi]
  simp [Instr.index, asIntOf, run_underlying hu, hz, Go.part, ha, h1, hi]
end
end Go.Proofs.YtcfbfmgckaehdaaDoor
