/- The texts Words, Blk, ShaSpec, Sched, ShaMem, LaidRow, OpenStruct in one. -/
import Derived.Test.YtcgenmogedndjaaDoorRows
import Derived.Test.YtcgenmogedndjaaDoorG01
import Derived.StillTailTactics
import Derived.Laws.IdiomCopy
import Derived.ProofKit
import Derived.LaidMore
import Derived.OpenShut
import Derived.Stop.Joined
import Derived.Deep.SlicePairs
import Derived.Lib.SmallJoins
namespace Go.Proofs.YtcgenmogedndjaaDoor
open Go.RowKit Go.Proofs.YtcgenmogedndjaaDoorW.PrintWords
theorem info_u32 : (Tryd.prog.info? 103).map (fun i => (i.zero, i.size, i.bytes)) = some (some (.int .u32 0), 1, 4) := by kernel_rfl
abbrev OwnW (w0 w : World) (v : Value) (l : List Int) : Prop := Kd.R (Kd.int .u32) 103 w w0.heap.size (fun _ => True) v l
abbrev RdW (w : World) (A : Option Addr) (n : Nat) (l : List Int) : Prop := Kd.C (Kd.int .u32) w A n l
theorem RdW.cells {w : World} {A : Option Addr} {n : Nat} {l : List Int} (h : RdW w A n l) (hn : 0 < n) : ∃ ad, A = some ad ∧ ∀ j, j < n → w.cell? (ad.add j) = some (.int .u32 (rd l j)) := by
  obtain ⟨ad, rfl, _⟩ := Kd.at_int h 0 (by omega) (by omega)
  refine ⟨ad, rfl, fun j hj => ?_⟩
  obtain ⟨ad', e, hx⟩ := Kd.at_int h j (by omega) (by omega)
  cases e
  exact hx
theorem OwnW.cast {w0 w : World} {v : Value} {l m : List Int} (h : OwnW w0 w v l) (he : l = m) : OwnW w0 w v m := he ▸ h
theorem OwnW.nil (w0 w : World) : OwnW w0 w (.slice none 0 0) [] := Kd.R_nil _ _ _ _ _
theorem OwnW.reads {w0 w : World} {v : Value} {l : List Int} (h : OwnW w0 w v l) : ∃ A c, v = .slice A l.length c ∧ l.length ≤ c ∧ RdW w A l.length l := by
  obtain ⟨A, c, rfl⟩ := Kd.R_slice h
  exact ⟨A, c, rfl, (Kd.R_reads' h).2.1, (Kd.R_reads' h).2.2⟩
theorem OwnW.below {w0 w w1 : World} {v : Value} {l : List Int} (h : OwnW w0 w v l) (hb : Below w.heap.size w w1) : OwnW w0 w1 v l := Kd.R_below h hb
section
variable {ops : Array Oper} {rest : List Oper} {o : Oper} {a : Act} {Q : Exit → Act → World → Prop} {w0 W : World} {v : Value} {l : List Int} {s x : Operand}
theorem appw_one {p : Int} (hO : OwnW w0 W v l) (hB : Below w0.heap.size w0 W) (hL : l.length + 1 ≤ 35184372088832)
    (hgd : o.guard = none) (hop : o.op = .call { callee := .builtin .append, args := #[s, x], argTypes := #[105, 105] }) (hv : a.eval s = v) (hx : a.eval x = .slice (some ⟨W.heap.size, 0, none⟩) 1 1)
    (K : ∀ v1 w1, OwnW w0 w1 v1 (l ++ [p]) → Below w0.heap.size w0 w1 → W.grownBy w1 v.ownBlock → (v1.ownBlock = v.ownBlock ∨ ∃ b, v1.ownBlock = some b ∧ W.heap.size ≤ b) → wpList Tryd.prog ops Q rest (a.put o.dst v1) w1) : wpList Tryd.prog ops Q (o :: rest) a (W.alloc (.cells #[.int .u32 p] 103)) :=
  Kd.R_append (Kd.int .u32) (w0 := w0) w0.heap.size hgd s x 105 103 (.int .u32 0) 4 hop Tryd.underlying105 info_u32 rfl (by decide) (by omega) v l p [.int .u32 p] (fun _ => True) (fun _ => False) hv hx rfl (fun _ hk => hk.elim) (fun _ _ => trivial) hO hB hB.size (by omega) K
end
section
variable {ops : Array Oper} {o : Oper} {a : Act} {Q : Exit → Act → World → Prop} {Kc : Act → World → Prop} {w0 W : World} {v : Value} {l : List Int} {s x : Operand}
theorem appw_step {p : Int} (hO : OwnW w0 W v l) (hB : Below w0.heap.size w0 W) (hL : l.length + 1 ≤ 35184372088832)
    (hw : Region.wanted o (yielded ops a.tmps) = true) (hop : o.op = .call { callee := .builtin .append, args := #[s, x], argTypes := #[105, 105] }) (hv : a.eval s = v) (hx : a.eval x = .slice (some ⟨W.heap.size, 0, none⟩) 1 1)
    (K : ∀ v1 w1, OwnW w0 w1 v1 (l ++ [p]) → Below w0.heap.size w0 w1 → W.grownBy w1 v.ownBlock → (v1.ownBlock = v.ownBlock ∨ ∃ b, v1.ownBlock = some b ∧ W.heap.size ≤ b) → Kc (a.put o.dst v1) w1) :
    if Region.wanted o (yielded ops a.tmps) = true then Oper.wp Tryd.prog o a (W.alloc (.cells #[.int .u32 p] 103)) Kc Q else Kc (a.put o.dst undef) (W.alloc (.cells #[.int .u32 p] 103)) :=
  Kd.R_append_step (Kd.int .u32) (w0 := w0) w0.heap.size hw s x 105 103 (.int .u32 0) 4 hop Tryd.underlying105 info_u32 rfl (by decide) (by omega) v l p [.int .u32 p] (fun _ => True) (fun _ => False) hv hx rfl (fun _ hk => hk.elim) (fun _ _ => trivial) hO hB hB.size (by omega) K
end
theorem Rd.lit {w : World} {ad : Addr} {n : Nat} {l : List Int} (h : ∀ j, j < n → w.cell? (ad.add j) = some (.int .u8 (rd l j))) (j : Nat) (hj : j + 1 < n) : w.cell? ⟨ad.block, ad.off + (j + 1), none⟩ = some (.int .u8 (rd l ((j + 1 : Nat) : Int))) := by
  have := h (j + 1) hj
  unfold Addr.add at this
  rwa [if_neg (by omega)] at this
theorem rd_drop (l : List Int) (a i : Nat) : rd (l.drop a) (i : Int) = rd l ((a + i : Nat) : Int) := by
  unfold rd
  simp only [Int.toNat_natCast, List.getD_eq_getElem?_getD, List.getElem?_drop]
theorem or_four32 (a b c d : Int) (a0 : 0 ≤ a) (a1 : a < 256) (b0 : 0 ≤ b) (b1 : b < 256) (c0 : 0 ≤ c) (c1 : c < 256) (d0 : 0 ≤ d) (d1 : d < 256) :
    bits .or .u32 (bits .or .u32 (bits .or .u32 (a * 16777216) (b * 65536)) (c * 256)) d = 16777216 * a + 65536 * b + 256 * c + d := by
  rw [bits_join .u32 32 (by decide) wraps_u32 24 (a * 16777216) (b * 65536) (by omega) (by omega) (by omega) (by omega) (by omega) (by omega),
    bits_join .u32 32 (by decide) wraps_u32 16 (a * 16777216 + b * 65536) (c * 256) (by omega) (by omega) (by omega) (by omega) (by omega) (by omega),
    bits_join .u32 32 (by decide) wraps_u32 8 (a * 16777216 + b * 65536 + c * 256) d (by omega) (by omega) (by omega) (by omega) (by omega) (by omega)]
  omega
/-- A block's words. -/
def w32 : List Int → List Int
  | a :: b :: c :: d :: t => (16777216 * a + 65536 * b + 256 * c + d) :: w32 t
  | _ => []
/-- So many words more, each made of those ahead. -/
def extW (F : List Int → Int) : Nat → List Int → List Int
  | 0, l => l
  | k + 1, l => extW F k (l ++ [F l])
theorem w32_length : ∀ (l : List Int), (w32 l).length = l.length / 4
  | [] => rfl
  | [_] => by simp [w32]
  | [_, _] => by simp [w32]
  | [_, _, _] => by simp [w32]
  | _ :: _ :: _ :: _ :: t => by
    simp only [w32, List.length_cons, w32_length t]
    omega
/-- Words. -/
def Ws (l : List Int) : Prop := ∀ x ∈ l, 0 ≤ x ∧ x < 4294967296
theorem Ws.app {a b : List Int} (h : Ws a) (k : Ws b) : Ws (a ++ b) := by
  intro x hx
  rcases List.mem_append.1 hx with hx | hx
  · exact h x hx
  · exact k x hx
theorem Ws.rd {l : List Int} (h : Ws l) (k : Nat) (hk : k < l.length) : 0 ≤ rd l k ∧ rd l k < 4294967296 := by
  rw [rd_get l k hk]
  exact h _ (List.getElem_mem hk)
theorem w32_Ws : ∀ (l : List Int), Bytes l → Ws (w32 l)
  | a :: b :: c :: d :: t, hb => by
    have h0 := hb a (by simp)
    have h1 := hb b (by simp)
    have h2 := hb c (by simp)
    have h3 := hb d (by simp)
    have ih := w32_Ws t (fun x hx => hb x (by simp [hx]))
    intro x hx
    simp only [w32, List.mem_cons] at hx
    rcases hx with rfl | hx
    · omega
    · exact ih x hx
  | [], _ | [_], _ | [_, _], _ | [_, _, _], _ => by intro x hx; simp [w32] at hx
theorem extW_Ws (F : List Int → Int) (hF : ∀ l, Ws l → 16 ≤ l.length → 0 ≤ F l ∧ F l < 4294967296) : ∀ (k : Nat) (l : List Int), Ws l → 16 ≤ l.length → Ws (extW F k l)
  | 0, _, h, _ => h
  | k + 1, l, h, hl => by
    refine extW_Ws F hF k _ (h.app ?_) (by rw [List.length_append]; omega)
    intro x hx
    rw [List.mem_singleton] at hx
    rw [hx]
    exact hF l h hl
/-- What a maker of more words is held to. -/
def Makes (f : FuncId) (F : List Int → Int) : Prop := (∀ l, Ws l → 16 ≤ l.length → 0 ≤ F l ∧ F l < 4294967296) ∧ ∀ (W : World) (A : Option Addr) (c : Nat) (l : List Int), RdW W A l.length l → Ws l → 16 ≤ l.length → l.length ≤ 80 → Calls Tryd.prog f #[.slice A l.length c] W fun e w' => e = .returned (.int .u32 (F l)) ∧ Drawn0 W w'
theorem w32_snoc (l : List Int) (j : Nat) (h : 4 * j + 4 ≤ l.length) : w32 (l.take (4 * (j + 1))) = w32 (l.take (4 * j)) ++ [16777216 * rd l ((4 * j : Nat) : Int) + 65536 * rd l ((4 * j + 1 : Nat) : Int) + 256 * rd l ((4 * j + 2 : Nat) : Int) + rd l ((4 * j + 3 : Nat) : Int)] := by
  induction j generalizing l with
  | zero =>
    match l, h with
    | a :: b :: c :: d :: t, _ => simp [w32, rd]
  | succ j ih =>
    match l, h with
    | a :: b :: c :: d :: t, h =>
      simp only [List.length_cons] at h
      have e := ih t (by omega)
      rw [show 4 * (j + 1 + 1) = 4 * (j + 1) + 1 + 1 + 1 + 1 by omega, show 4 * (j + 1) = 4 * j + 1 + 1 + 1 + 1 by omega]
      simp only [List.take_succ_cons, w32, List.cons_append]
      rw [show 4 * j + 1 + 1 + 1 + 1 = 4 * (j + 1) by omega, e]
      have hr : ∀ i : Nat, rd (a :: b :: c :: d :: t) ((4 * (j + 1) + i : Nat) : Int) = rd t ((4 * j + i : Nat) : Int) := by
        intro i
        unfold rd
        simp only [Int.toNat_natCast]
        rw [show 4 * (j + 1) + i = (4 * j + i) + 1 + 1 + 1 + 1 by omega]
        rfl
      have h0 := hr 0
      rw [Nat.add_zero, Nat.add_zero] at h0
      rw [h0, hr 1, hr 2, hr 3]
      rfl
theorem extW_snoc (F : List Int → Int) : ∀ (k : Nat) (l : List Int), extW F (k + 1) l = extW F k l ++ [F (extW F k l)]
  | 0, _ => rfl
  | k + 1, l => by rw [extW, extW_snoc F k]; rfl
theorem extW_length (F : List Int → Int) (k : Nat) (l : List Int) : (extW F k l).length = l.length + k := by
  induction k with
  | zero => rfl
  | succ k ih => rw [extW_snoc, List.length_append, ih]; rfl
end Go.Proofs.YtcgenmogedndjaaDoor
namespace Go.Proofs.YtcgenmogedndjaaDoor
open Go.RowKit Go.Proofs.YtcgenmogedndjaaDoorW.PrintWords
/-- The block g holds these words. -/
def Blk (w : World) (g : Nat) (t : TypeId) (k : IntKind) (l : List Int) : Prop := w.heap[g]? = some (.cells (nums k l).toArray t (0, 0))
theorem Blk.below {w w1 : World} {g t B : Nat} {k : IntKind} {l : List Int} (h : Blk w g t k l) (hb : Below B w w1) (hg : g < B) : Blk w1 g t k l := by
  unfold Blk at *
  rw [hb.block g hg, h]
theorem Blk.lt {w : World} {g t : Nat} {k : IntKind} {l : List Int} (h : Blk w g t k l) : g < w.heap.size := by
  have := (Array.getElem?_eq_some_iff.1 h).1
  exact this
theorem Blk.new (w : World) (t : Nat) (k : IntKind) (l : List Int) : Blk (w.alloc (.cells (nums k l).toArray t (0, 0))) w.heap.size t k l := by
  show (w.heap.push _)[w.heap.size]? = _
  simp
theorem Blk.cell {w : World} {g t : Nat} {k : IntKind} {l : List Int} (h : Blk w g t k l) (i : Nat) (hi : i < l.length) : w.cell? ⟨g, i, none⟩ = some (.int k (rd l i)) := by
  unfold World.cell?
  rw [h]
  simp [nums, rd, List.getD_eq_getElem?_getD, hi]
theorem Blk.drew {w : World} {g t : Nat} {k : IntKind} {l : List Int} (h : Blk w g t k l) (n : Nat) : Blk (w.drewN n) g t k l := h
theorem Blk.set {w : World} {g t : Nat} {k : IntKind} {l : List Int} (h : Blk w g t k l) (i : Nat) (_hi : i < l.length) (x : Int) : Blk (w.setCell ⟨g, i, none⟩ (.int k x)) g t k (l.set i x) := by
  have hm : (nums k l).toArray.setIfInBounds i (.int k x) = (nums k (l.set i x)).toArray := by
    apply Array.ext'
    simp [nums, List.map_set]
  unfold Blk at *
  unfold World.setCell
  show (w.heap.modify g _)[g]? = _
  rw [Array.getElem?_modify, if_pos rfl, h]
  simp only [Option.map_some, hm]
  rfl
theorem Blk.far {w : World} {g t : Nat} {k : IntKind} {l : List Int} (h : Blk w g t k l) {p : Addr} (hp : g ≠ p.block) (v : Value) : Blk (w.setCell p v) g t k l := by
  unfold Blk at *
  rw [Below.heap_setCell w p v g hp, h]
theorem Blk.free {w : World} {g t : Nat} {k : IntKind} {l : List Int} (h : Blk w g t k l) (i : Nat) : w.frozen? ⟨g, i, none⟩ = false := by
  unfold World.frozen?
  rw [h]
  simp
/-- Both facts of a cell that a store asks for. -/
theorem Blk.both {w : World} {g t : Nat} {k : IntKind} {l : List Int} (h : Blk w g t k l) (i : Nat) (hi : i < l.length) : w.cell? ⟨g, i, none⟩ = some (.int k (rd l i)) ∧ w.frozen? ⟨g, i, none⟩ = false := ⟨h.cell i hi, h.free i⟩
end Go.Proofs.YtcgenmogedndjaaDoor
namespace Go.Proofs.YtcgenmogedndjaaDoor
open Go.RowKit Go.Proofs.YtcgenmogedndjaaDoorW.PrintWords
def xr (x y : Int) : Int := bits .xor .u32 x y
def an (x y : Int) : Int := bits .and .u32 x y
/-- All bits of a word turned. -/
def no (x : Int) : Int := 4294967295 - x
def ad (x y : Int) : Int := (x + y) % 4294967296
structure St5 where
  (a b c d e : Int)
/-- SHA-256. -/
def sch2 (l : List Int) : Int :=
  let x := rd l ((l.length : Int) - 15)
  let y := rd l ((l.length : Int) - 2)
  ad (ad (ad (rd l ((l.length : Int) - 16)) (xr (xr (rotl x 25) (rotl x 14)) (x / 8))) (rd l ((l.length : Int) - 7))) (xr (xr (rotl y 15) (rotl y 13)) (y / 1024))
structure St8 where
  (a b c d e f g h : Int)
def turn (x : Int) (i j k : Nat) : Int := xr (xr (rotl x (32 - i)) (rotl x (32 - j))) (rotl x (32 - k))
def consts : List Int := [1116352408, 1899447441, 3049323471, 3921009573, 961987163, 1508970993, 2453635748, 2870763221, 3624381080, 310598401, 607225278, 1426881987, 1925078388, 2162078206, 2614888103, 3248222580, 3835390401, 4022224774, 264347078, 604807628, 770255983, 1249150122, 1555081692, 1996064986, 2554220882, 2821834349, 2952996808, 3210313671, 3336571891, 3584528711, 113926993, 338241895, 666307205, 773529912, 1294757372, 1396182291, 1695183700, 1986661051, 2177026350, 2456956037, 2730485921, 2820302411, 3259730800, 3345764771, 3516065817, 3600352804, 4094571909, 275423344, 430227734, 506948616, 659060556, 883997877, 958139571, 1322822218, 1537002063, 1747873779, 1955562222, 2024104815, 2227730452, 2361852424, 2428436474, 2756734187, 3204031479, 3329325298]
def round2 (s : St8) (t : Nat) (x : Int) : St8 :=
  let p := ad (ad (ad (ad s.h (turn s.e 6 11 25)) (xr (an s.e s.f) (an (no s.e) s.g))) (rd consts t)) x
  let q := ad (turn s.a 2 13 22) (xr (xr (an s.a s.b) (an s.a s.c)) (an s.b s.c))
  ⟨ad p q, s.a, s.b, s.c, ad s.d p, s.e, s.f, s.g⟩
def rounds2 : List Int → Nat → St8 → St8
  | [], _, s => s
  | x :: l, t, s => rounds2 l (t + 1) (round2 s t x)
def block2 (h : St8) (b : List Int) : St8 :=
  let s := rounds2 (extW sch2 48 (w32 b)) 0 h
  ⟨ad h.a s.a, ad h.b s.b, ad h.c s.c, ad h.d s.d, ad h.e s.e, ad h.f s.f, ad h.g s.g, ad h.h s.h⟩
def blocks2 : Nat → St8 → List Int → St8
  | 0, h, _ => h
  | k + 1, h, p => blocks2 k (block2 h (p.take 64)) (p.drop 64)
def sha2 (l : List Int) : List Int :=
  let h := blocks2 ((padSha l).length / 64) ⟨1779033703, 3144134277, 1013904242, 2773480762, 1359893119, 2600822924, 528734635, 1541459225⟩ (padSha l)
  be4 h.a ++ be4 h.b ++ be4 h.c ++ be4 h.d ++ be4 h.e ++ be4 h.f ++ be4 h.g ++ be4 h.h
end Go.Proofs.YtcgenmogedndjaaDoor
namespace Go.Proofs.YtcgenmogedndjaaDoor
open Go.RowKit Go.Proofs.YtcgenmogedndjaaDoorW.PrintWords
theorem ad_range (x y : Int) : 0 ≤ ad x y ∧ ad x y < 4294967296 := ⟨Int.emod_nonneg _ (by decide), Int.emod_lt_of_pos _ (by decide)⟩
theorem sch2_range (l : List Int) : 0 ≤ sch2 l ∧ sch2 l < 4294967296 := ad_range _ _
set_option maxHeartbeats 3200000 in
theorem sch2_calls (W : World) (A : Option Addr) (c : Nat) (l : List Int) (hr : RdW W A l.length l) (hw : Ws l) (hl : 16 ≤ l.length) (hl2 : l.length ≤ 80) :
    Calls Tryd.prog 69 #[.slice A l.length c] W fun e w' => e = .returned (.int .u32 (sch2 l)) ∧ Drawn0 W w' := by
  obtain ⟨ad', rfl, hcell⟩ := RdW.cells hr (by omega)
  obtain ⟨n, hn⟩ : ∃ n, n = l.length := ⟨_, rfl⟩
  have hrg : ∀ q : Nat, q ≤ n → 1 ≤ q → 0 ≤ rd l ((n : Int) - q) ∧ rd l ((n : Int) - q) < 4294967296 := by
    intro q h1 h2
    have := hw.rd (n - q) (by omega)
    rwa [show ((n - q : Nat) : Int) = (n : Int) - q by omega] at this
  rw [← hn] at hcell hl hl2 ⊢
  have cell : ∀ q : Nat, q ≤ n → 1 ≤ q → W.cell? (ad'.add (n - q)) = some (.int .u32 (rd l ((n : Int) - q))) := by
    intro q h1 h2
    have := hcell (n - q) (by omega)
    rwa [show ((n - q : Nat) : Int) = (n : Int) - q by omega] at this
  have x15 := cell 15 (by omega) (by omega)
  have x2 := cell 2 (by omega) (by omega)
  have x16 := cell 16 (by omega) (by omega)
  have x7 := cell 7 (by omega) (by omega)
  have g15 := hrg 15 (by omega) (by omega)
  have g2 := hrg 2 (by omega) (by omega)
  obtain ⟨x, ex⟩ : ∃ y, y = rd l ((n : Int) - (15 : Nat)) := ⟨_, rfl⟩
  obtain ⟨y, ey⟩ : ∃ y, y = rd l ((n : Int) - (2 : Nat)) := ⟨_, rfl⟩
  obtain ⟨p, ep⟩ : ∃ y, y = rd l ((n : Int) - (16 : Nat)) := ⟨_, rfl⟩
  obtain ⟨q, eq⟩ : ∃ y, y = rd l ((n : Int) - (7 : Nat)) := ⟨_, rfl⟩
  have hE : sch2 l = ad (ad (ad p (xr (xr (rotl x 25) (rotl x 14)) (x / 8))) q) (xr (xr (rotl y 15) (rotl y 13)) (y / 1024)) := by
    rw [ex, ey, ep, eq]
    unfold sch2
    rw [← hn]
    rfl
  rw [← ex] at x15 g15
  rw [← ey] at x2 g2
  rw [← ep] at x16
  rw [← eq] at x7
  obtain ⟨A1, eA1⟩ : ∃ A1, xr (xr (rotl x 25) (rotl x 14)) (x / 8) = A1 := ⟨_, rfl⟩
  rw [eA1] at hE
  obtain ⟨D1, eD1⟩ : ∃ D1, xr (xr (rotl y 15) (rotl y 13)) (y / 1024) = D1 := ⟨_, rfl⟩
  rw [eD1] at hE
  obtain ⟨B1, eB1⟩ : ∃ B1, ad p A1 = B1 := ⟨_, rfl⟩
  rw [eB1] at hE
  obtain ⟨C1, eC1⟩ : ∃ C1, ad B1 q = C1 := ⟨_, rfl⟩
  rw [eC1] at hE
  obtain ⟨E1, eE1⟩ : ∃ E1, ad C1 D1 = E1 := ⟨_, rfl⟩
  rw [eE1] at hE
  have HE := Lib.hid hE
  have hA1 : bits .xor .u32 (bits .xor .u32 (rotl x 25) (rotl x 14)) (x / 8) = A1 := eA1
  have hD1 : bits .xor .u32 (bits .xor .u32 (rotl y 15) (rotl y 13)) (y / 1024) = D1 := eD1
  have hB1 : IntKind.u32.wrap (p + A1) = B1 := by rw [IntKind.wrap_u32]; exact eB1
  have hC1 : IntKind.u32.wrap (B1 + q) = C1 := by rw [IntKind.wrap_u32]; exact eC1
  have hE1 : IntKind.u32.wrap (C1 + D1) = E1 := by rw [IntKind.wrap_u32]; exact eE1
  have GX := Lib.hid g15
  have GY := Lib.hid g2
  have w15 : IntKind.i64.wrap ((n : Int) - 15) = n - 15 := by rw [IntKind.wrap_i64]; omega
  have t15 : ((n : Int) - 15).toNat = n - 15 := by omega
  have l15 : (0 : Int) ≤ (n : Int) - 15 := by omega
  have u15' : (n : Int) - 15 < n := by omega
  have w2 : IntKind.i64.wrap ((n : Int) - 2) = n - 2 := by rw [IntKind.wrap_i64]; omega
  have t2 : ((n : Int) - 2).toNat = n - 2 := by omega
  have l2 : (0 : Int) ≤ (n : Int) - 2 := by omega
  have u2' : (n : Int) - 2 < n := by omega
  have w16 : IntKind.i64.wrap ((n : Int) - 16) = n - 16 := by rw [IntKind.wrap_i64]; omega
  have t16 : ((n : Int) - 16).toNat = n - 16 := by omega
  have l16 : (0 : Int) ≤ (n : Int) - 16 := by omega
  have u16' : (n : Int) - 16 < n := by omega
  have w7 : IntKind.i64.wrap ((n : Int) - 7) = n - 7 := by rw [IntKind.wrap_i64]; omega
  have t7 : ((n : Int) - 7).toNat = n - 7 := by omega
  have l7 : (0 : Int) ≤ (n : Int) - 7 := by omega
  have u7' : (n : Int) - 7 < n := by omega
  clear hcell cell ex ey ep eq eA1 eD1 eB1 eC1 eE1 hE hn hr hw hrg g15 g2
  go_enter Tryd.func69, Tryd.ntmps69
  go_wp2_with fail
  go_quiet (fail)
  have z15 := Drawn0.step (Drawn0.refl W) nq
  have HD := Lib.hid z15
  have y16 : (W.drewN nq).cell? (ad'.add (n - 16)) = some (.int .u32 p) := x16
  have y7 : (W.drewN nq).cell? (ad'.add (n - 7)) = some (.int .u32 q) := x7
  generalize W.drewN nq = W2 at y16 y7 HD ⊢
  clear z15 x15 x2 x16 x7
  go_wp2_with fail
  go_quiet (first | (go_at_call 70; (first | with_reducible refine (rot_calls x (-7) _ GX.out.1 GX.out.2 25 (by omega) (by omega)).mono ?_ | with_reducible refine (rot_calls x (-18) _ GX.out.1 GX.out.2 14 (by omega) (by omega)).mono ?_ | with_reducible refine (rot_calls y (-17) _ GY.out.1 GY.out.2 15 (by omega) (by omega)).mono ?_ | with_reducible refine (rot_calls y (-19) _ GY.out.1 GY.out.2 13 (by omega) (by omega)).mono ?_); rintro e w' ⟨rfl, ⟨nd, rfl⟩⟩; exact ⟨rfl, _, World.drewN_drewN _ _ _⟩))
  go_wp2
  go_ret
  exact ⟨by rw [HE.out]; rfl, HD.out.step _⟩
theorem sch2_makes : Makes 69 sch2 := ⟨fun l _ _ => sch2_range l, fun W A c l h1 h2 h3 h4 => sch2_calls W A c l h1 h2 h3 h4⟩
end Go.Proofs.YtcgenmogedndjaaDoor
namespace Go.Proofs.YtcgenmogedndjaaDoor
open Go.RowKit Go.Proofs.YtcgenmogedndjaaDoorW.PrintWords
/-- The laid variable rounds. -/
def Laid (w : World) : Prop := 0 < w.heap.size ∧ ∀ t : Nat, t < 64 → w.cell? ⟨0, t, none⟩ = some (.int .u32 (rd consts (t : Int)))
theorem Laid.lt {w : World} (h : Laid w) : 0 < w.heap.size := h.1
theorem Laid.cell {w : World} (h : Laid w) (t : Nat) (ht : t < 64) : w.cell? ⟨0, t, none⟩ = some (.int .u32 (rd consts (t : Int))) := h.2 t ht
theorem Laid.below {w w1 : World} {B : Nat} (h : Laid w) (hb : Below B w w1) (hB : 0 < B) : Laid w1 := by
  refine ⟨Nat.lt_of_lt_of_le h.1 hb.size, fun t ht => ?_⟩
  rw [← h.2 t ht]
  unfold World.cell?
  rw [hb.block 0 hB]
theorem cons_drop (l : List Int) (a : Nat) (h : a < l.length) : l.drop a = rd l a :: l.drop (a + 1) := by
  rw [rd_get l a h]
  exact List.drop_eq_getElem_cons h
theorem rounds2_step (X : List Int) (t : Nat) (ht : t < X.length) (s : St8) : rounds2 (X.drop t) t s = rounds2 (X.drop (t + 1)) (t + 1) (round2 s t (rd X t)) := by
  rw [cons_drop X t ht]
  rfl
/-- The first i words added up. -/
def addUp (h q : List Int) (i : Nat) : List Int := List.zipWith ad (h.take i) (q.take i) ++ h.drop i
theorem addUp_zero (h q : List Int) : addUp h q 0 = h := by simp [addUp]
theorem addUp_length (h q : List Int) (hq : q.length = h.length) (i : Nat) : (addUp h q i).length = h.length := by
  simp [addUp, hq]
  omega
theorem addUp_at (h q : List Int) (hq : q.length = h.length) (i : Nat) (hi : i < h.length) : rd (addUp h q i) (i : Int) = rd h i := by
  have h1 : (List.zipWith ad (h.take i) (q.take i)).length = i := by simp [hq]; omega
  unfold rd addUp
  simp only [Int.toNat_natCast, List.getD_eq_getElem?_getD]
  rw [List.getElem?_append_right (by omega), h1, Nat.sub_self, List.getElem?_drop, Nat.add_zero]
theorem addUp_set (h q : List Int) (hq : q.length = h.length) (i : Nat) (hi : i < h.length) : (addUp h q i).set i (ad (rd h i) (rd q i)) = addUp h q (i + 1) := by
  have h1 : (List.zipWith ad (h.take i) (q.take i)).length = i := by simp [hq]; omega
  unfold addUp
  rw [List.set_append_right _ _ (by omega), h1, Nat.sub_self, List.drop_eq_getElem_cons hi, List.set_cons_zero, List.take_succ_eq_append_getElem hi, List.take_succ_eq_append_getElem (show i < q.length by omega),
    List.zipWith_append (by simp [hq]), List.append_assoc, rd_get h i hi, rd_get q i (by omega)]
  rfl
theorem addUp_all (h q : List Int) (hq : q.length = h.length) : addUp h q h.length = List.zipWith ad h q := by
  unfold addUp
  rw [List.take_length, ← hq, List.take_length, hq, List.drop_length, List.append_nil]
/-- The first i words laid out as bytes, noughts behind. -/
def outB (h : List Int) (i : Nat) : List Int := (h.take i).flatMap be4 ++ List.replicate (4 * (h.length - i)) 0
theorem flat_length : ∀ (l : List Int), (l.flatMap be4).length = 4 * l.length
  | [] => rfl
  | a :: l => by rw [List.flatMap_cons, List.length_append, flat_length l, List.length_cons]; show 4 + _ = _; omega
theorem outB_length (h : List Int) (i : Nat) (hi : i ≤ h.length) : (outB h i).length = 4 * h.length := by
  unfold outB
  rw [List.length_append, flat_length, List.length_take, List.length_replicate]
  omega
theorem outB_step (h : List Int) (i : Nat) (hi : i < h.length) : (outB h i).take (4 * i) ++ be4 (rd h i) ++ (outB h i).drop (4 * i + (be4 (rd h i)).length) = outB h (i + 1) := by
  have hl : ((h.take i).flatMap be4).length = 4 * i := by rw [flat_length, List.length_take]; omega
  unfold outB
  rw [List.take_append, List.drop_append, hl, Nat.sub_self, List.take_zero, List.append_nil, List.take_of_length_le (by omega), List.drop_of_length_le (by rw [hl]; omega), List.nil_append, List.drop_replicate,
    List.take_succ_eq_append_getElem hi, List.flatMap_append, rd_get h i hi]
  have e : 4 * (h.length - i) - (4 * i + (be4 h[i]).length - 4 * i) = 4 * (h.length - (i + 1)) := by
    show 4 * (h.length - i) - (4 * i + 4 - 4 * i) = _
    omega
  rw [e]
  simp
theorem outB_all (h : List Int) : outB h h.length = h.flatMap be4 := by
  unfold outB
  rw [List.take_length, Nat.sub_self, List.replicate_zero, List.append_nil]
theorem info_u8s : (Tryd.prog.info? 5).map (·.size) = some 1 := by kernel_rfl
/-- copy into a part of an array of bytes. -/
theorem Blk.copy {w : World} {g t off m c dLen dCap ty : Nat} {a : Addr} {l ys : List Int} (h : Blk w g t .u8 l) (hr : Rd w (some a) m ys) (ho : off + m ≤ l.length) (hd : m ≤ dLen) :
    (Builtin.copy_ #[34, 34] ty #[.slice (some ⟨g, off, none⟩) dLen dCap, .slice (some a) m c]).run Tryd.prog w = .ok (.int .i64 m) (w.setCells g off (nums .u8 ys)) ∧ Blk (w.setCells g off (nums .u8 ys)) g t .u8 (l.take off ++ ys ++ l.drop (off + ys.length)) := by
  have hl := Kd.C_len hr
  have hnl : (nums .u8 ys).length = m := by simp [nums, hl]
  have hcell : ∀ j, j < m → w.cell? (a.add j) = some (.int .u8 (rd ys j)) := by
    intro j hj
    obtain ⟨ad', e, hx⟩ := Kd.at_int hr j (by omega) (by omega)
    cases e
    exact hx
  constructor
  · have := run_copy_cells (P := Tryd.prog) w 34 34 ty 5 g off dLen dCap a m c (nums .u8 ys) Tryd.underlying34 info_u8s
      (by rw [hnl]; exact (Nat.min_eq_left hd).symm)
      (fun j v hv => by
        have hj : j < m := by have := (List.getElem?_eq_some_iff.1 hv).1; omega
        rw [hcell j hj, ← hv]
        simp [nums, rd, List.getD_eq_getElem?_getD, show j < ys.length by omega])
      (fun j hj => by rw [h.cell (off + j) (by omega)]; rfl)
      (fun j hj => h.free (off + j))
      (fun v hv => by simp only [nums, List.mem_map] at hv; obtain ⟨x, _, rfl⟩ := hv; rfl)
    rw [hnl] at this
    exact this
  · obtain ⟨cur', h1, h2, h3⟩ := setCells_row (nums .u8 ys) off w _ h (by rw [hnl]; simp [nums]; omega)
    unfold Blk
    rw [h1]
    rw [show cur' = (nums .u8 (l.take off ++ ys ++ l.drop (off + ys.length))).toArray from Array.ext' (by rw [h3]; simp [nums, List.map_take, List.map_drop])]
theorem Blk.farCells {w : World} {g g' t o : Nat} {k : IntKind} {l : List Int} (h : Blk w g t k l) (hg : g ≠ g') (vs : List Value) : Blk (w.setCells g' o vs) g t k l := by
  unfold Blk at *
  rw [setCells_far vs o g hg, h]
theorem Below.setCells_ {B g o : Nat} {a w : World} (h : Below B a w) (hB : B ≤ g) (vs : List Value) : Below B a (w.setCells g o vs) := by
  obtain ⟨s1, s2, s3, s4⟩ := setCells_same g vs o w
  exact h.trans ⟨s1, s2, s3, by rw [s4]; exact Nat.le_refl _, fun j hj => setCells_far vs o j (by omega)⟩
section
variable {ops : Array Oper} {rest : List Oper} {o : Oper} {a : Act} {Q : Exit → Act → World → Prop} {w : World}
/-- A whole array is read: as what it says of the variable. -/
theorem Blk.loadVar {g t : Nat} {k : IntKind} {l : List Int} (h : Blk w g t k l) (T : TypeId) (ha : (isAgg T).run Tryd.prog w = .ok true w) (hz : (Go.sizeOf T).run Tryd.prog w = .ok l.length w) :
    (Go.loadVar T ⟨g, 0, none⟩).run Tryd.prog w = .ok (.agg (nums k l).toArray) w := by
  have hnl : (nums k l).length = l.length := by simp [nums]
  have := run_loadCells_list (P := Tryd.prog) (w := w) ⟨g, 0, none⟩ (nums k l) (fun j v hv => by
    have hj : j < l.length := by have := (List.getElem?_eq_some_iff.1 hv).1; omega
    have hc := h.cell j hj
    rw [show (⟨g, 0, none⟩ : Addr).add j = ⟨g, j, none⟩ by unfold Addr.add; split <;> simp_all]
    rw [hc, ← hv]
    simp [nums, rd, List.getD_eq_getElem?_getD, hj])
  rw [hnl] at this
  simp [Go.loadVar, ha, hz, this]
theorem load_blk {g t : Nat} {k : IntKind} {l : List Int} {T : TypeId} {p : Operand} (hgd : o.guard = none) (ho : o.op = .load T p) (hp : a.eval p = .pointer (some ⟨g, 0, none⟩)) (h : Blk w g t k l)
    (ha : (isAgg T).run Tryd.prog w = .ok true w) (hz : (Go.sizeOf T).run Tryd.prog w = .ok l.length w) (hK : wpList Tryd.prog ops Q rest (a.put o.dst (.agg (nums k l).toArray)) w) : wpList Tryd.prog ops Q (o :: rest) a w := by
  refine wpList_plain hgd fun K hK' => ?_
  have hl : (Instr.loadAt T (.pointer (some ⟨g, 0, none⟩))).run Tryd.prog w = .ok (.agg (nums k l).toArray) w := by
    simp [Instr.loadAt, Instr.sureAddr, h.loadVar T ha hz]
  unfold Oper.wp execOp
  simp only [ho, hp, Sem.run_bind, Sem.run_pure, Result.andThen_ok, hl]
  exact hK' _ _ hK
theorem store_blk {g t : Nat} {k : IntKind} {l m : List Int} {T : TypeId} {p x : Operand} (hgd : o.guard = none) (hN : o.dst = none) (ho : o.op = .store T p x) (hp : a.eval p = .pointer (some ⟨g, 0, none⟩)) (hx : a.eval x = .agg (nums k m).toArray) (h : Blk w g t k l) (hl : m.length = l.length)
    (ht : (Tryd.prog.info? T).map (·.size) = some m.length) (hK : ∀ w1, Blk w1 g t k m → (∀ B a0, Below B a0 w → B ≤ g → Below B a0 w1) → wpList Tryd.prog ops Q rest a w1) : wpList Tryd.prog ops Q (o :: rest) a w := by
  have hnm : (nums k m).length = m.length := by simp [nums]
  have hrun := run_store_run (P := Tryd.prog) (w := w) (g := g) (o := 0) T (.agg (nums k m).toArray) (nums k m) h rfl (by rw [hnm]; exact ht) (by rw [hnm, hl]; simp [nums]) (fun q hq => by simp only [nums, List.mem_map] at hq; obtain ⟨x, _, rfl⟩ := hq; rfl)
  obtain ⟨cur', h1, h2, h3⟩ := setCells_row (nums k m) 0 w _ h (by rw [hnm, hl]; simp [nums])
  obtain ⟨s1, s2, s3, s4⟩ := setCells_same g (nums k m) 0 w
  refine wpList_plain hgd fun K hK' => ?_
  unfold Oper.wp execOp
  simp only [ho, hp, hx, Sem.run_bind, Sem.run_pure, Result.andThen_ok, hrun]
  show K (a.put o.dst undef) _
  rw [hN]
  refine hK' a _ (hK _ ?_ ?_)
  · unfold Blk
    rw [h1]
    rw [show cur' = (nums k m).toArray from Array.ext' (by rw [h3]; simp [nums, hl])]
  · intro B a0 hb hB
    exact hb.trans ⟨s1, s2, s3, by rw [s4]; exact Nat.le_refl _, fun j hj => setCells_far _ _ j (by omega)⟩
theorem results_blk {fn : Func} {tm : Tmp} {T : TypeId} (h : fn.results = #[.cell tm T]) {tmps : Array Value} {g t : Nat} {k : IntKind} {l : List Int} (ht : tmps.getD tm undef = .pointer (some ⟨g, 0, none⟩)) (hb : Blk w g t k l)
    (ha : (isAgg T).run Tryd.prog w = .ok true w) (hz : (Go.sizeOf T).run Tryd.prog w = .ok l.length w) : (results fn tmps).run Tryd.prog w = .ok (.agg (nums k l).toArray) w := by
  have hl := hb.loadVar T ha hz
  rw [Array.getD_eq_getD_getElem?] at ht
  simp [results, h, ht, asAddr, hl]
theorem index_blk {T E : TypeId} {k : IntKind} {l : List Int} {i : Nat} (hu : Tryd.prog.underlying T = some (.array l.length E)) (hz : (Go.sizeOf E).run Tryd.prog w = .ok 1 w) (ha : (isAgg E).run Tryd.prog w = .ok false w) (hi : i < l.length) :
    (Instr.index T (.agg (nums k l).toArray) (.int .i64 i)).run Tryd.prog w = .ok (.int k (rd l i)) w := by
  have h1 : (nums k l)[i]? = some (.int k (rd l i)) := by simp [nums, rd, List.getD_eq_getElem?_getD, hi]
  simp [Instr.index, asIntOf, run_underlying hu, hz, Go.part, ha, h1, hi]
end
end Go.Proofs.YtcgenmogedndjaaDoor
namespace Go.Proofs.YtcgenmogedndjaaDoor
open Go.RowKit Go.Proofs.YtcgenmogedndjaaDoorW.PrintWords
theorem gRounds : Tryd.prog.globalNamed "blotter/digest.rounds" = some 0 := by kernel_rfl
theorem tRounds : (Tryd.prog.globals[0]?).map (·.type) = some 110 := by kernel_rfl
theorem cellsU32 : Tryd.prog.cellsOf 103 = 1 := by kernel_rfl
theorem laid_consts : (Rows.laid_blotter_digest_rounds : DataW Unit) = .agg (consts.map fun n => .lit (.int .u32 n)) := rfl
set_option maxRecDepth 20000 in
theorem of_laid {W : World} (h : laidMetH Tryd.prog [("blotter/digest.rounds", Rows.laid_blotter_digest_rounds)] W) : Laid W := by
  rw [MakeChecks.laidMetH_plain _ _ _ (by kernel_rfl)] at h
  obtain ⟨ps, ⟨g0, t0, cs0, f0, p0, q0, hg0, ht0, hv0, hd0, _, _⟩, _, _⟩ := h
  obtain rfl := Option.some.inj (gRounds.symm.trans hg0)
  obtain rfl := Option.some.inj (tRounds.symm.trans ht0)
  obtain ⟨xs, m1, rfl, hx, hlen, hn, hel⟩ := DataW.trod_array Tryd.underlying110 hd0
  rw [laid_consts] at hx
  have hx1 : xs.map (·.1) = consts.map fun n => DataW.lit (.int .u32 n) := by
    have := congrArg Prod.fst hx
    simpa using this.symm
  have key : ∀ t : Nat, t < 64 → W.cell? ⟨0, t, none⟩ = some (.int .u32 (rd consts (t : Int))) := by
    intro t ht
    have h0 := hel t ht
    rw [cellsU32, Nat.mul_one, List.getElem?_eq_getElem (by rw [hn]; exact ht)] at h0
    obtain ⟨n, e1, e2, _⟩ := DataW.trod_int Tryd.underlying103 h0
    have hct : t < consts.length := ht
    have h2 : (xs.map (·.1))[t]? = some (DataW.lit (.int .u32 n)) := by
      rw [List.getElem?_map, List.getElem?_eq_getElem (by rw [hn]; exact ht), Option.map_some, e2]
    rw [hx1, List.getElem?_map, List.getElem?_eq_getElem hct, Option.map_some] at h2
    have hnn : consts[t] = n := by
      have := Option.some.inj h2
      injection this with this
      injection this
    rw [World.var?_cell gRounds hv0 t, rd_get consts t hct, hnn]
    have h3 : ((cs0.toList.drop t).take 1)[0]? = some (.int .u32 n) := by rw [e1]; rfl
    rw [List.getElem?_take_of_lt (by decide), List.getElem?_drop, Nat.add_zero] at h3
    simpa using h3
  refine ⟨?_, key⟩
  have h0 := key 0 (by decide)
  unfold World.cell? at h0
  rcases Nat.eq_zero_or_pos W.heap.size with hz | hp
  · rw [Array.getElem?_eq_none (by omega)] at h0
    cases h0
  · exact hp
/-- The door's own heap meets the condition. -/
theorem door_met (os : Os) (args : Array Value) : laidMetH Tryd.prog [("blotter/digest.rounds", Rows.laid_blotter_digest_rounds)] ((World.doorLaid Tryd.prog 400 os).forCall (fun _ _ => 0) ⟨#[], args, []⟩).memory :=
  laidMetH_of_parts3 (fuel := 8) (laidMet_of_run' 8 (by kernel_rfl) (by kernel_rfl)) (by kernel_rfl) (by kernel_rfl)
end Go.Proofs.YtcgenmogedndjaaDoor
namespace Go.Proofs.YtcgenmogedndjaaDoor
open Go.RowKit Go.ChangeShapes Go.WideShapes Go.Proofs.YtcgenmogedndjaaDoorW.PrintWords
section
variable {H : Type} {enc : TypeId × Value → H} {W : World} {base : Nat} {spare : Nat → Bool} {held : Bool} {fuel : Nat} {cs : List Value} {x : DataW H × List MemPlace}
theorem cells_u8 : Tryd.prog.cellsOf 5 = 1 := by kernel_rfl
theorem wf_Bytes {l : List Int} (h : ∀ y ∈ l, (Lit.int .u8 y).wf = true) : Bytes l := by
  intro y hy
  have h1 := h y hy
  simp [Lit.wf, IntKind.min, IntKind.max, IntKind.signed, IntKind.bits] at h1
  omega
theorem wf_i64 {u : Int} (h : (Lit.int .i64 u).wf = true) : -9223372036854775808 ≤ u ∧ u ≤ 9223372036854775807 := by
  simp [Lit.wf, IntKind.min, IntKind.max, IntKind.signed, IntKind.bits] at h
  omega
/-- A row of bytes in a cell. -/
theorem open_bytes_cell (h : DataW.trod enc Tryd.prog W base spare held fuel 34 cs = some x) : ∃ (A : Option Addr) (n c : Nat) (l : List Int), cs = [.slice A n c] ∧ Rd W A n l ∧ n ≤ c ∧ Bytes l := by
  rcases open_ints Tryd.underlying34 Tryd.underlying5 cells_u8 h with ⟨rfl, _⟩ | ⟨a, len, cap, zs, rfl, _, hl, hm, hz, _, hcell, hwf⟩
  · exact ⟨none, 0, 0, [], rfl, Rd.empty _ _, Nat.le_refl _, Bytes.nil⟩
  · have hzl : len ≤ zs.length := by rw [hz]; split <;> omega
    refine ⟨some a, len, cap, zs.take len, rfl, Rd.mk (by simp; omega) (by simp only [maxLen] at hm; omega) fun j hj => ?_, hl, (wf_Bytes hwf).tk _⟩
    rw [hcell j (by omega)]
    congr 2
    unfold rd
    simp only [Int.toNat_natCast, List.getD_eq_getElem?_getD, List.getElem?_take]
    rw [if_pos hj]
end
end Go.Proofs.YtcgenmogedndjaaDoor
