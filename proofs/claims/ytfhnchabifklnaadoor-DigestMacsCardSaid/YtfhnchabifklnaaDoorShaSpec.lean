/- SHA-1 and SHA-256 as plain functions: what digest.Sha1 and digest.Sha256 compute. -/
import Derived.Test.YtfhnchabifklnaaDoorWords
namespace Go.Proofs.YtfhnchabifklnaaDoor
open Go.RowKit Go.Proofs.YtfhnchabifklnaaDoorW.PrintWords
def xr (x y : Int) : Int := bits .xor .u32 x y
def an (x y : Int) : Int := bits .and .u32 x y
def orr (x y : Int) : Int := bits .or .u32 x y
/-- All bits of a word turned. -/
def no (x : Int) : Int := 4294967295 - x
def ad (x y : Int) : Int := (x + y) % 4294967296
/-- SHA-1: the next word; a round; a block; all of it. -/
def sch1 (l : List Int) : Int := rotl (xr (xr (xr (rd l ((l.length : Int) - 3)) (rd l ((l.length : Int) - 8))) (rd l ((l.length : Int) - 14))) (rd l ((l.length : Int) - 16))) 1
structure St5 where
  (a b c d e : Int)
def fk1 (t : Nat) (s : St5) : Int × Int :=
  if 60 ≤ t then (xr (xr s.b s.c) s.d, 3395469782)
  else if 40 ≤ t then (orr (orr (an s.b s.c) (an s.b s.d)) (an s.c s.d), 2400959708)
  else if 20 ≤ t then (xr (xr s.b s.c) s.d, 1859775393)
  else (orr (an s.b s.c) (an (no s.b) s.d), 1518500249)
def round1 (s : St5) (t : Nat) (x : Int) : St5 := ⟨ad (ad (ad (ad (rotl s.a 5) (fk1 t s).1) s.e) (fk1 t s).2) x, s.a, rotl s.b 30, s.c, s.d⟩
def rounds1 : List Int → Nat → St5 → St5
  | [], _, s => s
  | x :: l, t, s => rounds1 l (t + 1) (round1 s t x)
def block1 (h : St5) (b : List Int) : St5 :=
  let s := rounds1 (extW sch1 64 (w32 b)) 0 h
  ⟨ad h.a s.a, ad h.b s.b, ad h.c s.c, ad h.d s.d, ad h.e s.e⟩
def blocks1 : Nat → St5 → List Int → St5
  | 0, h, _ => h
  | k + 1, h, p => blocks1 k (block1 h (p.take 64)) (p.drop 64)
def sha1 (l : List Int) : List Int :=
  let h := blocks1 ((padSha l).length / 64) ⟨1732584193, 4023233417, 2562383102, 271733878, 3285377520⟩ (padSha l)
  be4 h.a ++ be4 h.b ++ be4 h.c ++ be4 h.d ++ be4 h.e
theorem sha1_abc : sha1 [97, 98, 99] = [169, 153, 62, 54, 71, 6, 129, 106, 186, 62, 37, 113, 120, 80, 194, 108, 156, 208, 216, 157] := by decide +kernel
/-- SHA-256. -/
def sch2 (l : List Int) : Int :=
  let x := rd l ((l.length : Int) - 15)
  let y := rd l ((l.length : Int) - 2)
  ad (ad (ad (rd l ((l.length : Int) - 16)) (xr (xr (rotl x 25) (rotl x 14)) (x / 8))) (rd l ((l.length : Int) - 7))) (xr (xr (rotl y 15) (rotl y 13)) (y / 1024))
structure St8 where
  (a b c d e f g h : Int)
def turn (x : Int) (i j k : Nat) : Int := xr (xr (rotl x (32 - i)) (rotl x (32 - j))) (rotl x (32 - k))
def consts : List Int := [1116352408, 1899447441, 3049323471, 3921009573, 961987163, 1508970993, 2453635748, 2870763221, 3624381080, 310598401, 607225278, 1426881987, 1925078388, 2162078206, 2614888103, 3248222580, 3835390401, 4022224774, 264347078, 604807628, 770255983, 1249150122, 1555081692, 1996064986, 2554220882, 2821834349, 2952996808, 3210313671, 3336571891, 3584528711, 113926993, 338241895, 666307205, 773529912, 1294757372, 1396182291, 1695183700, 1986661051, 2177026350, 2456956037, 2730485921, 2820302411, 3259730800, 3345764771, 3516065817, 3600352804, 4094571909, 275423344, 430227734, 506948616, 659060556, 883997877, 958139571, 1322822218, 1537002063, 1747873779, 1955562222, 2024104815, 2227730452, 2361852424, 2428436474, 2756734187, 3204031479, 3329325298]
def round2 (s : St8) (t : Nat) (x : Int) : St8 :=
  let p := ad (ad (ad (ad s.h (turn s.e 6 11 25)) (xr (an s.e s.f) (an (no s.e) s.g))) (rd consts t)) x
  let q := ad (turn s.a 2 13 22) (xr (xr (an s.a s.b) (an s.a s.c)) (an s.b s.c))
  ⟨ad p q, s.a, s.b, s.c, ad s.d p, s.e, s.f, s.g⟩
def rounds2 : List Int → Nat → St8 → St8
  | [], _, s => s
  | x :: l, t, s => rounds2 l (t + 1) (round2 s t x)
def block2 (h : St8) (b : List Int) : St8 :=
  let s := rounds2 (extW sch2 48 (w32 b)) 0 h
  ⟨ad h.a s.a, ad h.b s.b, ad h.c s.c, ad h.d s.d, ad h.e s.e, ad h.f s.f, ad h.g s.g, ad h.h s.h⟩
def blocks2 : Nat → St8 → List Int → St8
  | 0, h, _ => h
  | k + 1, h, p => blocks2 k (block2 h (p.take 64)) (p.drop 64)
def sha2 (l : List Int) : List Int :=
  let h := blocks2 ((padSha l).length / 64) ⟨1779033703, 3144134277, 1013904242, 2773480762, 1359893119, 2600822924, 528734635, 1541459225⟩ (padSha l)
  be4 h.a ++ be4 h.b ++ be4 h.c ++ be4 h.d ++ be4 h.e ++ be4 h.f ++ be4 h.g ++ be4 h.h
theorem sha2_abc : sha2 [97, 98, 99] = [186, 120, 22, 191, 143, 1, 207, 234, 65, 65, 64, 222, 93, 174, 34, 35, 176, 3, 97, 163, 150, 23, 122, 156, 180, 16, 255, 97, 242, 0, 21, 173] := by decide +kernel
end Go.Proofs.YtfhnchabifklnaaDoor
