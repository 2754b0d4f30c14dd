/- The closures that make SHA's further words. -/
import Derived.Test.YtfhnchabifklnaaDoorShaSpec
namespace Go.Proofs.YtfhnchabifklnaaDoor
open Go.RowKit Go.Proofs.YtfhnchabifklnaaDoorW.PrintWords
theorem bits32 (op : BinOp) (x y : Int) (h : 0 ≤ bits op .u32 x y ∧ bits op .u32 x y ≤ 4294967295) : 0 ≤ bits op .u32 x y ∧ bits op .u32 x y < 4294967296 := by omega
theorem xr_range (x y : Int) : 0 ≤ xr x y ∧ xr x y < 4294967296 := by
  have := bits_within .xor .u32 x y
  have e1 : IntKind.u32.min = 0 := rfl
  have e2 : IntKind.u32.max = 4294967295 := rfl
  unfold xr
  omega
theorem ad_range (x y : Int) : 0 ≤ ad x y ∧ ad x y < 4294967296 := ⟨Int.emod_nonneg _ (by decide), Int.emod_lt_of_pos _ (by decide)⟩
theorem sch1_range (l : List Int) : 0 ≤ sch1 l ∧ sch1 l < 4294967296 := by
  unfold sch1
  have h := xr_range (xr (xr (rd l ((l.length : Int) - 3)) (rd l ((l.length : Int) - 8))) (rd l ((l.length : Int) - 14))) (rd l ((l.length : Int) - 16))
  exact rotl_range _ h.1 h.2 1 (by omega)
theorem sch2_range (l : List Int) : 0 ≤ sch2 l ∧ sch2 l < 4294967296 := ad_range _ _
set_option maxHeartbeats 1600000 in
theorem sch1_calls (W : World) (A : Option Addr) (c : Nat) (l : List Int) (hr : RdW W A l.length l) (_hw : Ws l) (hl : 16 ≤ l.length) (hl2 : l.length ≤ 80) :
    Calls Tryd.prog 27 #[.slice A l.length c] W fun e w' => e = .returned (.int .u32 (sch1 l)) ∧ Drawn0 W w' := by
  obtain ⟨ad', rfl, hcell⟩ := RdW.cells hr (by omega)
  obtain ⟨n, hn⟩ : ∃ n, n = l.length := ⟨_, rfl⟩
  rw [← hn] at hcell hl hl2 ⊢
  have cell : ∀ q : Nat, q ≤ n → 1 ≤ q → W.cell? (ad'.add (n - q)) = some (.int .u32 (rd l ((n : Int) - q))) := by
    intro q h1 h2
    have := hcell (n - q) (by omega)
    rwa [show ((n - q : Nat) : Int) = (n : Int) - q by omega] at this
  have x3 := cell 3 (by omega) (by omega)
  have x8 := cell 8 (by omega) (by omega)
  have x14 := cell 14 (by omega) (by omega)
  have x16 := cell 16 (by omega) (by omega)
  have HE := Lib.hid (show sch1 l = rotl (xr (xr (xr (rd l ((n : Int) - (3 : Nat))) (rd l ((n : Int) - (8 : Nat)))) (rd l ((n : Int) - (14 : Nat)))) (rd l ((n : Int) - (16 : Nat)))) 1 by unfold sch1; rw [← hn]; rfl)
  obtain ⟨y3, e3⟩ : ∃ y, y = rd l ((n : Int) - (3 : Nat)) := ⟨_, rfl⟩
  obtain ⟨y8, e8⟩ : ∃ y, y = rd l ((n : Int) - (8 : Nat)) := ⟨_, rfl⟩
  obtain ⟨y14, e14⟩ : ∃ y, y = rd l ((n : Int) - (14 : Nat)) := ⟨_, rfl⟩
  obtain ⟨y16, e16⟩ : ∃ y, y = rd l ((n : Int) - (16 : Nat)) := ⟨_, rfl⟩
  rw [← e3, ← e8, ← e14, ← e16] at HE
  rw [← e3] at x3
  rw [← e8] at x8
  rw [← e14] at x14
  rw [← e16] at x16
  have hX := xr_range (xr (xr y3 y8) y14) y16
  obtain ⟨X, hXe⟩ : ∃ X, xr (xr (xr y3 y8) y14) y16 = X := ⟨_, rfl⟩
  rw [hXe] at hX HE
  have hX1 : bits .xor .u32 (bits .xor .u32 (bits .xor .u32 y3 y8) y14) y16 = X := hXe
  have HX := Lib.hid hX
  have w3 : IntKind.i64.wrap ((n : Int) - 3) = n - 3 := by rw [IntKind.wrap_i64]; omega
  have w8 : IntKind.i64.wrap ((n : Int) - 8) = n - 8 := by rw [IntKind.wrap_i64]; omega
  have w14 : IntKind.i64.wrap ((n : Int) - 14) = n - 14 := by rw [IntKind.wrap_i64]; omega
  have w16 : IntKind.i64.wrap ((n : Int) - 16) = n - 16 := by rw [IntKind.wrap_i64]; omega
  have t3 : ((n : Int) - 3).toNat = n - 3 := by omega
  have t8 : ((n : Int) - 8).toNat = n - 8 := by omega
  have t14 : ((n : Int) - 14).toNat = n - 14 := by omega
  have t16 : ((n : Int) - 16).toNat = n - 16 := by omega
  have l3 : (0 : Int) ≤ (n : Int) - 3 := by omega
  have l8 : (0 : Int) ≤ (n : Int) - 8 := by omega
  have l14 : (0 : Int) ≤ (n : Int) - 14 := by omega
  have l16 : (0 : Int) ≤ (n : Int) - 16 := by omega
  have u3 : (n : Int) - 3 < n := by omega
  have u8' : (n : Int) - 8 < n := by omega
  have u14 : (n : Int) - 14 < n := by omega
  have u16' : (n : Int) - 16 < n := by omega
  clear hcell cell e3 e8 e14 e16 hX hXe hn hr
  go_enter Tryd.func27, Tryd.ntmps27
  go_wp2_with fail
  go_quiet (first | (go_at_call 28; refine (rot_calls X 1 _ HX.out.1 HX.out.2 1 (by omega) (by omega)).mono ?_; rintro e w' ⟨rfl, ⟨nd, rfl⟩⟩; exact ⟨rfl, _, World.drewN_drewN _ _ _⟩))
  go_wp2
  go_ret
  exact ⟨by rw [HE.out]; rfl, (Drawn0.refl _).step _⟩
theorem sch1_makes : Makes 27 sch1 := ⟨fun l _ _ => sch1_range l, fun W A c l h1 h2 h3 h4 => sch1_calls W A c l h1 h2 h3 h4⟩
set_option maxHeartbeats 3200000 in
theorem sch2_calls (W : World) (A : Option Addr) (c : Nat) (l : List Int) (hr : RdW W A l.length l) (hw : Ws l) (hl : 16 ≤ l.length) (hl2 : l.length ≤ 80) :
    Calls Tryd.prog 33 #[.slice A l.length c] W fun e w' => e = .returned (.int .u32 (sch2 l)) ∧ Drawn0 W w' := by
  obtain ⟨ad', rfl, hcell⟩ := RdW.cells hr (by omega)
  obtain ⟨n, hn⟩ : ∃ n, n = l.length := ⟨_, rfl⟩
  have hrg : ∀ q : Nat, q ≤ n → 1 ≤ q → 0 ≤ rd l ((n : Int) - q) ∧ rd l ((n : Int) - q) < 4294967296 := by
    intro q h1 h2
    have := hw.rd (n - q) (by omega)
    rwa [show ((n - q : Nat) : Int) = (n : Int) - q by omega] at this
  rw [← hn] at hcell hl hl2 ⊢
  have cell : ∀ q : Nat, q ≤ n → 1 ≤ q → W.cell? (ad'.add (n - q)) = some (.int .u32 (rd l ((n : Int) - q))) := by
    intro q h1 h2
    have := hcell (n - q) (by omega)
    rwa [show ((n - q : Nat) : Int) = (n : Int) - q by omega] at this
  have x15 := cell 15 (by omega) (by omega)
  have x2 := cell 2 (by omega) (by omega)
  have x16 := cell 16 (by omega) (by omega)
  have x7 := cell 7 (by omega) (by omega)
  have g15 := hrg 15 (by omega) (by omega)
  have g2 := hrg 2 (by omega) (by omega)
  obtain ⟨x, ex⟩ : ∃ y, y = rd l ((n : Int) - (15 : Nat)) := ⟨_, rfl⟩
  obtain ⟨y, ey⟩ : ∃ y, y = rd l ((n : Int) - (2 : Nat)) := ⟨_, rfl⟩
  obtain ⟨p, ep⟩ : ∃ y, y = rd l ((n : Int) - (16 : Nat)) := ⟨_, rfl⟩
  obtain ⟨q, eq⟩ : ∃ y, y = rd l ((n : Int) - (7 : Nat)) := ⟨_, rfl⟩
  have hE : sch2 l = ad (ad (ad p (xr (xr (rotl x 25) (rotl x 14)) (x / 8))) q) (xr (xr (rotl y 15) (rotl y 13)) (y / 1024)) := by
    rw [ex, ey, ep, eq]
    unfold sch2
    rw [← hn]
    rfl
  rw [← ex] at x15 g15
  rw [← ey] at x2 g2
  rw [← ep] at x16
  rw [← eq] at x7
  obtain ⟨A1, eA1⟩ : ∃ A1, xr (xr (rotl x 25) (rotl x 14)) (x / 8) = A1 := ⟨_, rfl⟩
  rw [eA1] at hE
  obtain ⟨D1, eD1⟩ : ∃ D1, xr (xr (rotl y 15) (rotl y 13)) (y / 1024) = D1 := ⟨_, rfl⟩
  rw [eD1] at hE
  obtain ⟨B1, eB1⟩ : ∃ B1, ad p A1 = B1 := ⟨_, rfl⟩
  rw [eB1] at hE
  obtain ⟨C1, eC1⟩ : ∃ C1, ad B1 q = C1 := ⟨_, rfl⟩
  rw [eC1] at hE
  obtain ⟨E1, eE1⟩ : ∃ E1, ad C1 D1 = E1 := ⟨_, rfl⟩
  rw [eE1] at hE
  have HE := Lib.hid hE
  have hA1 : bits .xor .u32 (bits .xor .u32 (rotl x 25) (rotl x 14)) (x / 8) = A1 := eA1
  have hD1 : bits .xor .u32 (bits .xor .u32 (rotl y 15) (rotl y 13)) (y / 1024) = D1 := eD1
  have hB1 : IntKind.u32.wrap (p + A1) = B1 := by rw [IntKind.wrap_u32]; exact eB1
  have hC1 : IntKind.u32.wrap (B1 + q) = C1 := by rw [IntKind.wrap_u32]; exact eC1
  have hE1 : IntKind.u32.wrap (C1 + D1) = E1 := by rw [IntKind.wrap_u32]; exact eE1
  have GX := Lib.hid g15
  have GY := Lib.hid g2
  have w15 : IntKind.i64.wrap ((n : Int) - 15) = n - 15 := by rw [IntKind.wrap_i64]; omega
  have t15 : ((n : Int) - 15).toNat = n - 15 := by omega
  have l15 : (0 : Int) ≤ (n : Int) - 15 := by omega
  have u15' : (n : Int) - 15 < n := by omega
  have w2 : IntKind.i64.wrap ((n : Int) - 2) = n - 2 := by rw [IntKind.wrap_i64]; omega
  have t2 : ((n : Int) - 2).toNat = n - 2 := by omega
  have l2 : (0 : Int) ≤ (n : Int) - 2 := by omega
  have u2' : (n : Int) - 2 < n := by omega
  have w16 : IntKind.i64.wrap ((n : Int) - 16) = n - 16 := by rw [IntKind.wrap_i64]; omega
  have t16 : ((n : Int) - 16).toNat = n - 16 := by omega
  have l16 : (0 : Int) ≤ (n : Int) - 16 := by omega
  have u16' : (n : Int) - 16 < n := by omega
  have w7 : IntKind.i64.wrap ((n : Int) - 7) = n - 7 := by rw [IntKind.wrap_i64]; omega
  have t7 : ((n : Int) - 7).toNat = n - 7 := by omega
  have l7 : (0 : Int) ≤ (n : Int) - 7 := by omega
  have u7' : (n : Int) - 7 < n := by omega
  clear hcell cell ex ey ep eq eA1 eD1 eB1 eC1 eE1 hE hn hr hw hrg g15 g2
  go_enter Tryd.func33, Tryd.ntmps33
  go_wp2_with fail
  go_quiet (fail)
  have z15 := Drawn0.step (Drawn0.refl W) nq
  have HD := Lib.hid z15
  have y16 : (W.drewN nq).cell? (ad'.add (n - 16)) = some (.int .u32 p) := x16
  have y7 : (W.drewN nq).cell? (ad'.add (n - 7)) = some (.int .u32 q) := x7
  generalize W.drewN nq = W2 at y16 y7 HD ⊢
  clear z15 x15 x2 x16 x7
  go_wp2_with fail
  go_quiet (first | (go_at_call 28; (first | with_reducible refine (rot_calls x (-7) _ GX.out.1 GX.out.2 25 (by omega) (by omega)).mono ?_ | with_reducible refine (rot_calls x (-18) _ GX.out.1 GX.out.2 14 (by omega) (by omega)).mono ?_ | with_reducible refine (rot_calls y (-17) _ GY.out.1 GY.out.2 15 (by omega) (by omega)).mono ?_ | with_reducible refine (rot_calls y (-19) _ GY.out.1 GY.out.2 13 (by omega) (by omega)).mono ?_); rintro e w' ⟨rfl, ⟨nd, rfl⟩⟩; exact ⟨rfl, _, World.drewN_drewN _ _ _⟩))
  go_wp2
  go_ret
  exact ⟨by rw [HE.out]; rfl, HD.out.step _⟩
theorem sch2_makes : Makes 33 sch2 := ⟨fun l _ _ => sch2_range l, fun W A c l h1 h2 h3 h4 => sch2_calls W A c l h1 h2 h3 h4⟩
end Go.Proofs.YtfhnchabifklnaaDoor
