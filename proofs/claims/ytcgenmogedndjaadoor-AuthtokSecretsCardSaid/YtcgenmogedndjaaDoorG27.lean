/- The texts AuthSame, AuthOne, Secrets, AuthAwake in one. -/
import Derived.Test.YtcgenmogedndjaaDoorG01
import Derived.Test.YtcgenmogedndjaaDoorG03
import Derived.Test.YtcgenmogedndjaaDoorG10
import Derived.Test.YtcgenmogedndjaaDoorG14
import Derived.Test.YtcgenmogedndjaaDoorG16
import Derived.Test.YtcgenmogedndjaaDoorG18
import Derived.Deep.CutBlock
import Derived.Lib.SmallJoins
namespace Go.Proofs.YtcgenmogedndjaaDoor
open Go.RowKit Go.Proofs.YtcgenmogedndjaaDoorW.PrintWords
set_option maxRecDepth 20000 in
set_option maxHeartbeats 1600000 in
/-- One secret beside the same one. -/
theorem same1_calls {n : Nat} (id : Int) (A B : Option Addr) (c d : Nat) (l : List Int) (w : World) (hr0 : Rd w A n l) (hr1 : Rd w B n l) (hb : Bytes l) :
    Calls Tryd.prog 37 #[.agg #[.int .i64 id, .slice A n c], .agg #[.int .i64 id, .slice B n d]] w fun e w' => e = .returned (.bool true) ∧ Below w.heap.size w w' := by
  obtain ⟨g0, hg0⟩ : ∃ g, g = w.heap.size := ⟨_, rfl⟩
  obtain ⟨W0, hW0⟩ : ∃ W, W = w.alloc (.cells #[.int .i64 id, .slice A n c] 42) := ⟨_, rfl⟩
  obtain ⟨g1, hg1⟩ : ∃ g, g = W0.heap.size := ⟨_, rfl⟩
  obtain ⟨W1, hW1⟩ : ∃ W, W = W0.alloc (.cells #[.int .i64 id, .slice B n d] 42) := ⟨_, rfl⟩
  have hb0 : Below w.heap.size w W0 := by rw [hW0]; exact below_alloc (Below.refl _ _) _
  have hb1 : Below W0.heap.size W0 W1 := by rw [hW1]; exact below_alloc (Below.refl _ _) _
  have hw0 : Whole W0 g0 42 #[.int .i64 id, .slice A n c] := by rw [hW0, hg0]; exact Whole.new w _ _
  have hw1 : Whole W1 g1 42 #[.int .i64 id, .slice B n d] := by rw [hW1, hg1]; exact Whole.new W0 _ _
  have x0 := (hw0.below hb1 hw0.lt).cell 0 _ rfl
  have x1 := (hw0.below hb1 hw0.lt).cell 1 _ rfl
  have y0 := hw1.cell 0 _ rfl
  have y1 := hw1.cell 1 _ rfl
  have hz : W0.heap.size = g0 + 1 := by rw [hW0, hg0]; exact Array.size_push _
  have HS := Lib.hid (show g0 = w.heap.size ∧ W0 = w.alloc _ ∧ g1 = g0 + 1 ∧ W1 = W0.alloc _ from ⟨hg0, hW0, by rw [hg1, hz], hW1⟩)
  have HI := Lib.hid (show Rd W1 A n l ∧ Rd W1 B n l ∧ Bytes l ∧ Below w.heap.size w W1 from ⟨Kd.C_below hr0 (below_step hb0 hb1), Kd.C_below hr1 (below_step hb0 hb1), hb, below_step hb0 hb1⟩)
  clear hr0 hr1 hb hg0 hg1 hW0 hW1 hb0 hb1 hw0 hw1 hz
  go_enter Tryd.func37, Tryd.ntmps37
  go_upto_region 1 with (fail)
  rw [← HS.out.1, ← HS.out.2.1, ← HS.out.2.2.1, ← HS.out.2.2.2]
  go_wp2_with fail
  refine (Equal_true _ _ l _ _ l _ HI.out.1 HI.out.2.1 HI.out.2.2.1 rfl).mono ?_
  rintro e w' ⟨rfl, hd⟩
  have HD := Lib.hid (below_step HI.out.2.2.2 hd.below)
  clear hd
  go_wp2
  go_ret
  exact ⟨rfl, HD.out⟩
set_option maxRecDepth 20000 in
set_option maxHeartbeats 3200000 in
theorem EqualFuncS_true {n : Nat} (A0 : Option Addr) (c0 : Nat) (A1 : Option Addr) (c1 : Nat) (L : List Sec) (w : World) (hr0 : RdS w A0 n L) (hr1 : RdS w A1 n L) (hok : SecOk L) :
    Calls Tryd.prog 36 #[.slice A0 n c0, .slice A1 n c1, .func (.func 37) #[] #[]] w fun e w' => e = .returned (.bool true) ∧ Below w.heap.size w w' := by
  have HI := Lib.hid (show RdS w A0 n L ∧ RdS w A1 n L ∧ SecOk L ∧ L.length = n ∧ n ≤ 9223372036854775807 from ⟨hr0, hr1, hok, Kd.C_len hr0, Kd.C_max hr0⟩)
  clear hr0 hr1 hok
  go_enter Tryd.func36, Tryd.ntmps36
  go_wp2
  go_loopw [17] (fun i wr => ∃ k : Nat, k ≤ n ∧ i = .int .i64 k ∧ Hid (Below w.heap.size w wr)) (fun i _ => n - (intOf i).toNat)
  case atStart => exact ⟨0, by omega, rfl, Lib.hid (Below.refl _ _)⟩
  case round =>
    obtain ⟨k, hk, rfl, HD⟩ := hrel
    by_cases hkn : k < n
    · have dkn : decide ((k : Int) < n) = true := decide_eq_true (by omega)
      have hmx := HI.out.2.2.2.2
      have wk : IntKind.i64.wrap ((k : Int) + 1) = k + 1 := wrap_id (by omega) (by omega)
      have ikn : (k : Int) < n := by omega
      have i0 : (0 : Int) ≤ k := by omega
      obtain ⟨ad, Ai, ci, rfl, x0, x1, hci, hrd⟩ := RdS.at (Kd.C_below HI.out.1 HD.out) k hkn
      obtain ⟨bd, Bi, di, rfl, y0, y1, hdi, hsd⟩ := RdS.at (Kd.C_below HI.out.2.1 HD.out) k hkn
      have hso := (HI.out.2.2.1.at k (by have := HI.out; omega)).1
      obtain ⟨sc, hsc⟩ : ∃ sc, sc = L.getD k Sec.none := ⟨_, rfl⟩
      rw [← hsc] at x0 x1 hci hrd y0 y1 hdi hsd hso
      obtain ⟨sid, sk⟩ := sc
      simp only at x0 x1 hci hrd y0 y1 hdi hsd hso
      obtain ⟨nk, hnk⟩ : ∃ nk, nk = sk.length := ⟨_, rfl⟩
      rw [← hnk] at x1 hci hrd y1 hdi hsd
      obtain ⟨g7, hg7⟩ : ∃ g, g = wr.heap.size := ⟨_, rfl⟩
      obtain ⟨W7, hW7⟩ : ∃ W, W = wr.alloc (.cells #[.int .i64 sid, .slice Ai nk ci] 42) := ⟨_, rfl⟩
      obtain ⟨g8, hg8⟩ : ∃ g, g = W7.heap.size := ⟨_, rfl⟩
      obtain ⟨W8, hW8⟩ : ∃ W, W = W7.alloc (.cells #[.int .i64 sid, .slice Bi nk di] 42) := ⟨_, rfl⟩
      have hb7 : Below wr.heap.size wr W7 := by rw [hW7]; exact below_alloc (Below.refl _ _) _
      have hb8 : Below W7.heap.size W7 W8 := by rw [hW8]; exact below_alloc (Below.refl _ _) _
      have hw7 : Whole W7 g7 42 #[.int .i64 sid, .slice Ai nk ci] := by rw [hW7, hg7]; exact Whole.new wr _ _
      have hw8 : Whole W8 g8 42 #[.int .i64 sid, .slice Bi nk di] := by rw [hW8, hg8]; exact Whole.new W7 _ _
      have z0 := pw_cell_below hb7 y0
      have z1 := pw_cell_below hb7 y1
      have HS := Lib.hid (show g7 = wr.heap.size ∧ W7 = wr.alloc _ ∧ g8 = W7.heap.size ∧ W8 = W7.alloc _ from ⟨hg7, hW7, hg8, hW8⟩)
      have HK := Lib.hid (show Below w.heap.size w W8 ∧ Whole W8 g7 42 #[.int .i64 sid, .slice Ai nk ci] ∧ Whole W8 g8 42 #[.int .i64 sid, .slice Bi nk di] ∧ Rd W8 Ai nk sk ∧ Rd W8 Bi nk sk ∧ Bytes sk ∧ k < n from
        ⟨below_step HD.out (below_step hb7 hb8), hw7.below hb8 hw7.lt, hw8, Kd.C_below hrd (below_step hb7 hb8), Kd.C_below hsd (below_step hb7 hb8), hso, hkn⟩)
      clear hmx hci hrd hdi hsd hso hsc hnk hg7 hW7 hg8 hW8 hb7 hb8 hw7 hw8 y0 y1 hkn
      go_upto_region 6 with (fail)
      rw [← HS.out.1, ← HS.out.2.1]
      clear x0 x1
      go_upto_region 7 with (fail)
      rw [← HS.out.2.2.1, ← HS.out.2.2.2]
      clear z0 z1
      have v0 := HK.out.2.1.cell 0 _ rfl
      have v1 := HK.out.2.1.cell 1 _ rfl
      have u0 := HK.out.2.2.1.cell 0 _ rfl
      have u1 := HK.out.2.2.1.cell 1 _ rfl
      go_wp2_with fail
      refine (same1_calls sid Ai Bi ci di sk W8 HK.out.2.2.2.1 HK.out.2.2.2.2.1 HK.out.2.2.2.2.2.1).mono ?_
      rintro e w9 ⟨rfl, hb9⟩
      have HB9 := Lib.hid (below_step HK.out.1 hb9)
      clear hb9
      go_wp2
      go_roundw
      case rel => exact ⟨k + 1, by have := HK.out; omega, by go_num, HB9⟩
      case measure => have := HK.out; simp [intOf]; omega
    · obtain rfl : k = n := by omega
      have dkn : decide ((k : Int) < k) = false := decide_eq_false (by omega)
      go_wp2
      go_ret
      exact ⟨rfl, HD.out⟩
set_option maxHeartbeats 1600000 in
theorem same_calls {n : Nat} (A0 : Option Addr) (c0 : Nat) (A1 : Option Addr) (c1 : Nat) (L : List Sec) (w : World) (hr0 : RdS w A0 n L) (hr1 : RdS w A1 n L) (hok : SecOk L) :
    Calls Tryd.prog 22 #[.slice A0 n c0, .slice A1 n c1] w fun e w' => e = .returned (.bool true) ∧ Below w.heap.size w w' := by
  have HI := Lib.hid (show RdS w A0 n L ∧ RdS w A1 n L ∧ SecOk L from ⟨hr0, hr1, hok⟩)
  clear hr0 hr1 hok
  go_enter Tryd.func22, Tryd.ntmps22
  go_wp2_with fail
  refine (EqualFuncS_true A0 c0 A1 c1 L w HI.out.1 HI.out.2.1 HI.out.2.2).mono ?_
  rintro e w1 ⟨rfl, hb1⟩
  have HB := Lib.hid hb1
  clear hb1
  go_wp2
  go_ret
  exact ⟨rfl, HB.out⟩
end Go.Proofs.YtcgenmogedndjaaDoor
namespace Go.Proofs.YtcgenmogedndjaaDoor
open Go.RowKit Go.Proofs.YtcgenmogedndjaaDoorW.PrintWords
theorem RdS.mk1 {w : World} {g t n c : Nat} {fr : Nat × Nat} {A : Option Addr} {id : Int} {key : List Int} (h : w.heap[g]? = some (.cells #[.int .i64 id, .slice A n c] t fr)) (hr : Rd w A n key) (hc : n ≤ c) : RdS w (some ⟨g, 0, none⟩) 1 [⟨id, key⟩] := by
  have hl := Kd.C_len hr
  subst hl
  refine ⟨rfl, by decide, fun _ => ⟨_, rfl, fun j p hj => ?_⟩⟩
  have hj0 : j = 0 := by
    have := (List.getElem?_eq_some_iff.1 hj).1
    simp at this
    exact this
  subst hj0
  have hp : p = ⟨id, key⟩ := by simpa using hj.symm
  subst hp
  refine ⟨[.int .i64 id, .slice A key.length c], rfl, ⟨[.int .i64 id], [.slice A key.length c], rfl, rfl, ⟨A, c, rfl, hc, hr⟩⟩, fun i u hu => ?_⟩
  rw [add_plain]
  unfold World.cell?
  rw [h]
  rcases i with _ | _ | i
  · simpa using hu
  · simpa using hu
  · simp at hu
def kk : List Int := List.replicate 16 107
set_option maxHeartbeats 800000 in
set_option maxRecDepth 20000 in
theorem one_calls (id : Int) (w : World) :
    Calls Tryd.prog 27 #[.int .i64 id] w fun e w' => ∃ (A : Option Addr) (c : Nat), e = .returned (.agg #[.int .i64 id, .slice A 16 c]) ∧ Rd w' A 16 kk ∧ 16 ≤ c ∧ Below w.heap.size w w' := by
  have kc := fun (w : World) (C : Array Value) (n c g : Nat) (hg : g = w.heap.size) => Joins.run_convert_bytes_const_at (P := Tryd.prog) w 34 5 C n c g hg Tryd.underlying34 Tryd.underlying5
  obtain ⟨g, hg⟩ : ∃ g, g = w.heap.size := ⟨_, rfl⟩
  obtain ⟨g2, hg2⟩ : ∃ g2, g2 = g + 1 := ⟨_, rfl⟩
  obtain ⟨W0, hW0⟩ : ∃ W, W = w.alloc (.cells #[.int .i64 0, .slice none 0 0] 42) := ⟨_, rfl⟩
  have hz0 : W0.heap.size = g2 := by rw [hW0, size_alloc, hg2, hg]
  have hb0 : Below w.heap.size w W0 := by rw [hW0]; exact below_alloc (Below.refl _ _) _
  have hw0 : Whole W0 g 42 #[.int .i64 0, .slice none 0 0] := by rw [hW0, hg]; exact Whole.new w _ _
  obtain ⟨W1, hW1⟩ : ∃ W, W = W0.alloc (.cells #[.int .u8 107, .int .u8 107, .int .u8 107, .int .u8 107, .int .u8 107, .int .u8 107, .int .u8 107, .int .u8 107, .int .u8 107, .int .u8 107, .int .u8 107, .int .u8 107, .int .u8 107, .int .u8 107, .int .u8 107, .int .u8 107] 5 (16, 17)) := ⟨_, rfl⟩
  have hb1 : Below W0.heap.size W0 W1 := by rw [hW1]; exact below_alloc (Below.refl _ _) _
  have hr1 : Rd W1 (some ⟨g2, 0, none⟩) 16 kk := by rw [hW1, ← hz0]; exact C_const W0 5 kk (16, 17) (by decide)
  have HS := Lib.hid (show g = w.heap.size ∧ g2 = g + 1 ∧ W0 = w.alloc _ ∧ W1 = W0.alloc _ from ⟨hg, hg2, hW0, hW1⟩)
  have HW := Lib.hid (show Whole W1 g 42 #[.int .i64 0, .slice none 0 0] ∧ Below w.heap.size w W1 ∧ Rd W1 (some ⟨g2, 0, none⟩) 16 kk ∧ w.heap.size ≤ g ∧ g2 ≠ g from ⟨hw0.below hb1 hw0.lt, below_step hb0 hb1, hr1, by rw [hg]; exact Nat.le_refl _, by omega⟩)
  clear hg hg2 hz0 hb0 hw0 hb1 hr1 hW0 hW1
  go_enter Tryd.func27, Tryd.ntmps27
  go_wp2_with (refine gate_ (.store 42 (.tmp 2) (.tmp 6)) rfl ?_; rw [← HS.out.1, ← HS.out.2.2.1, ← HS.out.2.1, ← HS.out.2.2.2]; refine store_whole rfl rfl rfl rfl rfl HW.out.1 rfl (by simp [Value.oneCell']) rfl (by kernel_rfl) ?_; intro w9 hk9 hb9 hf9 hg9)
  refine bodyPost_ret (results_whole rfl _ _ g _ _ _ _ rfl hk9 Tryd.underlying42 rfl (by kernel_rfl)) rfl ?_
  exact ⟨some ⟨g2, 0, none⟩, 16, rfl, HW.out.2.2.1.grown hg9 (fun ad he e => by cases he; injection e with e; exact HW.out.2.2.2.2 e), Nat.le_refl _, hb9 _ _ HW.out.2.1 HW.out.2.2.2.1⟩
end Go.Proofs.YtcgenmogedndjaaDoor
namespace Go.Proofs.YtcgenmogedndjaaDoor
open Go.RowKit Go.Proofs.YtcgenmogedndjaaDoorW.PrintWords
theorem info_sec : (Tryd.prog.info? 42).map (fun i => (i.zero, i.size, i.bytes)) = some (some (.agg #[.int .i64 0, .slice none 0 0]), 2, 32) := by kernel_rfl
theorem OwnS.cast {w0 w : World} {v : Value} {l m : List Sec} (h : OwnS w0 w v l) (he : l = m) : OwnS w0 w v m := he ▸ h
theorem OwnS.nil (w0 w : World) : OwnS w0 w (.slice none 0 0) [] := Kd.R_nil _ _ _ _ _
theorem OwnS.reads {w0 w : World} {v : Value} {L : List Sec} (h : OwnS w0 w v L) : ∃ A c, v = .slice A L.length c ∧ L.length ≤ c ∧ RdS w A L.length L := by
  obtain ⟨A, c, rfl⟩ := Kd.R_slice h
  exact ⟨A, c, rfl, (Kd.R_reads' h).2.1, (Kd.R_reads' h).2.2⟩
theorem take_succ_getD (L : List Sec) (k : Nat) (h : k < L.length) : L.take (k + 1) = L.take k ++ [L.getD k Sec.none] := by
  rw [List.take_succ_eq_append_getElem h, List.getD_eq_getElem?_getD, List.getElem?_eq_getElem h]
  rfl
set_option maxRecDepth 20000 in
set_option maxHeartbeats 3200000 in
theorem secrets_calls {n : Nat} (A0 : Option Addr) (c0 : Nat) (L : List Sec) (w : World) (hr0 : RdS w A0 n L) (hok : SecOk L) :
    Calls Tryd.prog 10 #[.slice A0 n c0] w fun e w' => ∃ (v : Value) (b : Bool), e = .returned (.tuple #[v, .bool b]) ∧ Below w.heap.size w w' ∧ (b = true → OwnS w w' v L ∧ L.length ≤ 21) := by
  have hlen : L.length = n := Kd.C_len hr0
  have hmax := Kd.C_max hr0
  have HI := Lib.hid (show RdS w A0 n L ∧ SecOk L ∧ L.length = n ∧ n ≤ 9223372036854775807 from ⟨hr0, hok, hlen, hmax⟩)
  clear hr0 hok hlen hmax
  go_enter Tryd.func10, Tryd.ntmps10
  go_wp2
  go_loopw [4, 9] (fun v i wr => ∃ (k : Nat) (A : Option Addr) (c : Nat), i = .int .i64 k ∧ k ≤ n ∧ v = .slice A k c ∧ k ≤ 21 ∧ Hid (OwnS w wr (.slice A k c) (L.take k) ∧ Below w.heap.size w wr)) (fun _ i _ => n - (intOf i).toNat)
  case atStart => exact ⟨0, none, 0, rfl, by omega, rfl, by omega, Lib.hid ⟨OwnS.nil _ _, Below.refl _ _⟩⟩
  case round =>
    obtain ⟨k, A, c, rfl, hk, rfl, hk21, H⟩ := hrel
    by_cases hkn : k < n
    · have dkn : decide ((k : Int) < n) = true := decide_eq_true (by omega)
      have dkn' : decide (k < n) = true := decide_eq_true hkn
      have ikn : (k : Int) < n := by omega
      have hmx := HI.out.2.2.2
      have wk : IntKind.i64.wrap ((k : Int) + 1) = k + 1 := wrap_id (by omega) (by omega)
      have hki : k < L.length := by have := HI.out.2.2.1; omega
      obtain ⟨ad, Ai, ci, rfl, x0, x1, hci, hrd⟩ := RdS.at (Kd.C_below HI.out.1 H.out.2) k hkn
      have htk := take_succ_getD L k hki
      have hso := HI.out.2.1.at k hki
      obtain ⟨sc, hsc⟩ : ∃ sc, sc = L.getD k Sec.none := ⟨_, rfl⟩
      rw [← hsc] at x0 x1 hci hrd htk hso
      obtain ⟨sid, sk⟩ := sc
      simp only at x0 x1 hci hrd hso
      obtain ⟨nk, hnk⟩ : ∃ nk, nk = sk.length := ⟨_, rfl⟩
      have hcl := fun W (h : Rd W Ai sk.length sk) (hs : sk.length < 140737488355328) => bytes_Clone.calls Ai ci sk sk W h hci (if_pos hs)
      rw [← hnk] at x1 hci hrd hcl
      have HK := Lib.hid (show L.take (k + 1) = L.take k ++ [⟨sid, sk⟩] ∧ Rd wr Ai nk sk ∧ k < n ∧ nk = sk.length ∧ (L.take k).length = k from ⟨htk, hrd, hkn, hnk, by rw [List.length_take]; omega⟩)
      have HTL := Lib.hid (show (L.take (k + 1)).length = k + 1 by rw [List.length_take]; omega)
      have HCL := Lib.hid hcl
      clear hmx hki htk hso hsc hci hrd hkn hnk hcl
      obtain ⟨g7, hg7⟩ : ∃ g, g = wr.heap.size := ⟨_, rfl⟩
      obtain ⟨W7, hW7⟩ : ∃ W, W = wr.alloc (.cells #[.int .i64 sid, .slice Ai nk ci] 42) := ⟨_, rfl⟩
      have hb7 : Below wr.heap.size wr W7 := by rw [hW7]; exact below_alloc (Below.refl _ _) _
      have hws : Whole W7 g7 42 #[.int .i64 sid, .slice Ai nk ci] := by rw [hW7, hg7]; exact Whole.new wr _ _
      have H7 := Lib.hid (show Below w.heap.size w W7 ∧ Whole W7 g7 42 #[.int .i64 sid, .slice Ai nk ci] ∧ OwnS w W7 (.slice A k c) (L.take k) ∧ Rd W7 Ai nk sk ∧ (∀ q, (Value.slice A k c).ownBlock = some q → q < g7) ∧ g7 < W7.heap.size from ⟨below_step H.out.2 hb7, hws, Kd.R_below H.out.1 hb7, Kd.C_below HK.out.2.1 hb7, by rw [hg7]; exact Kd.R_lt H.out.1, hws.lt⟩)
      have HS7 := Lib.hid (show g7 = wr.heap.size ∧ W7 = wr.alloc _ from ⟨hg7, hW7⟩)
      have y0 := hws.cell 0 _ rfl
      have y1 := hws.cell 1 _ rfl
      clear hb7 hws hg7 hW7
      go_upto_region 5 with (fail)
      rw [← HS7.out.1, ← HS7.out.2]
      clear x0 x1
      by_cases h20 : 20 < k
      · have d20 : decide (20 < (k : Int)) = true := decide_eq_true (by omega)
        have d20' : decide (20 < k) = true := decide_eq_true h20
        clear h20
        go_wp2
        go_ret2
        exact ⟨_, _, rfl, H7.out.1, fun h => by cases h⟩
      · have d20 : decide (20 < (k : Int)) = false := decide_eq_false (by omega)
        have d20' : decide (20 < k) = false := decide_eq_false h20
        have hk20 : k ≤ 20 := by omega
        by_cases h64 : 65536 < nk
        · have d64 : decide (65536 < (nk : Int)) = true := decide_eq_true (by omega)
          have d64' : decide (65536 < nk) = true := decide_eq_true h64
          clear h64 h20
          go_wp2
          go_ret2
          exact ⟨_, _, rfl, H7.out.1, fun h => by cases h⟩
        · have d64 : decide (65536 < (nk : Int)) = false := decide_eq_false (by omega)
          have d64' : decide (65536 < nk) = false := decide_eq_false h64
          have HN := Lib.hid (show nk ≤ 65536 by omega)
          clear h64 h20
          go_wp2_with fail
          go_region_held3 (fun w' => w'.cell? ⟨g7, 0, none⟩ = some (.int .i64 sid) ∧ w'.cell? ⟨g7, 1, none⟩ = some (.slice Ai nk ci))
            (first
              | exact ⟨y0, y1⟩
              | exact HB9.out.2
              | exact ⟨pw_cell_below HB8.out.1 y0, pw_cell_below HB8.out.1 y1⟩
              | exact ⟨pw_cell_below (below_alloc HB8.out.1 _) y0, pw_cell_below (below_alloc HB8.out.1 _) y1⟩
              | go_keep)
            (first
              | (go_at_call 26; (with_reducible refine (HCL.out _ (Kd.C_below H7.out.2.2.2.1 (below_drew (Below.refl _ _))) (by have := HN.out; omega)).mono ?_); rintro e w8 ⟨v8, rfl, ho8, hb8⟩; have HB8 := Lib.hid (show Below W7.heap.size W7 w8 ∧ Own W7 w8 v8 sk from ⟨below_step (below_drew (Below.refl _ _)) hb8, ho8⟩); obtain ⟨A8, c8, rfl, hc8, hr8⟩ := HB8.out.2.reads; clear ho8 hb8 hc8 hr8)
              | (refine Kd.R_append_step secK (w0 := w) w.heap.size (by rfl) (.tmp 22) (.tmp 29) 22 42 (.agg #[.int .i64 0, .slice none 0 0]) 32 rfl Tryd.underlying22 info_sec rfl (by decide) (by decide) (.slice A k c) (L.take k) ⟨sid, sk⟩ [.int .i64 sid, .slice A8 sk.length c8] (fun _ => True) (fun q => W7.heap.size ≤ q) rfl rfl
                  ⟨[.int .i64 sid], [.slice A8 sk.length c8], rfl, rfl, ⟨.slice A8 sk.length c8, rfl, Kd.R_lower (Kd.R_mono (Kd.R_bound HB8.out.2) (fun q hq => hq.2.1)) H7.out.1.size⟩⟩
                  (fun q hq => ⟨trivial, fun he => by have h1 := H7.out.2.2.2.2.1 q he.symm; have h2 := H7.out.2.2.2.2.2; omega⟩) (fun _ _ => trivial) (Kd.R_below H7.out.2.2.1 HB8.out.1) (below_step H7.out.1 HB8.out.1) (below_step H7.out.1 HB8.out.1).size (by rw [HK.out.2.2.2.2]; omega) ?_
                 intro v9 w9 ho9 hb9 hg9 _
                 have HB9 := Lib.hid (show (OwnS w w9 v9 (L.take (k + 1)) ∧ Below w.heap.size w w9) ∧ (w9.cell? ⟨g7, 0, none⟩ = some (.int .i64 sid) ∧ w9.cell? ⟨g7, 1, none⟩ = some (.slice Ai nk ci)) from
                   ⟨⟨OwnS.cast ho9 HK.out.1.symm, hb9⟩, hg9.cell (pw_cell_below HB8.out.1 y0) (fun e => Nat.lt_irrefl _ (H7.out.2.2.2.2.1 g7 e.symm)), hg9.cell (pw_cell_below HB8.out.1 y1) (fun e => Nat.lt_irrefl _ (H7.out.2.2.2.2.1 g7 e.symm))⟩)
                 obtain ⟨A9, c9, rfl, _, _⟩ := HB9.out.1.1.reads
                 rw [HTL.out] at HB9 ⊢
                 clear ho9 hb9 hg9))
          go_wp2
          go_roundw
          case rel => exact ⟨k + 1, A9, c9, by go_num, by have := HK.out; omega, rfl, by omega, Lib.hid HB9.out.1⟩
          case measure => have := HK.out; simp [intOf]; omega
    · obtain rfl : k = n := by omega
      have dkn : decide ((k : Int) < k) = false := decide_eq_false (by omega)
      have dkn' : decide (k < k) = false := decide_eq_false (by omega)
      have HL := Lib.hid (show L.take k = L from List.take_of_length_le (by rw [HI.out.2.2.1]; exact Nat.le_refl _))
      go_wp2
      go_ret2
      exact ⟨_, _, rfl, H.out.2, fun _ => ⟨OwnS.cast H.out.1 HL.out, by rw [HI.out.2.2.1]; exact hk21⟩⟩
end Go.Proofs.YtcgenmogedndjaaDoor
namespace Go.Proofs.YtcgenmogedndjaaDoor
open Go.RowKit Go.Proofs.YtcgenmogedndjaaDoorW.PrintWords
def awS : Sec := ⟨1, kk⟩
def awC : Clm := ⟨⟨#[99, 49]⟩, ⟨#[103]⟩, 1000⟩
def awT : ByteArray := tokS awS awC
theorem aw_check : checkB [awS] = true := by decide
theorem aw_ok : ClmOk awC := by unfold ClmOk; decide
theorem aw_sec : SecOk [awS] := by
  intro s hs
  rw [List.mem_singleton] at hs
  subst hs
  exact ⟨by unfold Bytes awS kk; decide, by decide, by decide⟩
theorem aw_make : makeR [awS] awC = (awT, 0) := makeR_ok aw_check ((clmE_iff _).2 aw_ok)
theorem aw_pay : payL awS.id awC = [1, 2, 99, 49, 1, 103, 249, 3, 232] := by decide
theorem aw_front : sp3 (payL awS.id awC) = [65, 81, 74, 106, 77, 81, 70, 110, 45, 81, 80, 111] := by rw [aw_pay]; decide
theorem aw_size : awT.size = 56 := by
  have h := tok_bytes awS awC
  have h2 := congrArg List.length h
  rw [bytesOf_length, List.length_append, List.length_cons, aw_front, sp3_length, mac_length] at h2
  exact h2
theorem aw_head : awT.extract 0 13 = ⟨#[65, 81, 74, 106, 77, 81, 70, 110, 45, 81, 80, 111, 46]⟩ := by
  apply bytesOf_inj
  rw [bytesOf_extract, List.drop_zero, Nat.sub_zero]
  unfold awT
  rw [tok_bytes, aw_front]
  rfl
theorem aw_read (now : Int) (x : Clm) (f : Int) (h : RdSpec [awS] now awT x f) : (now < 1000 → x = awC ∧ f = 0) ∧ (1000 ≤ now → x = Clm.none ∧ f = 101) :=
  ⟨fun hn => h.unique (RdSpec.yes aw_check (List.mem_singleton.2 rfl) aw_ok rfl hn), fun hn => h.unique (RdSpec.over aw_check (List.mem_singleton.2 rfl) aw_ok rfl hn)⟩
set_option maxRecDepth 20000 in
set_option maxHeartbeats 3200000 in
theorem aw_calls (w : World) (hG : Laid w) :
    Calls Tryd.prog 11 #[] w fun e w' => e = .returned (.bool true) ∧ Below w.heap.size w w' := by
  obtain ⟨g, hg⟩ : ∃ g, g = w.heap.size := ⟨_, rfl⟩
  obtain ⟨W0, hW0⟩ : ∃ W0, W0 = w.alloc (.cells #[.string ⟨#[99, 49]⟩, .string ⟨#[103]⟩, .int .i64 1000] 24) := ⟨_, rfl⟩
  have hbw : Below w.heap.size w W0 := by rw [hW0]; exact below_alloc (Below.refl _ _) _
  have hwh : Whole W0 g 24 #[.string ⟨#[99, 49]⟩, .string ⟨#[103]⟩, .int .i64 1000] := by rw [hW0, hg]; exact Whole.new w _ _
  have x0 := hwh.cell 0 _ rfl
  have x1 := hwh.cell 1 _ rfl
  have x2 := hwh.cell 2 _ rfl
  have HS := Lib.hid (show g = w.heap.size ∧ W0 = w.alloc _ from ⟨hg, hW0⟩)
  have HI := Lib.hid (show Below w.heap.size w W0 ∧ Whole W0 g 24 #[.string ⟨#[99, 49]⟩, .string ⟨#[103]⟩, .int .i64 1000] ∧ Laid W0 from ⟨hbw, hwh, hG.below hbw hG.lt⟩)
  have HMK := Lib.hid (show makeR [⟨1, kk⟩] ⟨⟨#[99, 49]⟩, ⟨#[103]⟩, 1000⟩ = (awT, 0) from aw_make)
  have HSO := Lib.hid (show SecOk [⟨1, kk⟩] from aw_sec)
  clear hg hW0 hbw hwh hG
  go_enter Tryd.func11, Tryd.ntmps11
  go_upto_region 2 with (fail)
  rw [← HS.out.1, ← HS.out.2]
  go_region_held3 (fun w' => w'.cell? ⟨g, 0, none⟩ = some (.string ⟨#[99, 49]⟩) ∧ w'.cell? ⟨g, 1, none⟩ = some (.string ⟨#[103]⟩) ∧ w'.cell? ⟨g, 2, none⟩ = some (.int .i64 1000))
    (first
      | exact ⟨x0, x1, x2⟩
      | exact ⟨pw_cell_below HB3.out x0, pw_cell_below HB3.out x1, pw_cell_below HB3.out x2⟩
      | exact ⟨pw_cell_below HB2.out.1 x0, pw_cell_below HB2.out.1 x1, pw_cell_below HB2.out.1 x2⟩
      | exact ⟨pw_cell_below (below_alloc HB2.out.1 _) x0, pw_cell_below (below_alloc HB2.out.1 _) x1, pw_cell_below (below_alloc HB2.out.1 _) x2⟩
      | go_keep)
    (first
      | (go_at_call 12; with_reducible refine (Make_calls _ _ [⟨1, kk⟩] _ _ _ _ (RdS.mk1 (heap_alloc_new _ _) (Kd.C_below HB2.out.2.1 (below_alloc (Below.refl _ _) _)) HB2.out.2.2) HSO.out (by decide) (by decide) (by decide) (HI.out.2.2.below (below_alloc HB2.out.1 _) HI.out.2.2.lt)).mono ?_; rintro e w3 ⟨rfl, hb3⟩; rw [HMK.out]; have HB3 := Lib.hid (below_step (below_alloc HB2.out.1 _) hb3); clear hb3)
      | (go_at_call 27; with_reducible refine (one_calls 1 _).mono ?_; rintro e w2 ⟨A2, c2, rfl, hr2, hc2, hb2⟩; have HB2 := Lib.hid (show Below W0.heap.size W0 w2 ∧ Rd w2 A2 16 kk ∧ 16 ≤ c2 from ⟨below_step (below_drew (Below.refl _ _)) hb2, hr2, hc2⟩); clear hr2 hc2 hb2))
  clear x0 x1 x2
  go_wp2_with fail
  refine (one_calls 1 _).mono ?_
  rintro e w4 ⟨A4, c4, rfl, hr4, hc4, hb4⟩
  have H4 := Lib.hid (show Below W0.heap.size W0 w4 ∧ Rd w4 A4 16 kk ∧ 16 ≤ c4 from ⟨below_step HB3.out hb4, hr4, hc4⟩)
  clear hr4 hc4 hb4
  go_wp2_with fail
  refine (AuthRead_calls _ _ [⟨1, kk⟩] _ _ _ (RdS.mk1 (heap_alloc_new _ _) (Kd.C_below H4.out.2.1 (below_alloc (Below.refl _ _) _)) H4.out.2.2) HSO.out (by rw [aw_size]; decide) (HI.out.2.2.below (below_alloc H4.out.1 _) HI.out.2.2.lt)).mono ?_
  rintro e w5 ⟨x, f, rfl, hsp, hb5⟩
  obtain ⟨rfl, rfl⟩ := (aw_read _ _ _ hsp).1 (by decide)
  rw [show awC.client = ⟨#[99, 49]⟩ from rfl, show awC.group = ⟨#[103]⟩ from rfl, show awC.upto = 1000 from rfl]
  have H5 := Lib.hid (below_step (below_alloc H4.out.1 _) hb5)
  clear hsp hb5
  obtain ⟨g5, hg5⟩ : ∃ g, g = w5.heap.size := ⟨_, rfl⟩
  obtain ⟨W5, hW5⟩ : ∃ W, W = w5.alloc (.cells #[.string ⟨#[99, 49]⟩, .string ⟨#[103]⟩, .int .i64 1000] 24) := ⟨_, rfl⟩
  have H6 := Lib.hid (show Below W0.heap.size W0 W5 ∧ Whole W5 g5 24 #[.string ⟨#[99, 49]⟩, .string ⟨#[103]⟩, .int .i64 1000] from ⟨by rw [hW5]; exact below_alloc H5.out _, by rw [hW5, hg5]; exact Whole.new w5 _ _⟩)
  have HS5 := Lib.hid (show g5 = w5.heap.size ∧ W5 = w5.alloc _ from ⟨hg5, hW5⟩)
  clear hg5 hW5
  go_upto_region 4 with (fail)
  rw [← HS5.out.1, ← HS5.out.2]
  go_wp2_with fail
  refine (one_calls 1 _).mono ?_
  rintro e w6 ⟨A6, c6, rfl, hr6, hc6, hb6⟩
  have H7 := Lib.hid (show Below W0.heap.size W0 w6 ∧ Rd w6 A6 16 kk ∧ 16 ≤ c6 ∧ Below W5.heap.size W5 w6 from ⟨below_step H6.out.1 hb6, hr6, hc6, hb6⟩)
  clear hr6 hc6 hb6
  go_wp2_with fail
  refine (AuthRead_calls _ _ [⟨1, kk⟩] _ _ _ (RdS.mk1 (heap_alloc_new _ _) (Kd.C_below H7.out.2.1 (below_alloc (Below.refl _ _) _)) H7.out.2.2.1) HSO.out (by rw [aw_size]; decide) (HI.out.2.2.below (below_alloc H7.out.1 _) HI.out.2.2.lt)).mono ?_
  rintro e w7 ⟨x, f, rfl, hsp, hb7⟩
  obtain ⟨rfl, rfl⟩ := (aw_read _ _ _ hsp).2 (by decide)
  rw [show Clm.none.client = ⟨#[]⟩ from rfl, show Clm.none.group = ⟨#[]⟩ from rfl, show Clm.none.upto = 0 from rfl]
  have H8 := Lib.hid (show Below W0.heap.size W0 w7 ∧ Below W5.heap.size W5 w7 from ⟨below_step (below_alloc H7.out.1 _) hb7, below_step (below_alloc H7.out.2.2.2 _) hb7⟩)
  clear hsp hb7
  go_upto_region 5 with (fail)
  obtain ⟨W8, hW8⟩ : ∃ W, W = w7.alloc (.cells #[.string ⟨#[]⟩, .string ⟨#[]⟩, .int .i64 0] 24) := ⟨_, rfl⟩
  have h85 : Below W5.heap.size W5 W8 := by rw [hW8]; exact below_alloc H8.out.2 _
  have h80 : Below W0.heap.size W0 W8 := by rw [hW8]; exact below_alloc H8.out.1 _
  have hc := H6.out.2.below h85 H6.out.2.lt
  have hd := HI.out.2.1.below h80 HI.out.2.1.lt
  have HB8 := Lib.hid (below_step HI.out.1 h80)
  have HW8 := Lib.hid hW8
  have x0 := hc.cell 0 _ rfl
  have x1 := hc.cell 1 _ rfl
  have x2 := hc.cell 2 _ rfl
  have y0 := hd.cell 0 _ rfl
  have y1 := hd.cell 1 _ rfl
  have y2 := hd.cell 2 _ rfl
  have hsz := aw_size
  have hhd := aw_head
  have i13 : (13 : Int) ≤ awT.size := by rw [hsz]; decide
  have j13 : 13 ≤ awT.size := by rw [hsz]; decide
  clear hW8 h85 h80 hc hd
  rw [← HW8.out]
  go_wp2
  go_ret
  exact ⟨rfl, HB8.out⟩
end Go.Proofs.YtcgenmogedndjaaDoor
