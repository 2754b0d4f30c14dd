/- The texts AuthPay in one. -/
import Derived.Test.YtcgenmogedndjaaDoorG03
namespace Go.Proofs.YtcgenmogedndjaaDoor
open Go.RowKit Go.Proofs.YtcgenmogedndjaaDoorW.PrintWords
def payL (id : Int) (c : Clm) : List Int := numForm id ++ textForm c.client ++ textForm c.group ++ numForm c.upto
theorem payL_length (id : Int) (c : Clm) : (payL id c).length ≤ 36 + c.client.size + c.group.size := by
  have h1 := numForm_length id
  have h2 := numForm_length c.upto
  have h3 := numForm_length c.client.size
  have h4 := numForm_length c.group.size
  have h5 := bytesOf_length c.client
  have h6 := bytesOf_length c.group
  unfold payL textForm
  simp only [List.length_append]
  omega
theorem payL_Bytes (id : Int) (c : Clm) : Bytes (payL id c) := by
  unfold payL textForm
  exact Bytes.app (Bytes.app (Bytes.app (numForm_Bytes _) (Bytes.app (numForm_Bytes _) (Bytes_bytesOf _))) (Bytes.app (numForm_Bytes _) (Bytes_bytesOf _))) (numForm_Bytes _)
set_option maxHeartbeats 1600000 in
theorem payload_calls (id : Int) (a b : ByteArray) (u : Int) (w : World) (hi : -9223372036854775808 ≤ id ∧ id ≤ 9223372036854775807) (ha : a.size ≤ 1099511627776) (hb : b.size ≤ 1099511627776) (hu : -9223372036854775808 ≤ u ∧ u ≤ 9223372036854775807) :
    Calls Tryd.prog 45 #[.int .i64 id, .agg #[.string a, .string b, .int .i64 u]] w fun e w' => ∃ v, e = .returned v ∧ Own w w' v (payL id ⟨a, b, u⟩) ∧ Below w.heap.size w w' := by
  obtain ⟨g, hg⟩ : ∃ g, g = w.heap.size := ⟨_, rfl⟩
  obtain ⟨W0, hW0⟩ : ∃ W0, W0 = w.alloc (.cells #[.string a, .string b, .int .i64 u] 24) := ⟨_, rfl⟩
  have hbw : Below w.heap.size w W0 := by rw [hW0]; exact below_alloc (Below.refl _ _) _
  have hhp : W0.heap[g]? = some (.cells #[.string a, .string b, .int .i64 u] 24) := by rw [hW0, hg]; exact heap_alloc_new w _
  have x0 : W0.cell? ⟨g, 0, none⟩ = some (.string a) := by simp [World.cell?, hhp]
  have x1 : W0.cell? ⟨g, 1, none⟩ = some (.string b) := by simp [World.cell?, hhp]
  have x2 : W0.cell? ⟨g, 2, none⟩ = some (.int .i64 u) := by simp [World.cell?, hhp]
  have l1 := numForm_length id
  have l2 := numForm_length a.size
  have l3 := numForm_length b.size
  have l4 := bytesOf_length a
  have l5 := bytesOf_length b
  have HBW := Lib.hid hbw
  have HS := Lib.hid (show g = w.heap.size ∧ W0 = w.alloc _ from ⟨hg, hW0⟩)
  have HI := Lib.hid (And.intro hi hu)
  obtain ⟨L1, hL1⟩ : ∃ L, L = numForm id := ⟨_, rfl⟩
  obtain ⟨L2, hL2⟩ : ∃ L, L = L1 ++ textForm a := ⟨_, rfl⟩
  obtain ⟨L3, hL3⟩ : ∃ L, L = L2 ++ textForm b := ⟨_, rfl⟩
  have n1 : L1.length ≤ 9 := by rw [hL1]; exact l1.2
  have n2 : L2.length ≤ 18 + a.size := by rw [hL2, List.length_append]; unfold textForm; rw [List.length_append]; omega
  have n3 : L3.length ≤ 27 + a.size + b.size := by rw [hL3, List.length_append]; unfold textForm; rw [List.length_append]; omega
  have N1 := Lib.hid (show L1.length + a.size ≤ 140737488351232 by omega)
  have N2 := Lib.hid (show L2.length + b.size ≤ 140737488351232 by omega)
  have N3 := Lib.hid (show L3.length ≤ 140737488351232 by omega)
  have HL := Lib.hid (show [] ++ numForm id = L1 ∧ L1 ++ textForm a = L2 ∧ L2 ++ textForm b = L3 ∧ L3 ++ numForm u = payL id ⟨a, b, u⟩ from ⟨by rw [hL1]; rfl, hL2.symm, hL3.symm, by rw [hL3, hL2, hL1]; rfl⟩)
  clear hL1 hL2 hL3 n1 n2 n3
  clear hg hW0 hbw hhp hi hu l1 l2 l3 l4 l5 ha hb
  go_enter Tryd.func45, Tryd.ntmps45
  go_wp2_with fail
  rw [← HS.out.1, ← HS.out.2]
  go_region_held3 (fun w' => w'.cell? ⟨g, 0, none⟩ = some (.string a) ∧ w'.cell? ⟨g, 1, none⟩ = some (.string b) ∧ w'.cell? ⟨g, 2, none⟩ = some (.int .i64 u))
    (first
      | exact ⟨x0, x1, x2⟩
      | exact ⟨pw_cell_below HB4.out x0, pw_cell_below HB4.out x1, pw_cell_below HB4.out x2⟩
      | exact ⟨pw_cell_below HB3.out x0, pw_cell_below HB3.out x1, pw_cell_below HB3.out x2⟩
      | exact ⟨pw_cell_below HB2.out x0, pw_cell_below HB2.out x1, pw_cell_below HB2.out x2⟩
      | exact ⟨pw_cell_below HB1.out x0, pw_cell_below HB1.out x1, pw_cell_below HB1.out x2⟩)
    (first
      | (go_at_call 61; with_reducible refine (Number_calls _ _ _ u _ HO3.out N3.out HI.out.2.1 HI.out.2.2).mono ?_; rintro e w4 ⟨v4, rfl, ho4, hb4⟩; have HO4 := Lib.hid (ho4.cast HL.out.2.2.2); have HB4 := Lib.hid (below_step HB3.out hb4); clear ho4 hb4)
      | (go_at_call 62; with_reducible refine (Text_calls _ _ _ b _ HO2.out N2.out).mono ?_; rintro e w3 ⟨v3, rfl, ho3, hb3⟩; replace ho3 := ho3.cast HL.out.2.2.1; obtain ⟨A3, c3, rfl, _, hr3⟩ := ho3.reads; have HO3 := Lib.hid hr3; have HB3 := Lib.hid (below_step HB2.out hb3); clear ho3 hb3 hr3)
      | (go_at_call 62; with_reducible refine (Text_calls _ _ _ a _ HO1.out N1.out).mono ?_; rintro e w2 ⟨v2, rfl, ho2, hb2⟩; replace ho2 := ho2.cast HL.out.2.1; obtain ⟨A2, c2, rfl, _, hr2⟩ := ho2.reads; have HO2 := Lib.hid hr2; have HB2 := Lib.hid (below_step HB1.out hb2); clear ho2 hb2 hr2)
      | (go_at_call 61; with_reducible refine (Number_calls none 0 [] id _ (Rd.empty _ _) (by omega) HI.out.1.1 HI.out.1.2).mono ?_; rintro e w1 ⟨v1, rfl, ho1, hb1⟩; replace ho1 := ho1.cast HL.out.1; obtain ⟨A1, c1, rfl, _, hr1⟩ := ho1.reads; have HO1 := Lib.hid hr1; have HB1 := Lib.hid hb1; clear ho1 hb1 hr1))
  go_wp2
  go_ret
  exact ⟨_, rfl, Own.lower HO4.out (below_step HBW.out (below_step (below_drew (Below.refl _ _)) HB3.out)).size, below_step HBW.out (below_step (below_drew (Below.refl _ _)) HB4.out)⟩
end Go.Proofs.YtcgenmogedndjaaDoor
