/- blotterlaw07.awake: the digests of abc. -/
import Derived.Test.YtfhnchabifklnaaDoorSha256
import Derived.Test.YtfhnchabifklnaaDoorBase64
import Derived.Lib.SmallJoins
namespace Go.Proofs.YtfhnchabifklnaaDoor
open Go.RowKit Go.Proofs.YtfhnchabifklnaaDoorW.PrintWords
theorem strOf_b64_0 : strOfNums (b64 [0]) = ⟨#[65, 65, 61, 61]⟩ := by decide +kernel
section
variable {ops : Array Oper} {rest : List Oper} {o : Oper} {a : Act} {Q : Exit → Act → World → Prop} {w : World}
theorem store_blk2 {g t : Nat} {k : IntKind} {l m : List Int} {T : TypeId} {p x : Operand} (hgd : o.guard = none) (hN : o.dst = none) (ho : o.op = .store T p x) (hp : a.eval p = .pointer (some ⟨g, 0, none⟩)) (hx : a.eval x = .agg (nums k m).toArray) (h : Blk w g t k l) (hl : m.length = l.length)
    (ht : (Tryd.prog.info? T).map (·.size) = some m.length) (hK : ∀ w1, Blk w1 g t k m → (∀ B a0, Below B a0 w → B ≤ g → Below B a0 w1) → (∀ g' t' k' l', g' ≠ g → Blk w g' t' k' l' → Blk w1 g' t' k' l') → wpList Tryd.prog ops Q rest a w1) : wpList Tryd.prog ops Q (o :: rest) a w := by
  have hnm : (nums k m).length = m.length := by simp [nums]
  have hrun := run_store_run (P := Tryd.prog) (w := w) (g := g) (o := 0) T (.agg (nums k m).toArray) (nums k m) h rfl (by rw [hnm]; exact ht) (by rw [hnm, hl]; simp [nums]) (fun q hq => by simp only [nums, List.mem_map] at hq; obtain ⟨x, _, rfl⟩ := hq; rfl)
  obtain ⟨cur', h1, h2, h3⟩ := setCells_row (nums k m) 0 w _ h (by rw [hnm, hl]; simp [nums])
  refine wpList_plain hgd fun K hK' => ?_
  unfold Oper.wp execOp
  simp only [ho, hp, hx, Sem.run_bind, Sem.run_pure, Result.andThen_ok, hrun]
  show K (a.put o.dst undef) _
  rw [hN]
  refine hK' a _ (hK _ ?_ ?_ ?_)
  · unfold Blk
    rw [h1]
    congr 1
    congr 1
    apply Array.ext'
    rw [h3]
    simp [nums, hl]
  · intro B a0 hb hB
    exact Below.setCells_ hb hB _
  · intro g' t' k' l' hne hb
    exact hb.farCells hne _
end
set_option maxRecDepth 20000 in
set_option maxHeartbeats 4000000 in
theorem awake_calls (w : World) (hG : Laid w) :
    Calls Tryd.prog 11 #[] w fun e w' => e = .returned (.bool true) ∧ Below w.heap.size w w' := by
  have HG := Lib.hid hG
  clear hG
  have kc := fun (w : World) (C : Array Value) (n c g : Nat) (hg : g = w.heap.size) => Joins.run_convert_bytes_const_at (P := Tryd.prog) w 22 5 C n c g hg Tryd.underlying22 Tryd.underlying5
  have HC := Lib.hid (show ∀ W : World, Rd (W.alloc (.cells #[.int .u8 97, .int .u8 98, .int .u8 99] 5 (3, 4))) (some ⟨W.heap.size, 0, none⟩) 3 [97, 98, 99] from fun W => C_const W 5 [97, 98, 99] (3, 4) (by decide))
  go_enter Tryd.func11, Tryd.ntmps11
  go_wp2_with fail
  refine (Sha1_calls _ _ _ _ (HC.out _) (by unfold Bytes; decide) (Nat.le_refl 3) (by decide)).mono ?_
  rintro e w1 ⟨rfl, hb1⟩
  rw [sha1_abc]
  have HB1 := Lib.hid (show Below w.heap.size w w1 from below_step (below_alloc (Below.refl _ _) _) hb1)
  clear hb1
  have HG2 := Lib.hid (show Laid (w1.alloc (.cells #[.int .u8 97, .int .u8 98, .int .u8 99] 5 (3, 4))) from (HG.out.below HB1.out HG.out.lt).below (below_alloc (Below.refl w1.heap.size w1) _) (HG.out.below HB1.out HG.out.lt).lt)
  go_wp2_with fail
  refine (Sha256_calls _ _ _ _ (HC.out _) (by unfold Bytes; decide) (Nat.le_refl 3) (by decide) HG2.out).mono ?_
  rintro e w2 ⟨rfl, hb2⟩
  rw [sha2_abc]
  have HB2 := Lib.hid (show Below w.heap.size w w2 from below_step (below_alloc HB1.out _) hb2)
  clear hb2
  obtain ⟨g1, hg1⟩ : ∃ g1, g1 = w2.heap.size := ⟨_, rfl⟩
  obtain ⟨g2, hg2⟩ : ∃ g2, g2 = g1 + 1 := ⟨_, rfl⟩
  obtain ⟨W3, hW3⟩ : ∃ W3, W3 = w2.alloc (.cells #[.int .u8 0, .int .u8 0, .int .u8 0, .int .u8 0, .int .u8 0, .int .u8 0, .int .u8 0, .int .u8 0, .int .u8 0, .int .u8 0, .int .u8 0, .int .u8 0, .int .u8 0, .int .u8 0, .int .u8 0, .int .u8 0, .int .u8 0, .int .u8 0, .int .u8 0, .int .u8 0] 26) := ⟨_, rfl⟩
  obtain ⟨W4, hW4⟩ : ∃ W4, W4 = W3.alloc (.cells #[.int .u8 0, .int .u8 0, .int .u8 0, .int .u8 0, .int .u8 0, .int .u8 0, .int .u8 0, .int .u8 0, .int .u8 0, .int .u8 0, .int .u8 0, .int .u8 0, .int .u8 0, .int .u8 0, .int .u8 0, .int .u8 0, .int .u8 0, .int .u8 0, .int .u8 0, .int .u8 0, .int .u8 0, .int .u8 0, .int .u8 0, .int .u8 0, .int .u8 0, .int .u8 0, .int .u8 0, .int .u8 0, .int .u8 0, .int .u8 0, .int .u8 0, .int .u8 0] 31) := ⟨_, rfl⟩
  have hB3 : Below g1 w2 W3 := by rw [hW3, hg1]; exact below_alloc (Below.refl _ _) _
  have hz3 : W3.heap.size = g2 := by rw [hW3, size_alloc, hg2, hg1]
  have hB4 : Below g2 W3 W4 := by rw [hW4, ← hz3]; exact below_alloc (Below.refl _ _) _
  have HK1 := Lib.hid (show Blk W4 g1 26 .u8 (List.replicate 20 0) from (show Blk W3 g1 _ _ _ by rw [hW3, hg1]; exact Blk.new w2 26 .u8 (List.replicate 20 0)).below hB4 (by omega))
  have HK2 := Lib.hid (show Blk W4 g2 31 .u8 (List.replicate 32 0) by rw [hW4, ← hz3]; exact Blk.new W3 31 .u8 (List.replicate 32 0))
  have HB4 := Lib.hid (show Below w.heap.size w W4 ∧ w.heap.size ≤ g1 ∧ g1 < g2 from ⟨HB2.out.trans ((hB3.mono (by have := HB2.out.size; omega)).trans (hB4.mono (by have := HB2.out.size; omega))), by rw [hg1]; exact HB2.out.size, by omega⟩)
  have HW := Lib.hid (show g1 = w2.heap.size ∧ g2 = g1 + 1 ∧ W3 = w2.alloc _ ∧ W4 = W3.alloc _ from ⟨hg1, hg2, hW3, hW4⟩)
  clear hB3 hz3 hB4 hg1 hg2 hW3 hW4
  go_upto_region 2 with (first | (refine gate_ (.store 26 (.tmp 1) (.tmp 5)) rfl ?_; rw [← HW.out.1, ← HW.out.2.1, ← HW.out.2.2.1, ← HW.out.2.2.2]; refine store_blk2 (m := [169, 153, 62, 54, 71, 6, 129, 106, 186, 62, 37, 113, 120, 80, 194, 108, 156, 208, 216, 157]) rfl rfl rfl rfl rfl HK1.out rfl (by kernel_rfl) ?_; intro w5 hk5 hb5 hf5; have HK5 := Lib.hid hk5; have HB5 := Lib.hid (hb5 _ _ HB4.out.1 HB4.out.2.1); have HK6 := Lib.hid (hf5 _ _ _ _ (by have := HB4.out; omega) HK2.out); clear hk5 hb5 hf5) | (refine gate_ (.store 31 (.tmp 2) (.tmp 8)) rfl ?_; refine store_blk2 (m := [186, 120, 22, 191, 143, 1, 207, 234, 65, 65, 64, 222, 93, 174, 34, 35, 176, 3, 97, 163, 150, 23, 122, 156, 180, 16, 255, 97, 242, 0, 21, 173]) rfl rfl rfl rfl rfl HK6.out rfl (by kernel_rfl) ?_; intro w6 hk6 hb6 hf6; have HB6 := Lib.hid (hb6 _ _ HB5.out (by have := HB4.out; omega)); have HK7 := Lib.hid (hf6 _ _ _ _ (by have := HB4.out; omega) HK5.out); have HK8 := Lib.hid hk6; clear hk6 hb6 hf6))
  have x0 := HK7.out.cell 0 (by decide)
  have x1 := HK7.out.cell 1 (by decide)
  have x19 := HK7.out.cell 19 (by decide)
  have z0 := HK8.out.cell 0 (by decide)
  have z1 := HK8.out.cell 1 (by decide)
  have z31 := HK8.out.cell 31 (by decide)
  simp only [rd, Int.toNat_natCast, List.getD_cons_zero, List.getD_cons_succ] at x0 x1 x19 z0 z1 z31
  have HC0 := Lib.hid (show Rd (w6.alloc (.cells #[.int .u8 0] 5)) (some ⟨w6.heap.size, 0, none⟩) 1 [0] from C_const w6 5 [0] (0, 0) (by decide))
  go_wp2_with (go_at_call 18; refine (Base64_calls _ _ _ _ HC0.out (by unfold Bytes; decide) (Nat.le_refl 1) (by decide)).mono ?_; rintro e w7 ⟨rfl, hb7⟩; rw [strOf_b64_0]; have HB7 := Lib.hid (below_step (below_alloc HB6.out _) hb7); clear hb7)
  go_ret
  exact ⟨rfl, HB7.out⟩
end Go.Proofs.YtfhnchabifklnaaDoor
