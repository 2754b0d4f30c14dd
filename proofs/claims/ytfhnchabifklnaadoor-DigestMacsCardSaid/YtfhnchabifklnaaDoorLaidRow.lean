/- What the row's condition on the laid variable gives the walks; and that the door's own heap meets it. -/
import Derived.Test.YtfhnchabifklnaaDoorShaMem
import Derived.Test.YtfhnchabifklnaaDoorRows
import Derived.ProofKit
import Derived.LaidMore
import Derived.OpenShut
import Derived.Stop.Joined
namespace Go.Proofs.YtfhnchabifklnaaDoor
open Go.RowKit Go.Proofs.YtfhnchabifklnaaDoorW.PrintWords
theorem gRounds : Tryd.prog.globalNamed "blotter/digest.rounds" = some 0 := by kernel_rfl
theorem tRounds : (Tryd.prog.globals[0]?).map (·.type) = some 51 := by kernel_rfl
theorem cellsU32 : Tryd.prog.cellsOf 39 = 1 := by kernel_rfl
theorem laid_consts : (Rows.laid_blotter_digest_rounds : DataW Unit) = .agg (consts.map fun n => .lit (.int .u32 n)) := rfl
theorem of_laid {W : World} (h : laidMetH Tryd.prog [("blotter/digest.rounds", Rows.laid_blotter_digest_rounds)] W) : Laid W := by
  rw [MakeChecks.laidMetH_plain _ _ _ (by kernel_rfl)] at h
  obtain ⟨ps, ⟨g0, t0, cs0, f0, p0, q0, hg0, ht0, hv0, hd0, _, _⟩, _, _⟩ := h
  obtain rfl := Option.some.inj (gRounds.symm.trans hg0)
  obtain rfl := Option.some.inj (tRounds.symm.trans ht0)
  obtain ⟨xs, m1, rfl, hx, hlen, hn, hel⟩ := DataW.trod_array Tryd.underlying51 hd0
  rw [laid_consts] at hx
  have hx1 : xs.map (·.1) = consts.map fun n => DataW.lit (.int .u32 n) := by
    have := congrArg Prod.fst hx
    simpa using this.symm
  have key : ∀ t : Nat, t < 64 → W.cell? ⟨0, t, none⟩ = some (.int .u32 (rd consts (t : Int))) := by
    intro t ht
    have h0 := hel t ht
    rw [cellsU32, Nat.mul_one, List.getElem?_eq_getElem (by rw [hn]; exact ht)] at h0
    obtain ⟨n, e1, e2, _⟩ := DataW.trod_int Tryd.underlying39 h0
    have hct : t < consts.length := ht
    have h2 : (xs.map (·.1))[t]? = some (DataW.lit (.int .u32 n)) := by
      rw [List.getElem?_map, List.getElem?_eq_getElem (by rw [hn]; exact ht), Option.map_some, e2]
    rw [hx1, List.getElem?_map, List.getElem?_eq_getElem hct, Option.map_some] at h2
    have hnn : consts[t] = n := by
      have := Option.some.inj h2
      injection this with this
      injection this
    rw [World.var?_cell gRounds hv0 t, rd_get consts t hct, hnn]
    have h3 : ((cs0.toList.drop t).take 1)[0]? = some (.int .u32 n) := by rw [e1]; rfl
    rw [List.getElem?_take_of_lt (by decide), List.getElem?_drop, Nat.add_zero] at h3
    simpa using h3
  refine ⟨?_, key⟩
  have h0 := key 0 (by decide)
  unfold World.cell? at h0
  rcases Nat.eq_zero_or_pos W.heap.size with hz | hp
  · rw [Array.getElem?_eq_none (by omega)] at h0
    cases h0
  · exact hp
/-- The door's own heap meets the condition. -/
theorem door_met (os : Os) (args : Array Value) : laidMetH Tryd.prog [("blotter/digest.rounds", Rows.laid_blotter_digest_rounds)] ((World.doorLaid Tryd.prog 400 os).forCall (fun _ _ => 0) ⟨#[], args, []⟩).memory :=
  laidMetH_of_parts3 (fuel := 8) (laidMet_of_run' 8 (by kernel_rfl) (by kernel_rfl)) (by kernel_rfl) (by kernel_rfl)
end Go.Proofs.YtfhnchabifklnaaDoor
