/- The texts WsReadRef in one. -/
import Derived.Test.YtcfbfmgckaehdaaDoorG09
namespace Go.Proofs.YtcfbfmgckaehdaaDoor
open Go.RowKit Go.Proofs.YtcfbfmgckaehdaaDoorW.PrintWords
theorem Rd.lit2 {w : World} {ad : Addr} {n : Nat} {l : List Int} (h : Rd w (some ad) n l) (k : Nat) (hk : 0 < k) (hn : k < n) : w.cell? ⟨ad.block, ad.off + k, none⟩ = some (.int .u8 (rd l (k : Nat))) ∧ w.cell? (ad.add k) = some (.int .u8 (rd l (k : Nat))) := by
  obtain ⟨ad', e, hx⟩ := Rd.cells h (by omega)
  cases e
  have h1 := hx k hn
  refine ⟨?_, h1⟩
  unfold Addr.add at h1
  rwa [if_neg (by omega)] at h1
end Go.Proofs.YtcfbfmgckaehdaaDoor
