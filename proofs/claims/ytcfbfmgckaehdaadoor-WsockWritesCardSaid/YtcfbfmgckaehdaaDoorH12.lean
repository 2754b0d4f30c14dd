/- The texts WsReadRef in one. -/
import Derived.Test.YtcfbfmgckaehdaaDoorH08
namespace Go.Proofs.YtcfbfmgckaehdaaDoor
open Go.RowKit Go.Proofs.YtcfbfmgckaehdaaDoorW.PrintWords
theorem tmod_nn {x : Int} (h : 0 ≤ x) (k : Int) : x.tmod k = x % k := Int.tmod_eq_emod_of_nonneg h
theorem tdiv_nn {x : Int} (h : 0 ≤ x) (k : Int) : x.tdiv k = x / k := Int.tdiv_eq_ediv_of_nonneg h
end Go.Proofs.YtcfbfmgckaehdaaDoor
