/- The texts Sha256 in one. -/
import Derived.Test.YtcfbfmgckaehdaaDoorG07
namespace Go.Proofs.YtcfbfmgckaehdaaDoor
open Go.RowKit Go.Proofs.YtcfbfmgckaehdaaDoorW.PrintWords
def St8.l (s : St8) : List Int := [s.a, s.b, s.c, s.d, s.e, s.f, s.g, s.h]
def St8.ok (s : St8) : Prop := Ws s.l
end Go.Proofs.YtcfbfmgckaehdaaDoor
