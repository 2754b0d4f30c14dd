/-
  NARROWER THAN 'FOR EVERY INPUT', by the rows' own cells (each row's printed sentence says how): AuthtokBack: laid · AuthtokOne: laid · AuthtokTimes: laid · AuthtokSecrets: laid · AuthtokMakes: laid · AuthtokReads: laid · AuthtokBearer: laid.
  DERIVED. THE GIVEN ROWS OF THIS SEAT. 7 by the template 'for every input the law returns true; each argument reads behind the call as it read before'; 0 by the template 'total and deterministic' (their statements: YtcgenmogedndjaaDoorTotals.lean).
  GIVEN WITH THE SEED: the statements are not yours to turn. If you find one false, say at which input.
  Laid BY PROGRAM, IN A SANDBOX (cutbox-rows.mjs): the forced cells as the released guide's own fill.sh prints them over the translation 5e8205ec447068d1… (all of the seat's roots in one cut). By AI agents, Wed Nov 11 2026. No macro, syntax, notation, axiom, sorry.
-/
import Derived.Test.YtcgenmogedndjaaDoorChecked
import GoSem.Claim
import GoSem.ClaimJoined
import GoSem.ClaimMapViews
import Derived.JoinedTies
import Derived.KernelRfl
namespace Go.Proofs.YtcgenmogedndjaaDoor
/- THE CELL 'sum', in the pinned program and in every row, IS THE sha256 OF THE DUMP (.gsa) THAT YtcgenmogedndjaaDoorProg.lean LOADS. Nothing in Lean hashes anything: it is a label: what it is worth is what the hold of that sum in a sandbox is worth. -/
noncomputable def Tryd.pinned : Pinned := { name := "ytcgenmogedndjaadoor", sum := "5e8205ec447068d12dcaa17fe45f3274778220ba6b7b33e7d2ac178db9b7299a", checked := Tryd.checked }
namespace Rows
def none {H : Type} : Left H := { results := [], args := [] }

/- WHAT THE LISTED PACKAGE-LEVEL VARIABLES READ AS WHEN THE CALL BEGINS. Each datum BY PROGRAM (the guide's laid-datum.mjs) off the statement by which the dump's own 'gosem.cut.vars' lays the variable. In a bare row this is a premise. The card (YtcgenmogedndjaaDoorCards.lean) ties it to the program's text. -/
def laid_blotter_digest_rounds {H : Type} : DataW H := .agg [.lit (.int .u32 1116352408), .lit (.int .u32 1899447441), .lit (.int .u32 3049323471), .lit (.int .u32 3921009573), .lit (.int .u32 961987163), .lit (.int .u32 1508970993), .lit (.int .u32 2453635748), .lit (.int .u32 2870763221), .lit (.int .u32 3624381080), .lit (.int .u32 310598401), .lit (.int .u32 607225278), .lit (.int .u32 1426881987), .lit (.int .u32 1925078388), .lit (.int .u32 2162078206), .lit (.int .u32 2614888103), .lit (.int .u32 3248222580), .lit (.int .u32 3835390401), .lit (.int .u32 4022224774), .lit (.int .u32 264347078), .lit (.int .u32 604807628), .lit (.int .u32 770255983), .lit (.int .u32 1249150122), .lit (.int .u32 1555081692), .lit (.int .u32 1996064986), .lit (.int .u32 2554220882), .lit (.int .u32 2821834349), .lit (.int .u32 2952996808), .lit (.int .u32 3210313671), .lit (.int .u32 3336571891), .lit (.int .u32 3584528711), .lit (.int .u32 113926993), .lit (.int .u32 338241895), .lit (.int .u32 666307205), .lit (.int .u32 773529912), .lit (.int .u32 1294757372), .lit (.int .u32 1396182291), .lit (.int .u32 1695183700), .lit (.int .u32 1986661051), .lit (.int .u32 2177026350), .lit (.int .u32 2456956037), .lit (.int .u32 2730485921), .lit (.int .u32 2820302411), .lit (.int .u32 3259730800), .lit (.int .u32 3345764771), .lit (.int .u32 3516065817), .lit (.int .u32 3600352804), .lit (.int .u32 4094571909), .lit (.int .u32 275423344), .lit (.int .u32 430227734), .lit (.int .u32 506948616), .lit (.int .u32 659060556), .lit (.int .u32 883997877), .lit (.int .u32 958139571), .lit (.int .u32 1322822218), .lit (.int .u32 1537002063), .lit (.int .u32 1747873779), .lit (.int .u32 1955562222), .lit (.int .u32 2024104815), .lit (.int .u32 2227730452), .lit (.int .u32 2361852424), .lit (.int .u32 2428436474), .lit (.int .u32 2756734187), .lit (.int .u32 3204031479), .lit (.int .u32 3329325298)]

/-- 'blotterlaw10.AuthtokBack': WHATEVER THE INPUT: true; the input reads as it did. -/
def authtokBackSpec : ChangeSpec := { name := "authtokBack", fn := fun _ => fun
  | [d1, d2, d3] => { results := [.lit (.bool true)], args := [d1, d2, d3] }
  | _ => none }
def authtokBackRow : OpenClaim := { program := "ytcgenmogedndjaadoor", sum := "5e8205ec447068d12dcaa17fe45f3274778220ba6b7b33e7d2ac178db9b7299a", func := "blotter/blotterlaw10.AuthtokBack", spec := "authtokBack", inPlace := ["internal/bytealg.IndexByteString", "internal/bytealg.IndexString"], unfollowed := true, recurses := true, named := ["blotter/digest.rounds", "internal/bytealg.MaxLen"], apart := false, laid := [("blotter/digest.rounds", laid_blotter_digest_rounds)] }
def AuthtokBackSaid : Prop := authtokBackRow.holds Tryd.pinned (OpenSpec.ofChange authtokBackSpec)

/-- ITS FALSE NEIGHBOUR: 'it returns false'. Refute it at one input. -/
def authtokBackWrong : ChangeSpec := { name := "authtokBack", fn := fun _ => fun
  | [d1, d2, d3] => { results := [.lit (.bool false)], args := [d1, d2, d3] }
  | _ => none }
def AuthtokBackWrongFalsely : Prop := authtokBackRow.holds Tryd.pinned (OpenSpec.ofChange authtokBackWrong)

/-- 'blotterlaw10.AuthtokOne': WHATEVER THE INPUT: true; the input reads as it did. -/
def authtokOneSpec : ChangeSpec := { name := "authtokOne", fn := fun _ => fun
  | [d1, d2, d3, d4, d5] => { results := [.lit (.bool true)], args := [d1, d2, d3, d4, d5] }
  | _ => none }
def authtokOneRow : OpenClaim := { program := "ytcgenmogedndjaadoor", sum := "5e8205ec447068d12dcaa17fe45f3274778220ba6b7b33e7d2ac178db9b7299a", func := "blotter/blotterlaw10.AuthtokOne", spec := "authtokOne", inPlace := ["internal/bytealg.IndexByteString", "internal/bytealg.IndexString"], unfollowed := true, recurses := true, named := ["blotter/digest.rounds", "internal/bytealg.MaxLen"], apart := false, laid := [("blotter/digest.rounds", laid_blotter_digest_rounds)] }
def AuthtokOneSaid : Prop := authtokOneRow.holds Tryd.pinned (OpenSpec.ofChange authtokOneSpec)

/-- ITS FALSE NEIGHBOUR: 'it returns false'. Refute it at one input. -/
def authtokOneWrong : ChangeSpec := { name := "authtokOne", fn := fun _ => fun
  | [d1, d2, d3, d4, d5] => { results := [.lit (.bool false)], args := [d1, d2, d3, d4, d5] }
  | _ => none }
def AuthtokOneWrongFalsely : Prop := authtokOneRow.holds Tryd.pinned (OpenSpec.ofChange authtokOneWrong)

/-- 'blotterlaw10.AuthtokTimes': WHATEVER THE INPUT: true; the input reads as it did. -/
def authtokTimesSpec : ChangeSpec := { name := "authtokTimes", fn := fun _ => fun
  | [d1, d2, d3, d4] => { results := [.lit (.bool true)], args := [d1, d2, d3, d4] }
  | _ => none }
def authtokTimesRow : OpenClaim := { program := "ytcgenmogedndjaadoor", sum := "5e8205ec447068d12dcaa17fe45f3274778220ba6b7b33e7d2ac178db9b7299a", func := "blotter/blotterlaw10.AuthtokTimes", spec := "authtokTimes", inPlace := ["internal/bytealg.IndexByteString", "internal/bytealg.IndexString"], unfollowed := true, recurses := true, named := ["blotter/digest.rounds", "internal/bytealg.MaxLen"], apart := false, laid := [("blotter/digest.rounds", laid_blotter_digest_rounds)] }
def AuthtokTimesSaid : Prop := authtokTimesRow.holds Tryd.pinned (OpenSpec.ofChange authtokTimesSpec)

/-- ITS FALSE NEIGHBOUR: 'it returns false'. Refute it at one input. -/
def authtokTimesWrong : ChangeSpec := { name := "authtokTimes", fn := fun _ => fun
  | [d1, d2, d3, d4] => { results := [.lit (.bool false)], args := [d1, d2, d3, d4] }
  | _ => none }
def AuthtokTimesWrongFalsely : Prop := authtokTimesRow.holds Tryd.pinned (OpenSpec.ofChange authtokTimesWrong)

/-- 'blotterlaw10.AuthtokSecrets': WHATEVER THE INPUT: true; the input reads as it did. -/
def authtokSecretsSpec : ChangeSpec := { name := "authtokSecrets", fn := fun _ => fun
  | [d1, d2, d3, d4] => { results := [.lit (.bool true)], args := [d1, d2, d3, d4] }
  | _ => none }
def authtokSecretsRow : OpenClaim := { program := "ytcgenmogedndjaadoor", sum := "5e8205ec447068d12dcaa17fe45f3274778220ba6b7b33e7d2ac178db9b7299a", func := "blotter/blotterlaw10.AuthtokSecrets", spec := "authtokSecrets", inPlace := ["internal/bytealg.IndexByteString", "internal/bytealg.IndexString"], unfollowed := true, recurses := true, named := ["blotter/digest.rounds", "internal/bytealg.MaxLen"], apart := false, laid := [("blotter/digest.rounds", laid_blotter_digest_rounds)] }
def AuthtokSecretsSaid : Prop := authtokSecretsRow.holds Tryd.pinned (OpenSpec.ofChange authtokSecretsSpec)

/-- ITS FALSE NEIGHBOUR: 'it returns false'. Refute it at one input. -/
def authtokSecretsWrong : ChangeSpec := { name := "authtokSecrets", fn := fun _ => fun
  | [d1, d2, d3, d4] => { results := [.lit (.bool false)], args := [d1, d2, d3, d4] }
  | _ => none }
def AuthtokSecretsWrongFalsely : Prop := authtokSecretsRow.holds Tryd.pinned (OpenSpec.ofChange authtokSecretsWrong)

/-- 'blotterlaw10.AuthtokMakes': WHATEVER THE INPUT: true; the input reads as it did. -/
def authtokMakesSpec : ChangeSpec := { name := "authtokMakes", fn := fun _ => fun
  | [d1, d2, d3] => { results := [.lit (.bool true)], args := [d1, d2, d3] }
  | _ => none }
def authtokMakesRow : OpenClaim := { program := "ytcgenmogedndjaadoor", sum := "5e8205ec447068d12dcaa17fe45f3274778220ba6b7b33e7d2ac178db9b7299a", func := "blotter/blotterlaw10.AuthtokMakes", spec := "authtokMakes", inPlace := ["internal/bytealg.IndexByteString", "internal/bytealg.IndexString"], unfollowed := true, recurses := true, named := ["blotter/digest.rounds", "internal/bytealg.MaxLen"], apart := false, laid := [("blotter/digest.rounds", laid_blotter_digest_rounds)] }
def AuthtokMakesSaid : Prop := authtokMakesRow.holds Tryd.pinned (OpenSpec.ofChange authtokMakesSpec)

/-- ITS FALSE NEIGHBOUR: 'it returns false'. Refute it at one input. -/
def authtokMakesWrong : ChangeSpec := { name := "authtokMakes", fn := fun _ => fun
  | [d1, d2, d3] => { results := [.lit (.bool false)], args := [d1, d2, d3] }
  | _ => none }
def AuthtokMakesWrongFalsely : Prop := authtokMakesRow.holds Tryd.pinned (OpenSpec.ofChange authtokMakesWrong)

/-- 'blotterlaw10.AuthtokReads': WHATEVER THE INPUT: true; the input reads as it did. -/
def authtokReadsSpec : ChangeSpec := { name := "authtokReads", fn := fun _ => fun
  | [d1, d2, d3] => { results := [.lit (.bool true)], args := [d1, d2, d3] }
  | _ => none }
def authtokReadsRow : OpenClaim := { program := "ytcgenmogedndjaadoor", sum := "5e8205ec447068d12dcaa17fe45f3274778220ba6b7b33e7d2ac178db9b7299a", func := "blotter/blotterlaw10.AuthtokReads", spec := "authtokReads", inPlace := ["internal/bytealg.IndexByteString", "internal/bytealg.IndexString"], unfollowed := true, recurses := true, named := ["blotter/digest.rounds", "internal/bytealg.MaxLen"], apart := false, laid := [("blotter/digest.rounds", laid_blotter_digest_rounds)] }
def AuthtokReadsSaid : Prop := authtokReadsRow.holds Tryd.pinned (OpenSpec.ofChange authtokReadsSpec)

/-- ITS FALSE NEIGHBOUR: 'it returns false'. Refute it at one input. -/
def authtokReadsWrong : ChangeSpec := { name := "authtokReads", fn := fun _ => fun
  | [d1, d2, d3] => { results := [.lit (.bool false)], args := [d1, d2, d3] }
  | _ => none }
def AuthtokReadsWrongFalsely : Prop := authtokReadsRow.holds Tryd.pinned (OpenSpec.ofChange authtokReadsWrong)

/-- 'blotterlaw10.AuthtokBearer': WHATEVER THE INPUT: true; the input reads as it did. -/
def authtokBearerSpec : ChangeSpec := { name := "authtokBearer", fn := fun _ => fun
  | [d] => { results := [.lit (.bool true)], args := [d] }
  | _ => none }
def authtokBearerRow : OpenClaim := { program := "ytcgenmogedndjaadoor", sum := "5e8205ec447068d12dcaa17fe45f3274778220ba6b7b33e7d2ac178db9b7299a", func := "blotter/blotterlaw10.AuthtokBearer", spec := "authtokBearer", inPlace := ["internal/bytealg.IndexByteString", "internal/bytealg.IndexString"], unfollowed := true, recurses := true, named := ["blotter/digest.rounds", "internal/bytealg.MaxLen"], apart := false, laid := [("blotter/digest.rounds", laid_blotter_digest_rounds)] }
def AuthtokBearerSaid : Prop := authtokBearerRow.holds Tryd.pinned (OpenSpec.ofChange authtokBearerSpec)

/-- ITS FALSE NEIGHBOUR: 'it returns false'. Refute it at one input. -/
def authtokBearerWrong : ChangeSpec := { name := "authtokBearer", fn := fun _ => fun
  | [d] => { results := [.lit (.bool false)], args := [d] }
  | _ => none }
def AuthtokBearerWrongFalsely : Prop := authtokBearerRow.holds Tryd.pinned (OpenSpec.ofChange authtokBearerWrong)

/- THE SECOND FORM. 'bulk': how many values and letters a reading holds, each counted each time it is reached (what is shared counts as often as it is met; a slice's spare places count too). A statement '..UptoSaid' is the law's where the arguments, and the package variables that the reading takes, are together of bulk at most 1048576: NARROWER than '..Said'. Prove '..Said' where nothing that the law and all that it calls make is longer than what came in: it says more and counts as full. Else prove '..UptoSaid'. A law counts once. -/
mutual
def uptoBulk {H : Type} : DataW H → Nat
  | .lit (.string bytes) => bytes.length + 1
  | .lit _ => 1
  | .nil => 1
  | .ptr d => uptoBulk d + 1
  | .slice elems spare => uptoBulkAll elems + uptoBulkAll spare + 1
  | .agg parts => uptoBulkAll parts + 1
  | .iface _ d => uptoBulk d + 1
  | .map entries => uptoBulkEntries entries + 1
  | .held _ => 1
def uptoBulkAll {H : Type} : List (DataW H) → Nat
  | [] => 0
  | d :: r => uptoBulk d + uptoBulkAll r
def uptoBulkEntries {H : Type} : List (Lit × DataW H) → Nat
  | [] => 0
  | x :: r => uptoBulkEntry x + uptoBulkEntries r
def uptoBulkEntry {H : Type} : Lit × DataW H → Nat
  | (.string bytes, d) => bytes.length + uptoBulk d + 1
  | (_, d) => uptoBulk d + 1
 end
def uptoSmall : (H : Type) → List (DataW H) → Bool := fun _ ds => decide (uptoBulkAll ds ≤ 1048576)
def OpenSpec.upto (s : _root_.Go.ChangeSpec) : _root_.Go.OpenSpec := { _root_.Go.OpenSpec.ofChange s with cond := some uptoSmall }

/-- 'blotterlaw10.AuthtokBack', WHERE WHAT IT READS IS OF BULK AT MOST 1048576: true; the input reads as it did. -/
def authtokBackUptoRow : OpenClaim := { program := "ytcgenmogedndjaadoor", sum := "5e8205ec447068d12dcaa17fe45f3274778220ba6b7b33e7d2ac178db9b7299a", func := "blotter/blotterlaw10.AuthtokBack", spec := "authtokBack", inPlace := ["internal/bytealg.IndexByteString", "internal/bytealg.IndexString"], unfollowed := true, recurses := true, named := ["blotter/digest.rounds", "internal/bytealg.MaxLen"], apart := false, laid := [("blotter/digest.rounds", laid_blotter_digest_rounds)], narrowed := true }
def AuthtokBackUptoSaid : Prop := authtokBackUptoRow.holds Tryd.pinned (OpenSpec.upto authtokBackSpec)

/-- 'blotterlaw10.AuthtokOne', WHERE WHAT IT READS IS OF BULK AT MOST 1048576: true; the input reads as it did. -/
def authtokOneUptoRow : OpenClaim := { program := "ytcgenmogedndjaadoor", sum := "5e8205ec447068d12dcaa17fe45f3274778220ba6b7b33e7d2ac178db9b7299a", func := "blotter/blotterlaw10.AuthtokOne", spec := "authtokOne", inPlace := ["internal/bytealg.IndexByteString", "internal/bytealg.IndexString"], unfollowed := true, recurses := true, named := ["blotter/digest.rounds", "internal/bytealg.MaxLen"], apart := false, laid := [("blotter/digest.rounds", laid_blotter_digest_rounds)], narrowed := true }
def AuthtokOneUptoSaid : Prop := authtokOneUptoRow.holds Tryd.pinned (OpenSpec.upto authtokOneSpec)

/-- 'blotterlaw10.AuthtokTimes', WHERE WHAT IT READS IS OF BULK AT MOST 1048576: true; the input reads as it did. -/
def authtokTimesUptoRow : OpenClaim := { program := "ytcgenmogedndjaadoor", sum := "5e8205ec447068d12dcaa17fe45f3274778220ba6b7b33e7d2ac178db9b7299a", func := "blotter/blotterlaw10.AuthtokTimes", spec := "authtokTimes", inPlace := ["internal/bytealg.IndexByteString", "internal/bytealg.IndexString"], unfollowed := true, recurses := true, named := ["blotter/digest.rounds", "internal/bytealg.MaxLen"], apart := false, laid := [("blotter/digest.rounds", laid_blotter_digest_rounds)], narrowed := true }
def AuthtokTimesUptoSaid : Prop := authtokTimesUptoRow.holds Tryd.pinned (OpenSpec.upto authtokTimesSpec)

/-- 'blotterlaw10.AuthtokSecrets', WHERE WHAT IT READS IS OF BULK AT MOST 1048576: true; the input reads as it did. -/
def authtokSecretsUptoRow : OpenClaim := { program := "ytcgenmogedndjaadoor", sum := "5e8205ec447068d12dcaa17fe45f3274778220ba6b7b33e7d2ac178db9b7299a", func := "blotter/blotterlaw10.AuthtokSecrets", spec := "authtokSecrets", inPlace := ["internal/bytealg.IndexByteString", "internal/bytealg.IndexString"], unfollowed := true, recurses := true, named := ["blotter/digest.rounds", "internal/bytealg.MaxLen"], apart := false, laid := [("blotter/digest.rounds", laid_blotter_digest_rounds)], narrowed := true }
def AuthtokSecretsUptoSaid : Prop := authtokSecretsUptoRow.holds Tryd.pinned (OpenSpec.upto authtokSecretsSpec)

/-- 'blotterlaw10.AuthtokMakes', WHERE WHAT IT READS IS OF BULK AT MOST 1048576: true; the input reads as it did. -/
def authtokMakesUptoRow : OpenClaim := { program := "ytcgenmogedndjaadoor", sum := "5e8205ec447068d12dcaa17fe45f3274778220ba6b7b33e7d2ac178db9b7299a", func := "blotter/blotterlaw10.AuthtokMakes", spec := "authtokMakes", inPlace := ["internal/bytealg.IndexByteString", "internal/bytealg.IndexString"], unfollowed := true, recurses := true, named := ["blotter/digest.rounds", "internal/bytealg.MaxLen"], apart := false, laid := [("blotter/digest.rounds", laid_blotter_digest_rounds)], narrowed := true }
def AuthtokMakesUptoSaid : Prop := authtokMakesUptoRow.holds Tryd.pinned (OpenSpec.upto authtokMakesSpec)

/-- 'blotterlaw10.AuthtokReads', WHERE WHAT IT READS IS OF BULK AT MOST 1048576: true; the input reads as it did. -/
def authtokReadsUptoRow : OpenClaim := { program := "ytcgenmogedndjaadoor", sum := "5e8205ec447068d12dcaa17fe45f3274778220ba6b7b33e7d2ac178db9b7299a", func := "blotter/blotterlaw10.AuthtokReads", spec := "authtokReads", inPlace := ["internal/bytealg.IndexByteString", "internal/bytealg.IndexString"], unfollowed := true, recurses := true, named := ["blotter/digest.rounds", "internal/bytealg.MaxLen"], apart := false, laid := [("blotter/digest.rounds", laid_blotter_digest_rounds)], narrowed := true }
def AuthtokReadsUptoSaid : Prop := authtokReadsUptoRow.holds Tryd.pinned (OpenSpec.upto authtokReadsSpec)

/-- 'blotterlaw10.AuthtokBearer', WHERE WHAT IT READS IS OF BULK AT MOST 1048576: true; the input reads as it did. -/
def authtokBearerUptoRow : OpenClaim := { program := "ytcgenmogedndjaadoor", sum := "5e8205ec447068d12dcaa17fe45f3274778220ba6b7b33e7d2ac178db9b7299a", func := "blotter/blotterlaw10.AuthtokBearer", spec := "authtokBearer", inPlace := ["internal/bytealg.IndexByteString", "internal/bytealg.IndexString"], unfollowed := true, recurses := true, named := ["blotter/digest.rounds", "internal/bytealg.MaxLen"], apart := false, laid := [("blotter/digest.rounds", laid_blotter_digest_rounds)], narrowed := true }
def AuthtokBearerUptoSaid : Prop := authtokBearerUptoRow.holds Tryd.pinned (OpenSpec.upto authtokBearerSpec)

end Rows
end Go.Proofs.YtcgenmogedndjaaDoor
