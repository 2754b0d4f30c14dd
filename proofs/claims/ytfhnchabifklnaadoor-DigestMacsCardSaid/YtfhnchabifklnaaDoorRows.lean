/-
  NARROWER THAN 'FOR EVERY INPUT', by the rows' own cells (each row's printed sentence says how): DigestShort: laid · DigestLong: laid · DigestBase: laid · DigestSpelt: laid · DigestSame: laid · DigestMacs: laid · DigestInner: laid · DigestKeys: laid.
  DERIVED. THE GIVEN ROWS OF THIS SEAT. 8 by the template 'for every input the law returns true; each argument reads behind the call as it read before'; 0 by the template 'total and deterministic' (their statements: YtfhnchabifklnaaDoorTotals.lean).
  GIVEN WITH THE SEED: the statements are not yours to turn. If you find one false, say at which input.
  Laid BY PROGRAM, IN A SANDBOX (cutbox-rows.mjs): the forced cells as the released guide's own fill.sh prints them over the translation 86a6d4d742d02696… (all of the seat's roots in one cut). By AI agents, Wed Nov 11 2026. No macro, syntax, notation, axiom, sorry.
-/
import Derived.Test.YtfhnchabifklnaaDoorChecked
import GoSem.Claim
import GoSem.ClaimJoined
import GoSem.ClaimMapViews
import Derived.JoinedTies
import Derived.KernelRfl
namespace Go.Proofs.YtfhnchabifklnaaDoor
/- THE CELL 'sum', in the pinned program and in every row, IS THE sha256 OF THE DUMP (.gsa) THAT YtfhnchabifklnaaDoorProg.lean LOADS. Nothing in Lean hashes anything: it is a label: what it is worth is what the hold of that sum in a sandbox is worth. -/
noncomputable def Tryd.pinned : Pinned := { name := "ytfhnchabifklnaadoor", sum := "86a6d4d742d026967396ff210c38e1cdab6c56efc440ff28c4a600dee9df05bb", checked := Tryd.checked }
namespace Rows
def none {H : Type} : Left H := { results := [], args := [] }

/- WHAT THE LISTED PACKAGE-LEVEL VARIABLES READ AS WHEN THE CALL BEGINS. Each datum BY PROGRAM (the guide's laid-datum.mjs) off the statement by which the dump's own 'gosem.cut.vars' lays the variable. In a bare row this is a premise. The card (YtfhnchabifklnaaDoorCards.lean) ties it to the program's text. -/
def laid_blotter_digest_rounds {H : Type} : DataW H := .agg [.lit (.int .u32 1116352408), .lit (.int .u32 1899447441), .lit (.int .u32 3049323471), .lit (.int .u32 3921009573), .lit (.int .u32 961987163), .lit (.int .u32 1508970993), .lit (.int .u32 2453635748), .lit (.int .u32 2870763221), .lit (.int .u32 3624381080), .lit (.int .u32 310598401), .lit (.int .u32 607225278), .lit (.int .u32 1426881987), .lit (.int .u32 1925078388), .lit (.int .u32 2162078206), .lit (.int .u32 2614888103), .lit (.int .u32 3248222580), .lit (.int .u32 3835390401), .lit (.int .u32 4022224774), .lit (.int .u32 264347078), .lit (.int .u32 604807628), .lit (.int .u32 770255983), .lit (.int .u32 1249150122), .lit (.int .u32 1555081692), .lit (.int .u32 1996064986), .lit (.int .u32 2554220882), .lit (.int .u32 2821834349), .lit (.int .u32 2952996808), .lit (.int .u32 3210313671), .lit (.int .u32 3336571891), .lit (.int .u32 3584528711), .lit (.int .u32 113926993), .lit (.int .u32 338241895), .lit (.int .u32 666307205), .lit (.int .u32 773529912), .lit (.int .u32 1294757372), .lit (.int .u32 1396182291), .lit (.int .u32 1695183700), .lit (.int .u32 1986661051), .lit (.int .u32 2177026350), .lit (.int .u32 2456956037), .lit (.int .u32 2730485921), .lit (.int .u32 2820302411), .lit (.int .u32 3259730800), .lit (.int .u32 3345764771), .lit (.int .u32 3516065817), .lit (.int .u32 3600352804), .lit (.int .u32 4094571909), .lit (.int .u32 275423344), .lit (.int .u32 430227734), .lit (.int .u32 506948616), .lit (.int .u32 659060556), .lit (.int .u32 883997877), .lit (.int .u32 958139571), .lit (.int .u32 1322822218), .lit (.int .u32 1537002063), .lit (.int .u32 1747873779), .lit (.int .u32 1955562222), .lit (.int .u32 2024104815), .lit (.int .u32 2227730452), .lit (.int .u32 2361852424), .lit (.int .u32 2428436474), .lit (.int .u32 2756734187), .lit (.int .u32 3204031479), .lit (.int .u32 3329325298)]

/-- 'blotterlaw07.DigestShort': WHATEVER THE INPUT: true; the input reads as it did. -/
def digestShortSpec : ChangeSpec := { name := "digestShort", fn := fun _ => fun
  | [d] => { results := [.lit (.bool true)], args := [d] }
  | _ => none }
def digestShortRow : OpenClaim := { program := "ytfhnchabifklnaadoor", sum := "86a6d4d742d026967396ff210c38e1cdab6c56efc440ff28c4a600dee9df05bb", func := "blotter/blotterlaw07.DigestShort", spec := "digestShort", unfollowed := true, recurses := true, named := ["blotter/digest.rounds"], apart := false, laid := [("blotter/digest.rounds", laid_blotter_digest_rounds)] }
def DigestShortSaid : Prop := digestShortRow.holds Tryd.pinned (OpenSpec.ofChange digestShortSpec)

/-- ITS FALSE NEIGHBOUR: 'it returns false'. Refute it at one input. -/
def digestShortWrong : ChangeSpec := { name := "digestShort", fn := fun _ => fun
  | [d] => { results := [.lit (.bool false)], args := [d] }
  | _ => none }
def DigestShortWrongFalsely : Prop := digestShortRow.holds Tryd.pinned (OpenSpec.ofChange digestShortWrong)

/-- 'blotterlaw07.DigestLong': WHATEVER THE INPUT: true; the input reads as it did. -/
def digestLongSpec : ChangeSpec := { name := "digestLong", fn := fun _ => fun
  | [d] => { results := [.lit (.bool true)], args := [d] }
  | _ => none }
def digestLongRow : OpenClaim := { program := "ytfhnchabifklnaadoor", sum := "86a6d4d742d026967396ff210c38e1cdab6c56efc440ff28c4a600dee9df05bb", func := "blotter/blotterlaw07.DigestLong", spec := "digestLong", unfollowed := true, recurses := true, named := ["blotter/digest.rounds"], apart := false, laid := [("blotter/digest.rounds", laid_blotter_digest_rounds)] }
def DigestLongSaid : Prop := digestLongRow.holds Tryd.pinned (OpenSpec.ofChange digestLongSpec)

/-- ITS FALSE NEIGHBOUR: 'it returns false'. Refute it at one input. -/
def digestLongWrong : ChangeSpec := { name := "digestLong", fn := fun _ => fun
  | [d] => { results := [.lit (.bool false)], args := [d] }
  | _ => none }
def DigestLongWrongFalsely : Prop := digestLongRow.holds Tryd.pinned (OpenSpec.ofChange digestLongWrong)

/-- 'blotterlaw07.DigestBase': WHATEVER THE INPUT: true; the input reads as it did. -/
def digestBaseSpec : ChangeSpec := { name := "digestBase", fn := fun _ => fun
  | [d] => { results := [.lit (.bool true)], args := [d] }
  | _ => none }
def digestBaseRow : OpenClaim := { program := "ytfhnchabifklnaadoor", sum := "86a6d4d742d026967396ff210c38e1cdab6c56efc440ff28c4a600dee9df05bb", func := "blotter/blotterlaw07.DigestBase", spec := "digestBase", unfollowed := true, recurses := true, named := ["blotter/digest.rounds"], apart := false, laid := [("blotter/digest.rounds", laid_blotter_digest_rounds)] }
def DigestBaseSaid : Prop := digestBaseRow.holds Tryd.pinned (OpenSpec.ofChange digestBaseSpec)

/-- ITS FALSE NEIGHBOUR: 'it returns false'. Refute it at one input. -/
def digestBaseWrong : ChangeSpec := { name := "digestBase", fn := fun _ => fun
  | [d] => { results := [.lit (.bool false)], args := [d] }
  | _ => none }
def DigestBaseWrongFalsely : Prop := digestBaseRow.holds Tryd.pinned (OpenSpec.ofChange digestBaseWrong)

/-- 'blotterlaw07.DigestSpelt': WHATEVER THE INPUT: true; the input reads as it did. -/
def digestSpeltSpec : ChangeSpec := { name := "digestSpelt", fn := fun _ => fun
  | [d] => { results := [.lit (.bool true)], args := [d] }
  | _ => none }
def digestSpeltRow : OpenClaim := { program := "ytfhnchabifklnaadoor", sum := "86a6d4d742d026967396ff210c38e1cdab6c56efc440ff28c4a600dee9df05bb", func := "blotter/blotterlaw07.DigestSpelt", spec := "digestSpelt", unfollowed := true, recurses := true, named := ["blotter/digest.rounds"], apart := false, laid := [("blotter/digest.rounds", laid_blotter_digest_rounds)] }
def DigestSpeltSaid : Prop := digestSpeltRow.holds Tryd.pinned (OpenSpec.ofChange digestSpeltSpec)

/-- ITS FALSE NEIGHBOUR: 'it returns false'. Refute it at one input. -/
def digestSpeltWrong : ChangeSpec := { name := "digestSpelt", fn := fun _ => fun
  | [d] => { results := [.lit (.bool false)], args := [d] }
  | _ => none }
def DigestSpeltWrongFalsely : Prop := digestSpeltRow.holds Tryd.pinned (OpenSpec.ofChange digestSpeltWrong)

/-- 'blotterlaw07.DigestSame': WHATEVER THE INPUT: true; the input reads as it did. -/
def digestSameSpec : ChangeSpec := { name := "digestSame", fn := fun _ => fun
  | [d1, d2, d3] => { results := [.lit (.bool true)], args := [d1, d2, d3] }
  | _ => none }
def digestSameRow : OpenClaim := { program := "ytfhnchabifklnaadoor", sum := "86a6d4d742d026967396ff210c38e1cdab6c56efc440ff28c4a600dee9df05bb", func := "blotter/blotterlaw07.DigestSame", spec := "digestSame", unfollowed := true, recurses := true, named := ["blotter/digest.rounds"], apart := false, laid := [("blotter/digest.rounds", laid_blotter_digest_rounds)] }
def DigestSameSaid : Prop := digestSameRow.holds Tryd.pinned (OpenSpec.ofChange digestSameSpec)

/-- ITS FALSE NEIGHBOUR: 'it returns false'. Refute it at one input. -/
def digestSameWrong : ChangeSpec := { name := "digestSame", fn := fun _ => fun
  | [d1, d2, d3] => { results := [.lit (.bool false)], args := [d1, d2, d3] }
  | _ => none }
def DigestSameWrongFalsely : Prop := digestSameRow.holds Tryd.pinned (OpenSpec.ofChange digestSameWrong)

/-- 'blotterlaw07.DigestMacs': WHATEVER THE INPUT: true; the input reads as it did. -/
def digestMacsSpec : ChangeSpec := { name := "digestMacs", fn := fun _ => fun
  | [d1, d2] => { results := [.lit (.bool true)], args := [d1, d2] }
  | _ => none }
def digestMacsRow : OpenClaim := { program := "ytfhnchabifklnaadoor", sum := "86a6d4d742d026967396ff210c38e1cdab6c56efc440ff28c4a600dee9df05bb", func := "blotter/blotterlaw07.DigestMacs", spec := "digestMacs", unfollowed := true, recurses := true, named := ["blotter/digest.rounds"], apart := false, laid := [("blotter/digest.rounds", laid_blotter_digest_rounds)] }
def DigestMacsSaid : Prop := digestMacsRow.holds Tryd.pinned (OpenSpec.ofChange digestMacsSpec)

/-- ITS FALSE NEIGHBOUR: 'it returns false'. Refute it at one input. -/
def digestMacsWrong : ChangeSpec := { name := "digestMacs", fn := fun _ => fun
  | [d1, d2] => { results := [.lit (.bool false)], args := [d1, d2] }
  | _ => none }
def DigestMacsWrongFalsely : Prop := digestMacsRow.holds Tryd.pinned (OpenSpec.ofChange digestMacsWrong)

/-- 'blotterlaw07.DigestInner': WHATEVER THE INPUT: true; the input reads as it did. -/
def digestInnerSpec : ChangeSpec := { name := "digestInner", fn := fun _ => fun
  | [d1, d2] => { results := [.lit (.bool true)], args := [d1, d2] }
  | _ => none }
def digestInnerRow : OpenClaim := { program := "ytfhnchabifklnaadoor", sum := "86a6d4d742d026967396ff210c38e1cdab6c56efc440ff28c4a600dee9df05bb", func := "blotter/blotterlaw07.DigestInner", spec := "digestInner", unfollowed := true, recurses := true, named := ["blotter/digest.rounds"], apart := false, laid := [("blotter/digest.rounds", laid_blotter_digest_rounds)] }
def DigestInnerSaid : Prop := digestInnerRow.holds Tryd.pinned (OpenSpec.ofChange digestInnerSpec)

/-- ITS FALSE NEIGHBOUR: 'it returns false'. Refute it at one input. -/
def digestInnerWrong : ChangeSpec := { name := "digestInner", fn := fun _ => fun
  | [d1, d2] => { results := [.lit (.bool false)], args := [d1, d2] }
  | _ => none }
def DigestInnerWrongFalsely : Prop := digestInnerRow.holds Tryd.pinned (OpenSpec.ofChange digestInnerWrong)

/-- 'blotterlaw07.DigestKeys': WHATEVER THE INPUT: true; the input reads as it did. -/
def digestKeysSpec : ChangeSpec := { name := "digestKeys", fn := fun _ => fun
  | [d1, d2, d3] => { results := [.lit (.bool true)], args := [d1, d2, d3] }
  | _ => none }
def digestKeysRow : OpenClaim := { program := "ytfhnchabifklnaadoor", sum := "86a6d4d742d026967396ff210c38e1cdab6c56efc440ff28c4a600dee9df05bb", func := "blotter/blotterlaw07.DigestKeys", spec := "digestKeys", unfollowed := true, recurses := true, named := ["blotter/digest.rounds"], apart := false, laid := [("blotter/digest.rounds", laid_blotter_digest_rounds)] }
def DigestKeysSaid : Prop := digestKeysRow.holds Tryd.pinned (OpenSpec.ofChange digestKeysSpec)

/-- ITS FALSE NEIGHBOUR: 'it returns false'. Refute it at one input. -/
def digestKeysWrong : ChangeSpec := { name := "digestKeys", fn := fun _ => fun
  | [d1, d2, d3] => { results := [.lit (.bool false)], args := [d1, d2, d3] }
  | _ => none }
def DigestKeysWrongFalsely : Prop := digestKeysRow.holds Tryd.pinned (OpenSpec.ofChange digestKeysWrong)

/- THE SECOND FORM. 'bulk': how many values and letters a reading holds, each counted each time it is reached (what is shared counts as often as it is met; a slice's spare places count too). A statement '..UptoSaid' is the law's where the arguments, and the package variables that the reading takes, are together of bulk at most 1048576: NARROWER than '..Said'. Prove '..Said' where nothing that the law and all that it calls make is longer than what came in: it says more and counts as full. Else prove '..UptoSaid'. A law counts once. -/
mutual
def uptoBulk {H : Type} : DataW H → Nat
  | .lit (.string bytes) => bytes.length + 1
  | .lit _ => 1
  | .nil => 1
  | .ptr d => uptoBulk d + 1
  | .slice elems spare => uptoBulkAll elems + uptoBulkAll spare + 1
  | .agg parts => uptoBulkAll parts + 1
  | .iface _ d => uptoBulk d + 1
  | .map entries => uptoBulkEntries entries + 1
  | .held _ => 1
def uptoBulkAll {H : Type} : List (DataW H) → Nat
  | [] => 0
  | d :: r => uptoBulk d + uptoBulkAll r
def uptoBulkEntries {H : Type} : List (Lit × DataW H) → Nat
  | [] => 0
  | x :: r => uptoBulkEntry x + uptoBulkEntries r
def uptoBulkEntry {H : Type} : Lit × DataW H → Nat
  | (.string bytes, d) => bytes.length + uptoBulk d + 1
  | (_, d) => uptoBulk d + 1
 end
def uptoSmall : (H : Type) → List (DataW H) → Bool := fun _ ds => decide (uptoBulkAll ds ≤ 1048576)
def OpenSpec.upto (s : _root_.Go.ChangeSpec) : _root_.Go.OpenSpec := { _root_.Go.OpenSpec.ofChange s with cond := some uptoSmall }

/-- 'blotterlaw07.DigestShort', WHERE WHAT IT READS IS OF BULK AT MOST 1048576: true; the input reads as it did. -/
def digestShortUptoRow : OpenClaim := { program := "ytfhnchabifklnaadoor", sum := "86a6d4d742d026967396ff210c38e1cdab6c56efc440ff28c4a600dee9df05bb", func := "blotter/blotterlaw07.DigestShort", spec := "digestShort", unfollowed := true, recurses := true, named := ["blotter/digest.rounds"], apart := false, laid := [("blotter/digest.rounds", laid_blotter_digest_rounds)], narrowed := true }
def DigestShortUptoSaid : Prop := digestShortUptoRow.holds Tryd.pinned (OpenSpec.upto digestShortSpec)

/-- 'blotterlaw07.DigestLong', WHERE WHAT IT READS IS OF BULK AT MOST 1048576: true; the input reads as it did. -/
def digestLongUptoRow : OpenClaim := { program := "ytfhnchabifklnaadoor", sum := "86a6d4d742d026967396ff210c38e1cdab6c56efc440ff28c4a600dee9df05bb", func := "blotter/blotterlaw07.DigestLong", spec := "digestLong", unfollowed := true, recurses := true, named := ["blotter/digest.rounds"], apart := false, laid := [("blotter/digest.rounds", laid_blotter_digest_rounds)], narrowed := true }
def DigestLongUptoSaid : Prop := digestLongUptoRow.holds Tryd.pinned (OpenSpec.upto digestLongSpec)

/-- 'blotterlaw07.DigestBase', WHERE WHAT IT READS IS OF BULK AT MOST 1048576: true; the input reads as it did. -/
def digestBaseUptoRow : OpenClaim := { program := "ytfhnchabifklnaadoor", sum := "86a6d4d742d026967396ff210c38e1cdab6c56efc440ff28c4a600dee9df05bb", func := "blotter/blotterlaw07.DigestBase", spec := "digestBase", unfollowed := true, recurses := true, named := ["blotter/digest.rounds"], apart := false, laid := [("blotter/digest.rounds", laid_blotter_digest_rounds)], narrowed := true }
def DigestBaseUptoSaid : Prop := digestBaseUptoRow.holds Tryd.pinned (OpenSpec.upto digestBaseSpec)

/-- 'blotterlaw07.DigestSpelt', WHERE WHAT IT READS IS OF BULK AT MOST 1048576: true; the input reads as it did. -/
def digestSpeltUptoRow : OpenClaim := { program := "ytfhnchabifklnaadoor", sum := "86a6d4d742d026967396ff210c38e1cdab6c56efc440ff28c4a600dee9df05bb", func := "blotter/blotterlaw07.DigestSpelt", spec := "digestSpelt", unfollowed := true, recurses := true, named := ["blotter/digest.rounds"], apart := false, laid := [("blotter/digest.rounds", laid_blotter_digest_rounds)], narrowed := true }
def DigestSpeltUptoSaid : Prop := digestSpeltUptoRow.holds Tryd.pinned (OpenSpec.upto digestSpeltSpec)

/-- 'blotterlaw07.DigestSame', WHERE WHAT IT READS IS OF BULK AT MOST 1048576: true; the input reads as it did. -/
def digestSameUptoRow : OpenClaim := { program := "ytfhnchabifklnaadoor", sum := "86a6d4d742d026967396ff210c38e1cdab6c56efc440ff28c4a600dee9df05bb", func := "blotter/blotterlaw07.DigestSame", spec := "digestSame", unfollowed := true, recurses := true, named := ["blotter/digest.rounds"], apart := false, laid := [("blotter/digest.rounds", laid_blotter_digest_rounds)], narrowed := true }
def DigestSameUptoSaid : Prop := digestSameUptoRow.holds Tryd.pinned (OpenSpec.upto digestSameSpec)

/-- 'blotterlaw07.DigestMacs', WHERE WHAT IT READS IS OF BULK AT MOST 1048576: true; the input reads as it did. -/
def digestMacsUptoRow : OpenClaim := { program := "ytfhnchabifklnaadoor", sum := "86a6d4d742d026967396ff210c38e1cdab6c56efc440ff28c4a600dee9df05bb", func := "blotter/blotterlaw07.DigestMacs", spec := "digestMacs", unfollowed := true, recurses := true, named := ["blotter/digest.rounds"], apart := false, laid := [("blotter/digest.rounds", laid_blotter_digest_rounds)], narrowed := true }
def DigestMacsUptoSaid : Prop := digestMacsUptoRow.holds Tryd.pinned (OpenSpec.upto digestMacsSpec)

/-- 'blotterlaw07.DigestInner', WHERE WHAT IT READS IS OF BULK AT MOST 1048576: true; the input reads as it did. -/
def digestInnerUptoRow : OpenClaim := { program := "ytfhnchabifklnaadoor", sum := "86a6d4d742d026967396ff210c38e1cdab6c56efc440ff28c4a600dee9df05bb", func := "blotter/blotterlaw07.DigestInner", spec := "digestInner", unfollowed := true, recurses := true, named := ["blotter/digest.rounds"], apart := false, laid := [("blotter/digest.rounds", laid_blotter_digest_rounds)], narrowed := true }
def DigestInnerUptoSaid : Prop := digestInnerUptoRow.holds Tryd.pinned (OpenSpec.upto digestInnerSpec)

/-- 'blotterlaw07.DigestKeys', WHERE WHAT IT READS IS OF BULK AT MOST 1048576: true; the input reads as it did. -/
def digestKeysUptoRow : OpenClaim := { program := "ytfhnchabifklnaadoor", sum := "86a6d4d742d026967396ff210c38e1cdab6c56efc440ff28c4a600dee9df05bb", func := "blotter/blotterlaw07.DigestKeys", spec := "digestKeys", unfollowed := true, recurses := true, named := ["blotter/digest.rounds"], apart := false, laid := [("blotter/digest.rounds", laid_blotter_digest_rounds)], narrowed := true }
def DigestKeysUptoSaid : Prop := digestKeysUptoRow.holds Tryd.pinned (OpenSpec.upto digestKeysSpec)

end Rows
end Go.Proofs.YtfhnchabifklnaaDoor
