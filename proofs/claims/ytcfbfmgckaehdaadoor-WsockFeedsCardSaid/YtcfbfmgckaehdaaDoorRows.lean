/-
  NARROWER THAN 'FOR EVERY INPUT', by the rows' own cells (each row's printed sentence says how): WsockReads: laid · WsockMasks: laid · WsockBack: laid · WsockWrites: laid · WsockParts: laid · WsockNobody: laid · WsockFeeds: laid · WsockBounded: laid · WsockPieces: laid · WsockCloses: laid.
  DERIVED. THE GIVEN ROWS OF THIS SEAT. 10 by the template 'for every input the law returns true; each argument reads behind the call as it read before'; 0 by the template 'total and deterministic' (their statements: YtcfbfmgckaehdaaDoorTotals.lean).
  GIVEN WITH THE SEED: the statements are not yours to turn. If you find one false, say at which input.
  Laid BY PROGRAM, IN A SANDBOX (cutbox-rows.mjs): the forced cells as the released guide's own fill.sh prints them over the translation 3d89804992346dae… (all of the seat's roots in one cut). By AI agents, Wed Nov 11 2026. No macro, syntax, notation, axiom, sorry.
-/
import Derived.Test.YtcfbfmgckaehdaaDoorChecked
import GoSem.PinnedTables
import GoSem.Claim
import GoSem.ClaimJoined
import GoSem.ClaimMapViews
import Derived.JoinedTies
import Derived.KernelRfl
namespace Go.Proofs.YtcfbfmgckaehdaaDoor
/- THE CELL 'sum', in the pinned program and in every row, IS THE sha256 OF THE DUMP (.gsa) THAT YtcfbfmgckaehdaaDoorProg.lean LOADS. Nothing in Lean hashes anything: it is a label: what it is worth is what the hold of that sum in a sandbox is worth. -/
noncomputable def Tryd.pinned : Pinned := { name := "ytcfbfmgckaehdaadoor", sum := "3d89804992346dae4b285016241bb8540a115e9bc7630bd962a44efa2a0cda61", checked := Tryd.checked }
namespace Rows
def none {H : Type} : Left H := { results := [], args := [] }

/- WHAT THE LISTED PACKAGE-LEVEL VARIABLES READ AS WHEN THE CALL BEGINS. Each datum BY PROGRAM (the guide's laid-datum.mjs) off the statement by which the dump's own 'gosem.cut.vars' lays the variable. In a bare row this is a premise. The card (YtcfbfmgckaehdaaDoorCards.lean) ties it to the program's text. -/
def laid_unicode_utf8_acceptRanges {H : Type} : DataW H := .agg [.agg [.lit (.int .u8 128), .lit (.int .u8 191)], .agg [.lit (.int .u8 160), .lit (.int .u8 191)], .agg [.lit (.int .u8 128), .lit (.int .u8 159)], .agg [.lit (.int .u8 144), .lit (.int .u8 191)], .agg [.lit (.int .u8 128), .lit (.int .u8 143)], .agg [.lit (.int .u8 0), .lit (.int .u8 0)], .agg [.lit (.int .u8 0), .lit (.int .u8 0)], .agg [.lit (.int .u8 0), .lit (.int .u8 0)], .agg [.lit (.int .u8 0), .lit (.int .u8 0)], .agg [.lit (.int .u8 0), .lit (.int .u8 0)], .agg [.lit (.int .u8 0), .lit (.int .u8 0)], .agg [.lit (.int .u8 0), .lit (.int .u8 0)], .agg [.lit (.int .u8 0), .lit (.int .u8 0)], .agg [.lit (.int .u8 0), .lit (.int .u8 0)], .agg [.lit (.int .u8 0), .lit (.int .u8 0)], .agg [.lit (.int .u8 0), .lit (.int .u8 0)]]
/-- One of Go's own tables, pinned by name: the form's constant. -/
def laid_unicode_utf8_first : DataW Unit := Go.Pinned.utf8First

/-- 'blotterlaw09.WsockReads': WHATEVER THE INPUT: true; the input reads as it did. -/
def wsockReadsSpec : ChangeSpec := { name := "wsockReads", fn := fun _ => fun
  | [d1, d2] => { results := [.lit (.bool true)], args := [d1, d2] }
  | _ => none }
def wsockReadsRow : OpenClaim := { program := "ytcfbfmgckaehdaadoor", sum := "3d89804992346dae4b285016241bb8540a115e9bc7630bd962a44efa2a0cda61", func := "blotter/blotterlaw09.WsockReads", spec := "wsockReads", inPlace := ["internal/bytealg.IndexByteString", "internal/bytealg.CountString", "internal/bytealg.IndexString", "internal/abi.NoEscape", "internal/bytealg.MakeNoZero"], unfollowed := true, recurses := true, named := ["internal/bytealg.MaxLen", "unicode/utf8.first", "unicode/utf8.acceptRanges"], apart := false, laid := [("unicode/utf8.acceptRanges", laid_unicode_utf8_acceptRanges), ("unicode/utf8.first", laid_unicode_utf8_first)] }
def WsockReadsSaid : Prop := wsockReadsRow.holds Tryd.pinned (OpenSpec.ofChange wsockReadsSpec)

/-- ITS FALSE NEIGHBOUR: 'it returns false'. Refute it at one input. -/
def wsockReadsWrong : ChangeSpec := { name := "wsockReads", fn := fun _ => fun
  | [d1, d2] => { results := [.lit (.bool false)], args := [d1, d2] }
  | _ => none }
def WsockReadsWrongFalsely : Prop := wsockReadsRow.holds Tryd.pinned (OpenSpec.ofChange wsockReadsWrong)

/-- 'blotterlaw09.WsockMasks': WHATEVER THE INPUT: true; the input reads as it did. -/
def wsockMasksSpec : ChangeSpec := { name := "wsockMasks", fn := fun _ => fun
  | [d1, d2, d3] => { results := [.lit (.bool true)], args := [d1, d2, d3] }
  | _ => none }
def wsockMasksRow : OpenClaim := { program := "ytcfbfmgckaehdaadoor", sum := "3d89804992346dae4b285016241bb8540a115e9bc7630bd962a44efa2a0cda61", func := "blotter/blotterlaw09.WsockMasks", spec := "wsockMasks", inPlace := ["internal/bytealg.IndexByteString", "internal/bytealg.CountString", "internal/bytealg.IndexString", "internal/abi.NoEscape", "internal/bytealg.MakeNoZero"], unfollowed := true, recurses := true, named := ["internal/bytealg.MaxLen", "unicode/utf8.first", "unicode/utf8.acceptRanges"], apart := false, laid := [("unicode/utf8.acceptRanges", laid_unicode_utf8_acceptRanges), ("unicode/utf8.first", laid_unicode_utf8_first)] }
def WsockMasksSaid : Prop := wsockMasksRow.holds Tryd.pinned (OpenSpec.ofChange wsockMasksSpec)

/-- ITS FALSE NEIGHBOUR: 'it returns false'. Refute it at one input. -/
def wsockMasksWrong : ChangeSpec := { name := "wsockMasks", fn := fun _ => fun
  | [d1, d2, d3] => { results := [.lit (.bool false)], args := [d1, d2, d3] }
  | _ => none }
def WsockMasksWrongFalsely : Prop := wsockMasksRow.holds Tryd.pinned (OpenSpec.ofChange wsockMasksWrong)

/-- 'blotterlaw09.WsockBack': WHATEVER THE INPUT: true; the input reads as it did. -/
def wsockBackSpec : ChangeSpec := { name := "wsockBack", fn := fun _ => fun
  | [d1, d2, d3, d4] => { results := [.lit (.bool true)], args := [d1, d2, d3, d4] }
  | _ => none }
def wsockBackRow : OpenClaim := { program := "ytcfbfmgckaehdaadoor", sum := "3d89804992346dae4b285016241bb8540a115e9bc7630bd962a44efa2a0cda61", func := "blotter/blotterlaw09.WsockBack", spec := "wsockBack", inPlace := ["internal/bytealg.IndexByteString", "internal/bytealg.CountString", "internal/bytealg.IndexString", "internal/abi.NoEscape", "internal/bytealg.MakeNoZero"], unfollowed := true, recurses := true, named := ["internal/bytealg.MaxLen", "unicode/utf8.first", "unicode/utf8.acceptRanges"], apart := false, laid := [("unicode/utf8.acceptRanges", laid_unicode_utf8_acceptRanges), ("unicode/utf8.first", laid_unicode_utf8_first)] }
def WsockBackSaid : Prop := wsockBackRow.holds Tryd.pinned (OpenSpec.ofChange wsockBackSpec)

/-- ITS FALSE NEIGHBOUR: 'it returns false'. Refute it at one input. -/
def wsockBackWrong : ChangeSpec := { name := "wsockBack", fn := fun _ => fun
  | [d1, d2, d3, d4] => { results := [.lit (.bool false)], args := [d1, d2, d3, d4] }
  | _ => none }
def WsockBackWrongFalsely : Prop := wsockBackRow.holds Tryd.pinned (OpenSpec.ofChange wsockBackWrong)

/-- 'blotterlaw09.WsockWrites': WHATEVER THE INPUT: true; the input reads as it did. -/
def wsockWritesSpec : ChangeSpec := { name := "wsockWrites", fn := fun _ => fun
  | [d1, d2, d3, d4] => { results := [.lit (.bool true)], args := [d1, d2, d3, d4] }
  | _ => none }
def wsockWritesRow : OpenClaim := { program := "ytcfbfmgckaehdaadoor", sum := "3d89804992346dae4b285016241bb8540a115e9bc7630bd962a44efa2a0cda61", func := "blotter/blotterlaw09.WsockWrites", spec := "wsockWrites", inPlace := ["internal/bytealg.IndexByteString", "internal/bytealg.CountString", "internal/bytealg.IndexString", "internal/abi.NoEscape", "internal/bytealg.MakeNoZero"], unfollowed := true, recurses := true, named := ["internal/bytealg.MaxLen", "unicode/utf8.first", "unicode/utf8.acceptRanges"], apart := false, laid := [("unicode/utf8.acceptRanges", laid_unicode_utf8_acceptRanges), ("unicode/utf8.first", laid_unicode_utf8_first)] }
def WsockWritesSaid : Prop := wsockWritesRow.holds Tryd.pinned (OpenSpec.ofChange wsockWritesSpec)

/-- ITS FALSE NEIGHBOUR: 'it returns false'. Refute it at one input. -/
def wsockWritesWrong : ChangeSpec := { name := "wsockWrites", fn := fun _ => fun
  | [d1, d2, d3, d4] => { results := [.lit (.bool false)], args := [d1, d2, d3, d4] }
  | _ => none }
def WsockWritesWrongFalsely : Prop := wsockWritesRow.holds Tryd.pinned (OpenSpec.ofChange wsockWritesWrong)

/-- 'blotterlaw09.WsockParts': WHATEVER THE INPUT: true; the input reads as it did. -/
def wsockPartsSpec : ChangeSpec := { name := "wsockParts", fn := fun _ => fun
  | [d1, d2, d3, d4] => { results := [.lit (.bool true)], args := [d1, d2, d3, d4] }
  | _ => none }
def wsockPartsRow : OpenClaim := { program := "ytcfbfmgckaehdaadoor", sum := "3d89804992346dae4b285016241bb8540a115e9bc7630bd962a44efa2a0cda61", func := "blotter/blotterlaw09.WsockParts", spec := "wsockParts", inPlace := ["internal/bytealg.IndexByteString", "internal/bytealg.CountString", "internal/bytealg.IndexString", "internal/abi.NoEscape", "internal/bytealg.MakeNoZero"], unfollowed := true, recurses := true, named := ["internal/bytealg.MaxLen", "unicode/utf8.first", "unicode/utf8.acceptRanges"], apart := false, laid := [("unicode/utf8.acceptRanges", laid_unicode_utf8_acceptRanges), ("unicode/utf8.first", laid_unicode_utf8_first)] }
def WsockPartsSaid : Prop := wsockPartsRow.holds Tryd.pinned (OpenSpec.ofChange wsockPartsSpec)

/-- ITS FALSE NEIGHBOUR: 'it returns false'. Refute it at one input. -/
def wsockPartsWrong : ChangeSpec := { name := "wsockParts", fn := fun _ => fun
  | [d1, d2, d3, d4] => { results := [.lit (.bool false)], args := [d1, d2, d3, d4] }
  | _ => none }
def WsockPartsWrongFalsely : Prop := wsockPartsRow.holds Tryd.pinned (OpenSpec.ofChange wsockPartsWrong)

/-- 'blotterlaw09.WsockNobody': WHATEVER THE INPUT: true; the input reads as it did. -/
def wsockNobodySpec : ChangeSpec := { name := "wsockNobody", fn := fun _ => fun
  | [d] => { results := [.lit (.bool true)], args := [d] }
  | _ => none }
def wsockNobodyRow : OpenClaim := { program := "ytcfbfmgckaehdaadoor", sum := "3d89804992346dae4b285016241bb8540a115e9bc7630bd962a44efa2a0cda61", func := "blotter/blotterlaw09.WsockNobody", spec := "wsockNobody", inPlace := ["internal/bytealg.IndexByteString", "internal/bytealg.CountString", "internal/bytealg.IndexString", "internal/abi.NoEscape", "internal/bytealg.MakeNoZero"], unfollowed := true, recurses := true, named := ["internal/bytealg.MaxLen", "unicode/utf8.first", "unicode/utf8.acceptRanges"], apart := false, laid := [("unicode/utf8.acceptRanges", laid_unicode_utf8_acceptRanges), ("unicode/utf8.first", laid_unicode_utf8_first)] }
def WsockNobodySaid : Prop := wsockNobodyRow.holds Tryd.pinned (OpenSpec.ofChange wsockNobodySpec)

/-- ITS FALSE NEIGHBOUR: 'it returns false'. Refute it at one input. -/
def wsockNobodyWrong : ChangeSpec := { name := "wsockNobody", fn := fun _ => fun
  | [d] => { results := [.lit (.bool false)], args := [d] }
  | _ => none }
def WsockNobodyWrongFalsely : Prop := wsockNobodyRow.holds Tryd.pinned (OpenSpec.ofChange wsockNobodyWrong)

/-- 'blotterlaw09.WsockFeeds': WHATEVER THE INPUT: true; the input reads as it did. -/
def wsockFeedsSpec : ChangeSpec := { name := "wsockFeeds", fn := fun _ => fun
  | [d1, d2] => { results := [.lit (.bool true)], args := [d1, d2] }
  | _ => none }
def wsockFeedsRow : OpenClaim := { program := "ytcfbfmgckaehdaadoor", sum := "3d89804992346dae4b285016241bb8540a115e9bc7630bd962a44efa2a0cda61", func := "blotter/blotterlaw09.WsockFeeds", spec := "wsockFeeds", inPlace := ["internal/bytealg.IndexByteString", "internal/bytealg.CountString", "internal/bytealg.IndexString", "internal/abi.NoEscape", "internal/bytealg.MakeNoZero"], unfollowed := true, recurses := true, named := ["internal/bytealg.MaxLen", "unicode/utf8.first", "unicode/utf8.acceptRanges"], apart := false, laid := [("unicode/utf8.acceptRanges", laid_unicode_utf8_acceptRanges), ("unicode/utf8.first", laid_unicode_utf8_first)] }
def WsockFeedsSaid : Prop := wsockFeedsRow.holds Tryd.pinned (OpenSpec.ofChange wsockFeedsSpec)

/-- ITS FALSE NEIGHBOUR: 'it returns false'. Refute it at one input. -/
def wsockFeedsWrong : ChangeSpec := { name := "wsockFeeds", fn := fun _ => fun
  | [d1, d2] => { results := [.lit (.bool false)], args := [d1, d2] }
  | _ => none }
def WsockFeedsWrongFalsely : Prop := wsockFeedsRow.holds Tryd.pinned (OpenSpec.ofChange wsockFeedsWrong)

/-- 'blotterlaw09.WsockBounded': WHATEVER THE INPUT: true; the input reads as it did. -/
def wsockBoundedSpec : ChangeSpec := { name := "wsockBounded", fn := fun _ => fun
  | [d1, d2] => { results := [.lit (.bool true)], args := [d1, d2] }
  | _ => none }
def wsockBoundedRow : OpenClaim := { program := "ytcfbfmgckaehdaadoor", sum := "3d89804992346dae4b285016241bb8540a115e9bc7630bd962a44efa2a0cda61", func := "blotter/blotterlaw09.WsockBounded", spec := "wsockBounded", inPlace := ["internal/bytealg.IndexByteString", "internal/bytealg.CountString", "internal/bytealg.IndexString", "internal/abi.NoEscape", "internal/bytealg.MakeNoZero"], unfollowed := true, recurses := true, named := ["internal/bytealg.MaxLen", "unicode/utf8.first", "unicode/utf8.acceptRanges"], apart := false, laid := [("unicode/utf8.acceptRanges", laid_unicode_utf8_acceptRanges), ("unicode/utf8.first", laid_unicode_utf8_first)] }
def WsockBoundedSaid : Prop := wsockBoundedRow.holds Tryd.pinned (OpenSpec.ofChange wsockBoundedSpec)

/-- ITS FALSE NEIGHBOUR: 'it returns false'. Refute it at one input. -/
def wsockBoundedWrong : ChangeSpec := { name := "wsockBounded", fn := fun _ => fun
  | [d1, d2] => { results := [.lit (.bool false)], args := [d1, d2] }
  | _ => none }
def WsockBoundedWrongFalsely : Prop := wsockBoundedRow.holds Tryd.pinned (OpenSpec.ofChange wsockBoundedWrong)

/-- 'blotterlaw09.WsockPieces': WHATEVER THE INPUT: true; the input reads as it did. -/
def wsockPiecesSpec : ChangeSpec := { name := "wsockPieces", fn := fun _ => fun
  | [d1, d2, d3] => { results := [.lit (.bool true)], args := [d1, d2, d3] }
  | _ => none }
def wsockPiecesRow : OpenClaim := { program := "ytcfbfmgckaehdaadoor", sum := "3d89804992346dae4b285016241bb8540a115e9bc7630bd962a44efa2a0cda61", func := "blotter/blotterlaw09.WsockPieces", spec := "wsockPieces", inPlace := ["internal/bytealg.IndexByteString", "internal/bytealg.CountString", "internal/bytealg.IndexString", "internal/abi.NoEscape", "internal/bytealg.MakeNoZero"], unfollowed := true, recurses := true, named := ["internal/bytealg.MaxLen", "unicode/utf8.first", "unicode/utf8.acceptRanges"], apart := false, laid := [("unicode/utf8.acceptRanges", laid_unicode_utf8_acceptRanges), ("unicode/utf8.first", laid_unicode_utf8_first)] }
def WsockPiecesSaid : Prop := wsockPiecesRow.holds Tryd.pinned (OpenSpec.ofChange wsockPiecesSpec)

/-- ITS FALSE NEIGHBOUR: 'it returns false'. Refute it at one input. -/
def wsockPiecesWrong : ChangeSpec := { name := "wsockPieces", fn := fun _ => fun
  | [d1, d2, d3] => { results := [.lit (.bool false)], args := [d1, d2, d3] }
  | _ => none }
def WsockPiecesWrongFalsely : Prop := wsockPiecesRow.holds Tryd.pinned (OpenSpec.ofChange wsockPiecesWrong)

/-- 'blotterlaw09.WsockCloses': WHATEVER THE INPUT: true; the input reads as it did. -/
def wsockClosesSpec : ChangeSpec := { name := "wsockCloses", fn := fun _ => fun
  | [d1, d2, d3, d4] => { results := [.lit (.bool true)], args := [d1, d2, d3, d4] }
  | _ => none }
def wsockClosesRow : OpenClaim := { program := "ytcfbfmgckaehdaadoor", sum := "3d89804992346dae4b285016241bb8540a115e9bc7630bd962a44efa2a0cda61", func := "blotter/blotterlaw09.WsockCloses", spec := "wsockCloses", inPlace := ["internal/bytealg.IndexByteString", "internal/bytealg.CountString", "internal/bytealg.IndexString", "internal/abi.NoEscape", "internal/bytealg.MakeNoZero"], unfollowed := true, recurses := true, named := ["internal/bytealg.MaxLen", "unicode/utf8.first", "unicode/utf8.acceptRanges"], apart := false, laid := [("unicode/utf8.acceptRanges", laid_unicode_utf8_acceptRanges), ("unicode/utf8.first", laid_unicode_utf8_first)] }
def WsockClosesSaid : Prop := wsockClosesRow.holds Tryd.pinned (OpenSpec.ofChange wsockClosesSpec)

/-- ITS FALSE NEIGHBOUR: 'it returns false'. Refute it at one input. -/
def wsockClosesWrong : ChangeSpec := { name := "wsockCloses", fn := fun _ => fun
  | [d1, d2, d3, d4] => { results := [.lit (.bool false)], args := [d1, d2, d3, d4] }
  | _ => none }
def WsockClosesWrongFalsely : Prop := wsockClosesRow.holds Tryd.pinned (OpenSpec.ofChange wsockClosesWrong)

/- THE SECOND FORM. 'bulk': how many values and letters a reading holds, each counted each time it is reached (what is shared counts as often as it is met; a slice's spare places count too). A statement '..UptoSaid' is the law's where the arguments, and the package variables that the reading takes, are together of bulk at most 1048576: NARROWER than '..Said'. Prove '..Said' where nothing that the law and all that it calls make is longer than what came in: it says more and counts as full. Else prove '..UptoSaid'. A law counts once. -/
mutual
def uptoBulk {H : Type} : DataW H → Nat
  | .lit (.string bytes) => bytes.length + 1
  | .lit _ => 1
  | .nil => 1
  | .ptr d => uptoBulk d + 1
  | .slice elems spare => uptoBulkAll elems + uptoBulkAll spare + 1
  | .agg parts => uptoBulkAll parts + 1
  | .iface _ d => uptoBulk d + 1
  | .map entries => uptoBulkEntries entries + 1
  | .held _ => 1
def uptoBulkAll {H : Type} : List (DataW H) → Nat
  | [] => 0
  | d :: r => uptoBulk d + uptoBulkAll r
def uptoBulkEntries {H : Type} : List (Lit × DataW H) → Nat
  | [] => 0
  | x :: r => uptoBulkEntry x + uptoBulkEntries r
def uptoBulkEntry {H : Type} : Lit × DataW H → Nat
  | (.string bytes, d) => bytes.length + uptoBulk d + 1
  | (_, d) => uptoBulk d + 1
 end
def uptoSmall : (H : Type) → List (DataW H) → Bool := fun _ ds => decide (uptoBulkAll ds ≤ 1048576)
def OpenSpec.upto (s : _root_.Go.ChangeSpec) : _root_.Go.OpenSpec := { _root_.Go.OpenSpec.ofChange s with cond := some uptoSmall }

/-- 'blotterlaw09.WsockReads', WHERE WHAT IT READS IS OF BULK AT MOST 1048576: true; the input reads as it did. -/
def wsockReadsUptoRow : OpenClaim := { program := "ytcfbfmgckaehdaadoor", sum := "3d89804992346dae4b285016241bb8540a115e9bc7630bd962a44efa2a0cda61", func := "blotter/blotterlaw09.WsockReads", spec := "wsockReads", inPlace := ["internal/bytealg.IndexByteString", "internal/bytealg.CountString", "internal/bytealg.IndexString", "internal/abi.NoEscape", "internal/bytealg.MakeNoZero"], unfollowed := true, recurses := true, named := ["internal/bytealg.MaxLen", "unicode/utf8.first", "unicode/utf8.acceptRanges"], apart := false, laid := [("unicode/utf8.acceptRanges", laid_unicode_utf8_acceptRanges), ("unicode/utf8.first", laid_unicode_utf8_first)], narrowed := true }
def WsockReadsUptoSaid : Prop := wsockReadsUptoRow.holds Tryd.pinned (OpenSpec.upto wsockReadsSpec)

/-- 'blotterlaw09.WsockMasks', WHERE WHAT IT READS IS OF BULK AT MOST 1048576: true; the input reads as it did. -/
def wsockMasksUptoRow : OpenClaim := { program := "ytcfbfmgckaehdaadoor", sum := "3d89804992346dae4b285016241bb8540a115e9bc7630bd962a44efa2a0cda61", func := "blotter/blotterlaw09.WsockMasks", spec := "wsockMasks", inPlace := ["internal/bytealg.IndexByteString", "internal/bytealg.CountString", "internal/bytealg.IndexString", "internal/abi.NoEscape", "internal/bytealg.MakeNoZero"], unfollowed := true, recurses := true, named := ["internal/bytealg.MaxLen", "unicode/utf8.first", "unicode/utf8.acceptRanges"], apart := false, laid := [("unicode/utf8.acceptRanges", laid_unicode_utf8_acceptRanges), ("unicode/utf8.first", laid_unicode_utf8_first)], narrowed := true }
def WsockMasksUptoSaid : Prop := wsockMasksUptoRow.holds Tryd.pinned (OpenSpec.upto wsockMasksSpec)

/-- 'blotterlaw09.WsockBack', WHERE WHAT IT READS IS OF BULK AT MOST 1048576: true; the input reads as it did. -/
def wsockBackUptoRow : OpenClaim := { program := "ytcfbfmgckaehdaadoor", sum := "3d89804992346dae4b285016241bb8540a115e9bc7630bd962a44efa2a0cda61", func := "blotter/blotterlaw09.WsockBack", spec := "wsockBack", inPlace := ["internal/bytealg.IndexByteString", "internal/bytealg.CountString", "internal/bytealg.IndexString", "internal/abi.NoEscape", "internal/bytealg.MakeNoZero"], unfollowed := true, recurses := true, named := ["internal/bytealg.MaxLen", "unicode/utf8.first", "unicode/utf8.acceptRanges"], apart := false, laid := [("unicode/utf8.acceptRanges", laid_unicode_utf8_acceptRanges), ("unicode/utf8.first", laid_unicode_utf8_first)], narrowed := true }
def WsockBackUptoSaid : Prop := wsockBackUptoRow.holds Tryd.pinned (OpenSpec.upto wsockBackSpec)

/-- 'blotterlaw09.WsockWrites', WHERE WHAT IT READS IS OF BULK AT MOST 1048576: true; the input reads as it did. -/
def wsockWritesUptoRow : OpenClaim := { program := "ytcfbfmgckaehdaadoor", sum := "3d89804992346dae4b285016241bb8540a115e9bc7630bd962a44efa2a0cda61", func := "blotter/blotterlaw09.WsockWrites", spec := "wsockWrites", inPlace := ["internal/bytealg.IndexByteString", "internal/bytealg.CountString", "internal/bytealg.IndexString", "internal/abi.NoEscape", "internal/bytealg.MakeNoZero"], unfollowed := true, recurses := true, named := ["internal/bytealg.MaxLen", "unicode/utf8.first", "unicode/utf8.acceptRanges"], apart := false, laid := [("unicode/utf8.acceptRanges", laid_unicode_utf8_acceptRanges), ("unicode/utf8.first", laid_unicode_utf8_first)], narrowed := true }
def WsockWritesUptoSaid : Prop := wsockWritesUptoRow.holds Tryd.pinned (OpenSpec.upto wsockWritesSpec)

/-- 'blotterlaw09.WsockParts', WHERE WHAT IT READS IS OF BULK AT MOST 1048576: true; the input reads as it did. -/
def wsockPartsUptoRow : OpenClaim := { program := "ytcfbfmgckaehdaadoor", sum := "3d89804992346dae4b285016241bb8540a115e9bc7630bd962a44efa2a0cda61", func := "blotter/blotterlaw09.WsockParts", spec := "wsockParts", inPlace := ["internal/bytealg.IndexByteString", "internal/bytealg.CountString", "internal/bytealg.IndexString", "internal/abi.NoEscape", "internal/bytealg.MakeNoZero"], unfollowed := true, recurses := true, named := ["internal/bytealg.MaxLen", "unicode/utf8.first", "unicode/utf8.acceptRanges"], apart := false, laid := [("unicode/utf8.acceptRanges", laid_unicode_utf8_acceptRanges), ("unicode/utf8.first", laid_unicode_utf8_first)], narrowed := true }
def WsockPartsUptoSaid : Prop := wsockPartsUptoRow.holds Tryd.pinned (OpenSpec.upto wsockPartsSpec)

/-- 'blotterlaw09.WsockNobody', WHERE WHAT IT READS IS OF BULK AT MOST 1048576: true; the input reads as it did. -/
def wsockNobodyUptoRow : OpenClaim := { program := "ytcfbfmgckaehdaadoor", sum := "3d89804992346dae4b285016241bb8540a115e9bc7630bd962a44efa2a0cda61", func := "blotter/blotterlaw09.WsockNobody", spec := "wsockNobody", inPlace := ["internal/bytealg.IndexByteString", "internal/bytealg.CountString", "internal/bytealg.IndexString", "internal/abi.NoEscape", "internal/bytealg.MakeNoZero"], unfollowed := true, recurses := true, named := ["internal/bytealg.MaxLen", "unicode/utf8.first", "unicode/utf8.acceptRanges"], apart := false, laid := [("unicode/utf8.acceptRanges", laid_unicode_utf8_acceptRanges), ("unicode/utf8.first", laid_unicode_utf8_first)], narrowed := true }
def WsockNobodyUptoSaid : Prop := wsockNobodyUptoRow.holds Tryd.pinned (OpenSpec.upto wsockNobodySpec)

/-- 'blotterlaw09.WsockFeeds', WHERE WHAT IT READS IS OF BULK AT MOST 1048576: true; the input reads as it did. -/
def wsockFeedsUptoRow : OpenClaim := { program := "ytcfbfmgckaehdaadoor", sum := "3d89804992346dae4b285016241bb8540a115e9bc7630bd962a44efa2a0cda61", func := "blotter/blotterlaw09.WsockFeeds", spec := "wsockFeeds", inPlace := ["internal/bytealg.IndexByteString", "internal/bytealg.CountString", "internal/bytealg.IndexString", "internal/abi.NoEscape", "internal/bytealg.MakeNoZero"], unfollowed := true, recurses := true, named := ["internal/bytealg.MaxLen", "unicode/utf8.first", "unicode/utf8.acceptRanges"], apart := false, laid := [("unicode/utf8.acceptRanges", laid_unicode_utf8_acceptRanges), ("unicode/utf8.first", laid_unicode_utf8_first)], narrowed := true }
def WsockFeedsUptoSaid : Prop := wsockFeedsUptoRow.holds Tryd.pinned (OpenSpec.upto wsockFeedsSpec)

/-- 'blotterlaw09.WsockBounded', WHERE WHAT IT READS IS OF BULK AT MOST 1048576: true; the input reads as it did. -/
def wsockBoundedUptoRow : OpenClaim := { program := "ytcfbfmgckaehdaadoor", sum := "3d89804992346dae4b285016241bb8540a115e9bc7630bd962a44efa2a0cda61", func := "blotter/blotterlaw09.WsockBounded", spec := "wsockBounded", inPlace := ["internal/bytealg.IndexByteString", "internal/bytealg.CountString", "internal/bytealg.IndexString", "internal/abi.NoEscape", "internal/bytealg.MakeNoZero"], unfollowed := true, recurses := true, named := ["internal/bytealg.MaxLen", "unicode/utf8.first", "unicode/utf8.acceptRanges"], apart := false, laid := [("unicode/utf8.acceptRanges", laid_unicode_utf8_acceptRanges), ("unicode/utf8.first", laid_unicode_utf8_first)], narrowed := true }
def WsockBoundedUptoSaid : Prop := wsockBoundedUptoRow.holds Tryd.pinned (OpenSpec.upto wsockBoundedSpec)

/-- 'blotterlaw09.WsockPieces', WHERE WHAT IT READS IS OF BULK AT MOST 1048576: true; the input reads as it did. -/
def wsockPiecesUptoRow : OpenClaim := { program := "ytcfbfmgckaehdaadoor", sum := "3d89804992346dae4b285016241bb8540a115e9bc7630bd962a44efa2a0cda61", func := "blotter/blotterlaw09.WsockPieces", spec := "wsockPieces", inPlace := ["internal/bytealg.IndexByteString", "internal/bytealg.CountString", "internal/bytealg.IndexString", "internal/abi.NoEscape", "internal/bytealg.MakeNoZero"], unfollowed := true, recurses := true, named := ["internal/bytealg.MaxLen", "unicode/utf8.first", "unicode/utf8.acceptRanges"], apart := false, laid := [("unicode/utf8.acceptRanges", laid_unicode_utf8_acceptRanges), ("unicode/utf8.first", laid_unicode_utf8_first)], narrowed := true }
def WsockPiecesUptoSaid : Prop := wsockPiecesUptoRow.holds Tryd.pinned (OpenSpec.upto wsockPiecesSpec)

/-- 'blotterlaw09.WsockCloses', WHERE WHAT IT READS IS OF BULK AT MOST 1048576: true; the input reads as it did. -/
def wsockClosesUptoRow : OpenClaim := { program := "ytcfbfmgckaehdaadoor", sum := "3d89804992346dae4b285016241bb8540a115e9bc7630bd962a44efa2a0cda61", func := "blotter/blotterlaw09.WsockCloses", spec := "wsockCloses", inPlace := ["internal/bytealg.IndexByteString", "internal/bytealg.CountString", "internal/bytealg.IndexString", "internal/abi.NoEscape", "internal/bytealg.MakeNoZero"], unfollowed := true, recurses := true, named := ["internal/bytealg.MaxLen", "unicode/utf8.first", "unicode/utf8.acceptRanges"], apart := false, laid := [("unicode/utf8.acceptRanges", laid_unicode_utf8_acceptRanges), ("unicode/utf8.first", laid_unicode_utf8_first)], narrowed := true }
def WsockClosesUptoSaid : Prop := wsockClosesUptoRow.holds Tryd.pinned (OpenSpec.upto wsockClosesSpec)

end Rows
end Go.Proofs.YtcfbfmgckaehdaaDoor
