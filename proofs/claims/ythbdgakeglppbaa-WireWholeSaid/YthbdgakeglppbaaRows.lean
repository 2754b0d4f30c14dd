/-
  No cell of these rows narrows 'for every input' (looked for: loops, veiled, ifaces, maps, wideKeys, modest, calm, conditions, laid).
  DERIVED. THE GIVEN ROWS OF THIS SEAT. 15 by the template 'for every input the law returns true; each argument reads behind the call as it read before'; 0 by the template 'total and deterministic' (their statements: YthbdgakeglppbaaTotals.lean).
  GIVEN WITH THE SEED: the statements are not yours to turn. If you find one false, say at which input.
  Laid BY PROGRAM, IN A SANDBOX (cutbox-rows.mjs): the forced cells as the released guide's own fill.sh prints them over the translation 27ac00c9ffba5ccc… (all of the seat's roots in one cut). By AI agents, Wed Nov 11 2026. No macro, syntax, notation, axiom, sorry.
-/
import Derived.Test.YthbdgakeglppbaaChecked
import GoSem.Claim
import GoSem.ClaimJoined
import GoSem.ClaimMapViews
import Derived.JoinedTies
import Derived.KernelRfl
namespace Go.Proofs.Ythbdgakeglppbaa
/- THE CELL 'sum', in the pinned program and in every row, IS THE sha256 OF THE DUMP (.gsa) THAT YthbdgakeglppbaaProg.lean LOADS. Nothing in Lean hashes anything: it is a label: what it is worth is what the hold of that sum in a sandbox is worth. -/
noncomputable def Try.pinned : Pinned := { name := "ythbdgakeglppbaa", sum := "27ac00c9ffba5ccc8b4834673077c7ba6d2b313c2fe9c4ac457ba3f5ba784417", checked := Try.checked }
namespace Rows
def none {H : Type} : Left H := { results := [], args := [] }

/-- 'blotterlaw01.WireSums': WHATEVER THE INPUT: true; the input reads as it did. -/
def wireSumsSpec : ChangeSpec := { name := "wireSums", fn := fun _ => fun
  | [d] => { results := [.lit (.bool true)], args := [d] }
  | _ => none }
def wireSumsRow : OpenClaim := { program := "ythbdgakeglppbaa", sum := "27ac00c9ffba5ccc8b4834673077c7ba6d2b313c2fe9c4ac457ba3f5ba784417", func := "blotter/blotterlaw01.WireSums", spec := "wireSums", apart := false }
def WireSumsSaid : Prop := wireSumsRow.holds Try.pinned (OpenSpec.ofChange wireSumsSpec)

/-- ITS FALSE NEIGHBOUR: 'it returns false'. Refute it at one input. -/
def wireSumsWrong : ChangeSpec := { name := "wireSums", fn := fun _ => fun
  | [d] => { results := [.lit (.bool false)], args := [d] }
  | _ => none }
def WireSumsWrongFalsely : Prop := wireSumsRow.holds Try.pinned (OpenSpec.ofChange wireSumsWrong)

/-- 'blotterlaw01.WireOrder': WHATEVER THE INPUT: true; the input reads as it did. -/
def wireOrderSpec : ChangeSpec := { name := "wireOrder", fn := fun _ => fun
  | [d1, d2] => { results := [.lit (.bool true)], args := [d1, d2] }
  | _ => none }
def wireOrderRow : OpenClaim := { program := "ythbdgakeglppbaa", sum := "27ac00c9ffba5ccc8b4834673077c7ba6d2b313c2fe9c4ac457ba3f5ba784417", func := "blotter/blotterlaw01.WireOrder", spec := "wireOrder", inPlace := ["internal/bytealg.Compare"], apart := false }
def WireOrderSaid : Prop := wireOrderRow.holds Try.pinned (OpenSpec.ofChange wireOrderSpec)

/-- ITS FALSE NEIGHBOUR: 'it returns false'. Refute it at one input. -/
def wireOrderWrong : ChangeSpec := { name := "wireOrder", fn := fun _ => fun
  | [d1, d2] => { results := [.lit (.bool false)], args := [d1, d2] }
  | _ => none }
def WireOrderWrongFalsely : Prop := wireOrderRow.holds Try.pinned (OpenSpec.ofChange wireOrderWrong)

/-- 'blotterlaw01.WireNumbers': WHATEVER THE INPUT: true; the input reads as it did. -/
def wireNumbersSpec : ChangeSpec := { name := "wireNumbers", fn := fun _ => fun
  | [d1, d2, d3] => { results := [.lit (.bool true)], args := [d1, d2, d3] }
  | _ => none }
def wireNumbersRow : OpenClaim := { program := "ythbdgakeglppbaa", sum := "27ac00c9ffba5ccc8b4834673077c7ba6d2b313c2fe9c4ac457ba3f5ba784417", func := "blotter/blotterlaw01.WireNumbers", spec := "wireNumbers", apart := false }
def WireNumbersSaid : Prop := wireNumbersRow.holds Try.pinned (OpenSpec.ofChange wireNumbersSpec)

/-- ITS FALSE NEIGHBOUR: 'it returns false'. Refute it at one input. -/
def wireNumbersWrong : ChangeSpec := { name := "wireNumbers", fn := fun _ => fun
  | [d1, d2, d3] => { results := [.lit (.bool false)], args := [d1, d2, d3] }
  | _ => none }
def WireNumbersWrongFalsely : Prop := wireNumbersRow.holds Try.pinned (OpenSpec.ofChange wireNumbersWrong)

/-- 'blotterlaw01.WireTorn': WHATEVER THE INPUT: true; the input reads as it did. -/
def wireTornSpec : ChangeSpec := { name := "wireTorn", fn := fun _ => fun
  | [d1, d2, d3] => { results := [.lit (.bool true)], args := [d1, d2, d3] }
  | _ => none }
def wireTornRow : OpenClaim := { program := "ythbdgakeglppbaa", sum := "27ac00c9ffba5ccc8b4834673077c7ba6d2b313c2fe9c4ac457ba3f5ba784417", func := "blotter/blotterlaw01.WireTorn", spec := "wireTorn", apart := false }
def WireTornSaid : Prop := wireTornRow.holds Try.pinned (OpenSpec.ofChange wireTornSpec)

/-- ITS FALSE NEIGHBOUR: 'it returns false'. Refute it at one input. -/
def wireTornWrong : ChangeSpec := { name := "wireTorn", fn := fun _ => fun
  | [d1, d2, d3] => { results := [.lit (.bool false)], args := [d1, d2, d3] }
  | _ => none }
def WireTornWrongFalsely : Prop := wireTornRow.holds Try.pinned (OpenSpec.ofChange wireTornWrong)

/-- 'blotterlaw01.WireFrames': WHATEVER THE INPUT: true; the input reads as it did. -/
def wireFramesSpec : ChangeSpec := { name := "wireFrames", fn := fun _ => fun
  | [d1, d2] => { results := [.lit (.bool true)], args := [d1, d2] }
  | _ => none }
def wireFramesRow : OpenClaim := { program := "ythbdgakeglppbaa", sum := "27ac00c9ffba5ccc8b4834673077c7ba6d2b313c2fe9c4ac457ba3f5ba784417", func := "blotter/blotterlaw01.WireFrames", spec := "wireFrames", apart := false }
def WireFramesSaid : Prop := wireFramesRow.holds Try.pinned (OpenSpec.ofChange wireFramesSpec)

/-- ITS FALSE NEIGHBOUR: 'it returns false'. Refute it at one input. -/
def wireFramesWrong : ChangeSpec := { name := "wireFrames", fn := fun _ => fun
  | [d1, d2] => { results := [.lit (.bool false)], args := [d1, d2] }
  | _ => none }
def WireFramesWrongFalsely : Prop := wireFramesRow.holds Try.pinned (OpenSpec.ofChange wireFramesWrong)

/-- 'blotterlaw01.WireChars': WHATEVER THE INPUT: true; the input reads as it did. -/
def wireCharsSpec : ChangeSpec := { name := "wireChars", fn := fun _ => fun
  | [d] => { results := [.lit (.bool true)], args := [d] }
  | _ => none }
def wireCharsRow : OpenClaim := { program := "ythbdgakeglppbaa", sum := "27ac00c9ffba5ccc8b4834673077c7ba6d2b313c2fe9c4ac457ba3f5ba784417", func := "blotter/blotterlaw01.WireChars", spec := "wireChars", apart := false }
def WireCharsSaid : Prop := wireCharsRow.holds Try.pinned (OpenSpec.ofChange wireCharsSpec)

/-- ITS FALSE NEIGHBOUR: 'it returns false'. Refute it at one input. -/
def wireCharsWrong : ChangeSpec := { name := "wireChars", fn := fun _ => fun
  | [d] => { results := [.lit (.bool false)], args := [d] }
  | _ => none }
def WireCharsWrongFalsely : Prop := wireCharsRow.holds Try.pinned (OpenSpec.ofChange wireCharsWrong)

/-- 'blotterlaw01.WireSpelt': WHATEVER THE INPUT: true; the input reads as it did. -/
def wireSpeltSpec : ChangeSpec := { name := "wireSpelt", fn := fun _ => fun
  | [d1, d2] => { results := [.lit (.bool true)], args := [d1, d2] }
  | _ => none }
def wireSpeltRow : OpenClaim := { program := "ythbdgakeglppbaa", sum := "27ac00c9ffba5ccc8b4834673077c7ba6d2b313c2fe9c4ac457ba3f5ba784417", func := "blotter/blotterlaw01.WireSpelt", spec := "wireSpelt", apart := false }
def WireSpeltSaid : Prop := wireSpeltRow.holds Try.pinned (OpenSpec.ofChange wireSpeltSpec)

/-- ITS FALSE NEIGHBOUR: 'it returns false'. Refute it at one input. -/
def wireSpeltWrong : ChangeSpec := { name := "wireSpelt", fn := fun _ => fun
  | [d1, d2] => { results := [.lit (.bool false)], args := [d1, d2] }
  | _ => none }
def WireSpeltWrongFalsely : Prop := wireSpeltRow.holds Try.pinned (OpenSpec.ofChange wireSpeltWrong)

/-- 'blotterlaw01.WireWhole': WHATEVER THE INPUT: true; the input reads as it did. -/
def wireWholeSpec : ChangeSpec := { name := "wireWhole", fn := fun _ => fun
  | [d1, d2] => { results := [.lit (.bool true)], args := [d1, d2] }
  | _ => none }
def wireWholeRow : OpenClaim := { program := "ythbdgakeglppbaa", sum := "27ac00c9ffba5ccc8b4834673077c7ba6d2b313c2fe9c4ac457ba3f5ba784417", func := "blotter/blotterlaw01.WireWhole", spec := "wireWhole", unfollowed := true, recurses := true, apart := false }
def WireWholeSaid : Prop := wireWholeRow.holds Try.pinned (OpenSpec.ofChange wireWholeSpec)

/-- ITS FALSE NEIGHBOUR: 'it returns false'. Refute it at one input. -/
def wireWholeWrong : ChangeSpec := { name := "wireWhole", fn := fun _ => fun
  | [d1, d2] => { results := [.lit (.bool false)], args := [d1, d2] }
  | _ => none }
def WireWholeWrongFalsely : Prop := wireWholeRow.holds Try.pinned (OpenSpec.ofChange wireWholeWrong)

/-- 'blotterlaw01.WireLetters': WHATEVER THE INPUT: true; the input reads as it did. -/
def wireLettersSpec : ChangeSpec := { name := "wireLetters", fn := fun _ => fun
  | [d1, d2] => { results := [.lit (.bool true)], args := [d1, d2] }
  | _ => none }
def wireLettersRow : OpenClaim := { program := "ythbdgakeglppbaa", sum := "27ac00c9ffba5ccc8b4834673077c7ba6d2b313c2fe9c4ac457ba3f5ba784417", func := "blotter/blotterlaw01.WireLetters", spec := "wireLetters", apart := false }
def WireLettersSaid : Prop := wireLettersRow.holds Try.pinned (OpenSpec.ofChange wireLettersSpec)

/-- ITS FALSE NEIGHBOUR: 'it returns false'. Refute it at one input. -/
def wireLettersWrong : ChangeSpec := { name := "wireLetters", fn := fun _ => fun
  | [d1, d2] => { results := [.lit (.bool false)], args := [d1, d2] }
  | _ => none }
def WireLettersWrongFalsely : Prop := wireLettersRow.holds Try.pinned (OpenSpec.ofChange wireLettersWrong)

/-- 'blotterlaw01.WireJoined': WHATEVER THE INPUT: true; the input reads as it did. -/
def wireJoinedSpec : ChangeSpec := { name := "wireJoined", fn := fun _ => fun
  | [d1, d2] => { results := [.lit (.bool true)], args := [d1, d2] }
  | _ => none }
def wireJoinedRow : OpenClaim := { program := "ythbdgakeglppbaa", sum := "27ac00c9ffba5ccc8b4834673077c7ba6d2b313c2fe9c4ac457ba3f5ba784417", func := "blotter/blotterlaw01.WireJoined", spec := "wireJoined", apart := false }
def WireJoinedSaid : Prop := wireJoinedRow.holds Try.pinned (OpenSpec.ofChange wireJoinedSpec)

/-- ITS FALSE NEIGHBOUR: 'it returns false'. Refute it at one input. -/
def wireJoinedWrong : ChangeSpec := { name := "wireJoined", fn := fun _ => fun
  | [d1, d2] => { results := [.lit (.bool false)], args := [d1, d2] }
  | _ => none }
def WireJoinedWrongFalsely : Prop := wireJoinedRow.holds Try.pinned (OpenSpec.ofChange wireJoinedWrong)

/-- 'blotterlaw01.WireRuns': WHATEVER THE INPUT: true; the input reads as it did. -/
def wireRunsSpec : ChangeSpec := { name := "wireRuns", fn := fun _ => fun
  | [d] => { results := [.lit (.bool true)], args := [d] }
  | _ => none }
def wireRunsRow : OpenClaim := { program := "ythbdgakeglppbaa", sum := "27ac00c9ffba5ccc8b4834673077c7ba6d2b313c2fe9c4ac457ba3f5ba784417", func := "blotter/blotterlaw01.WireRuns", spec := "wireRuns", unfollowed := true, recurses := true, apart := false }
def WireRunsSaid : Prop := wireRunsRow.holds Try.pinned (OpenSpec.ofChange wireRunsSpec)

/-- ITS FALSE NEIGHBOUR: 'it returns false'. Refute it at one input. -/
def wireRunsWrong : ChangeSpec := { name := "wireRuns", fn := fun _ => fun
  | [d] => { results := [.lit (.bool false)], args := [d] }
  | _ => none }
def WireRunsWrongFalsely : Prop := wireRunsRow.holds Try.pinned (OpenSpec.ofChange wireRunsWrong)

/-- 'blotterlaw01.WireNobody': WHATEVER THE INPUT: true; the input reads as it did. -/
def wireNobodySpec : ChangeSpec := { name := "wireNobody", fn := fun _ => fun
  | [d] => { results := [.lit (.bool true)], args := [d] }
  | _ => none }
def wireNobodyRow : OpenClaim := { program := "ythbdgakeglppbaa", sum := "27ac00c9ffba5ccc8b4834673077c7ba6d2b313c2fe9c4ac457ba3f5ba784417", func := "blotter/blotterlaw01.WireNobody", spec := "wireNobody", apart := false }
def WireNobodySaid : Prop := wireNobodyRow.holds Try.pinned (OpenSpec.ofChange wireNobodySpec)

/-- ITS FALSE NEIGHBOUR: 'it returns false'. Refute it at one input. -/
def wireNobodyWrong : ChangeSpec := { name := "wireNobody", fn := fun _ => fun
  | [d] => { results := [.lit (.bool false)], args := [d] }
  | _ => none }
def WireNobodyWrongFalsely : Prop := wireNobodyRow.holds Try.pinned (OpenSpec.ofChange wireNobodyWrong)

/-- 'blotterlaw01.WireCursor': WHATEVER THE INPUT: true; the input reads as it did. -/
def wireCursorSpec : ChangeSpec := { name := "wireCursor", fn := fun _ => fun
  | [d1, d2] => { results := [.lit (.bool true)], args := [d1, d2] }
  | _ => none }
def wireCursorRow : OpenClaim := { program := "ythbdgakeglppbaa", sum := "27ac00c9ffba5ccc8b4834673077c7ba6d2b313c2fe9c4ac457ba3f5ba784417", func := "blotter/blotterlaw01.WireCursor", spec := "wireCursor", apart := false }
def WireCursorSaid : Prop := wireCursorRow.holds Try.pinned (OpenSpec.ofChange wireCursorSpec)

/-- ITS FALSE NEIGHBOUR: 'it returns false'. Refute it at one input. -/
def wireCursorWrong : ChangeSpec := { name := "wireCursor", fn := fun _ => fun
  | [d1, d2] => { results := [.lit (.bool false)], args := [d1, d2] }
  | _ => none }
def WireCursorWrongFalsely : Prop := wireCursorRow.holds Try.pinned (OpenSpec.ofChange wireCursorWrong)

/-- 'blotterlaw01.WireForms': WHATEVER THE INPUT: true; the input reads as it did. -/
def wireFormsSpec : ChangeSpec := { name := "wireForms", fn := fun _ => fun
  | [d] => { results := [.lit (.bool true)], args := [d] }
  | _ => none }
def wireFormsRow : OpenClaim := { program := "ythbdgakeglppbaa", sum := "27ac00c9ffba5ccc8b4834673077c7ba6d2b313c2fe9c4ac457ba3f5ba784417", func := "blotter/blotterlaw01.WireForms", spec := "wireForms", apart := false }
def WireFormsSaid : Prop := wireFormsRow.holds Try.pinned (OpenSpec.ofChange wireFormsSpec)

/-- ITS FALSE NEIGHBOUR: 'it returns false'. Refute it at one input. -/
def wireFormsWrong : ChangeSpec := { name := "wireForms", fn := fun _ => fun
  | [d] => { results := [.lit (.bool false)], args := [d] }
  | _ => none }
def WireFormsWrongFalsely : Prop := wireFormsRow.holds Try.pinned (OpenSpec.ofChange wireFormsWrong)

/-- 'blotterlaw01.WireBack': WHATEVER THE INPUT: true; the input reads as it did. -/
def wireBackSpec : ChangeSpec := { name := "wireBack", fn := fun _ => fun
  | [d1, d2, d3, d4] => { results := [.lit (.bool true)], args := [d1, d2, d3, d4] }
  | _ => none }
def wireBackRow : OpenClaim := { program := "ythbdgakeglppbaa", sum := "27ac00c9ffba5ccc8b4834673077c7ba6d2b313c2fe9c4ac457ba3f5ba784417", func := "blotter/blotterlaw01.WireBack", spec := "wireBack", apart := false }
def WireBackSaid : Prop := wireBackRow.holds Try.pinned (OpenSpec.ofChange wireBackSpec)

/-- ITS FALSE NEIGHBOUR: 'it returns false'. Refute it at one input. -/
def wireBackWrong : ChangeSpec := { name := "wireBack", fn := fun _ => fun
  | [d1, d2, d3, d4] => { results := [.lit (.bool false)], args := [d1, d2, d3, d4] }
  | _ => none }
def WireBackWrongFalsely : Prop := wireBackRow.holds Try.pinned (OpenSpec.ofChange wireBackWrong)

/- THE SECOND FORM. 'bulk': how many values and letters a reading holds, each counted each time it is reached (what is shared counts as often as it is met; a slice's spare places count too). A statement '..UptoSaid' is the law's where the arguments, and the package variables that the reading takes, are together of bulk at most 1048576: NARROWER than '..Said'. Prove '..Said' where nothing that the law and all that it calls make is longer than what came in: it says more and counts as full. Else prove '..UptoSaid'. A law counts once. -/
mutual
def uptoBulk {H : Type} : DataW H → Nat
  | .lit (.string bytes) => bytes.length + 1
  | .lit _ => 1
  | .nil => 1
  | .ptr d => uptoBulk d + 1
  | .slice elems spare => uptoBulkAll elems + uptoBulkAll spare + 1
  | .agg parts => uptoBulkAll parts + 1
  | .iface _ d => uptoBulk d + 1
  | .map entries => uptoBulkEntries entries + 1
  | .held _ => 1
def uptoBulkAll {H : Type} : List (DataW H) → Nat
  | [] => 0
  | d :: r => uptoBulk d + uptoBulkAll r
def uptoBulkEntries {H : Type} : List (Lit × DataW H) → Nat
  | [] => 0
  | x :: r => uptoBulkEntry x + uptoBulkEntries r
def uptoBulkEntry {H : Type} : Lit × DataW H → Nat
  | (.string bytes, d) => bytes.length + uptoBulk d + 1
  | (_, d) => uptoBulk d + 1
 end
def uptoSmall : (H : Type) → List (DataW H) → Bool := fun _ ds => decide (uptoBulkAll ds ≤ 1048576)
def OpenSpec.upto (s : _root_.Go.ChangeSpec) : _root_.Go.OpenSpec := { _root_.Go.OpenSpec.ofChange s with cond := some uptoSmall }

/-- 'blotterlaw01.WireSums', WHERE WHAT IT READS IS OF BULK AT MOST 1048576: true; the input reads as it did. -/
def wireSumsUptoRow : OpenClaim := { program := "ythbdgakeglppbaa", sum := "27ac00c9ffba5ccc8b4834673077c7ba6d2b313c2fe9c4ac457ba3f5ba784417", func := "blotter/blotterlaw01.WireSums", spec := "wireSums", apart := false, narrowed := true }
def WireSumsUptoSaid : Prop := wireSumsUptoRow.holds Try.pinned (OpenSpec.upto wireSumsSpec)

/-- 'blotterlaw01.WireOrder', WHERE WHAT IT READS IS OF BULK AT MOST 1048576: true; the input reads as it did. -/
def wireOrderUptoRow : OpenClaim := { program := "ythbdgakeglppbaa", sum := "27ac00c9ffba5ccc8b4834673077c7ba6d2b313c2fe9c4ac457ba3f5ba784417", func := "blotter/blotterlaw01.WireOrder", spec := "wireOrder", inPlace := ["internal/bytealg.Compare"], apart := false, narrowed := true }
def WireOrderUptoSaid : Prop := wireOrderUptoRow.holds Try.pinned (OpenSpec.upto wireOrderSpec)

/-- 'blotterlaw01.WireNumbers', WHERE WHAT IT READS IS OF BULK AT MOST 1048576: true; the input reads as it did. -/
def wireNumbersUptoRow : OpenClaim := { program := "ythbdgakeglppbaa", sum := "27ac00c9ffba5ccc8b4834673077c7ba6d2b313c2fe9c4ac457ba3f5ba784417", func := "blotter/blotterlaw01.WireNumbers", spec := "wireNumbers", apart := false, narrowed := true }
def WireNumbersUptoSaid : Prop := wireNumbersUptoRow.holds Try.pinned (OpenSpec.upto wireNumbersSpec)

/-- 'blotterlaw01.WireTorn', WHERE WHAT IT READS IS OF BULK AT MOST 1048576: true; the input reads as it did. -/
def wireTornUptoRow : OpenClaim := { program := "ythbdgakeglppbaa", sum := "27ac00c9ffba5ccc8b4834673077c7ba6d2b313c2fe9c4ac457ba3f5ba784417", func := "blotter/blotterlaw01.WireTorn", spec := "wireTorn", apart := false, narrowed := true }
def WireTornUptoSaid : Prop := wireTornUptoRow.holds Try.pinned (OpenSpec.upto wireTornSpec)

/-- 'blotterlaw01.WireFrames', WHERE WHAT IT READS IS OF BULK AT MOST 1048576: true; the input reads as it did. -/
def wireFramesUptoRow : OpenClaim := { program := "ythbdgakeglppbaa", sum := "27ac00c9ffba5ccc8b4834673077c7ba6d2b313c2fe9c4ac457ba3f5ba784417", func := "blotter/blotterlaw01.WireFrames", spec := "wireFrames", apart := false, narrowed := true }
def WireFramesUptoSaid : Prop := wireFramesUptoRow.holds Try.pinned (OpenSpec.upto wireFramesSpec)

/-- 'blotterlaw01.WireChars', WHERE WHAT IT READS IS OF BULK AT MOST 1048576: true; the input reads as it did. -/
def wireCharsUptoRow : OpenClaim := { program := "ythbdgakeglppbaa", sum := "27ac00c9ffba5ccc8b4834673077c7ba6d2b313c2fe9c4ac457ba3f5ba784417", func := "blotter/blotterlaw01.WireChars", spec := "wireChars", apart := false, narrowed := true }
def WireCharsUptoSaid : Prop := wireCharsUptoRow.holds Try.pinned (OpenSpec.upto wireCharsSpec)

/-- 'blotterlaw01.WireSpelt', WHERE WHAT IT READS IS OF BULK AT MOST 1048576: true; the input reads as it did. -/
def wireSpeltUptoRow : OpenClaim := { program := "ythbdgakeglppbaa", sum := "27ac00c9ffba5ccc8b4834673077c7ba6d2b313c2fe9c4ac457ba3f5ba784417", func := "blotter/blotterlaw01.WireSpelt", spec := "wireSpelt", apart := false, narrowed := true }
def WireSpeltUptoSaid : Prop := wireSpeltUptoRow.holds Try.pinned (OpenSpec.upto wireSpeltSpec)

/-- 'blotterlaw01.WireWhole', WHERE WHAT IT READS IS OF BULK AT MOST 1048576: true; the input reads as it did. -/
def wireWholeUptoRow : OpenClaim := { program := "ythbdgakeglppbaa", sum := "27ac00c9ffba5ccc8b4834673077c7ba6d2b313c2fe9c4ac457ba3f5ba784417", func := "blotter/blotterlaw01.WireWhole", spec := "wireWhole", unfollowed := true, recurses := true, apart := false, narrowed := true }
def WireWholeUptoSaid : Prop := wireWholeUptoRow.holds Try.pinned (OpenSpec.upto wireWholeSpec)

/-- 'blotterlaw01.WireLetters', WHERE WHAT IT READS IS OF BULK AT MOST 1048576: true; the input reads as it did. -/
def wireLettersUptoRow : OpenClaim := { program := "ythbdgakeglppbaa", sum := "27ac00c9ffba5ccc8b4834673077c7ba6d2b313c2fe9c4ac457ba3f5ba784417", func := "blotter/blotterlaw01.WireLetters", spec := "wireLetters", apart := false, narrowed := true }
def WireLettersUptoSaid : Prop := wireLettersUptoRow.holds Try.pinned (OpenSpec.upto wireLettersSpec)

/-- 'blotterlaw01.WireJoined', WHERE WHAT IT READS IS OF BULK AT MOST 1048576: true; the input reads as it did. -/
def wireJoinedUptoRow : OpenClaim := { program := "ythbdgakeglppbaa", sum := "27ac00c9ffba5ccc8b4834673077c7ba6d2b313c2fe9c4ac457ba3f5ba784417", func := "blotter/blotterlaw01.WireJoined", spec := "wireJoined", apart := false, narrowed := true }
def WireJoinedUptoSaid : Prop := wireJoinedUptoRow.holds Try.pinned (OpenSpec.upto wireJoinedSpec)

/-- 'blotterlaw01.WireRuns', WHERE WHAT IT READS IS OF BULK AT MOST 1048576: true; the input reads as it did. -/
def wireRunsUptoRow : OpenClaim := { program := "ythbdgakeglppbaa", sum := "27ac00c9ffba5ccc8b4834673077c7ba6d2b313c2fe9c4ac457ba3f5ba784417", func := "blotter/blotterlaw01.WireRuns", spec := "wireRuns", unfollowed := true, recurses := true, apart := false, narrowed := true }
def WireRunsUptoSaid : Prop := wireRunsUptoRow.holds Try.pinned (OpenSpec.upto wireRunsSpec)

/-- 'blotterlaw01.WireNobody', WHERE WHAT IT READS IS OF BULK AT MOST 1048576: true; the input reads as it did. -/
def wireNobodyUptoRow : OpenClaim := { program := "ythbdgakeglppbaa", sum := "27ac00c9ffba5ccc8b4834673077c7ba6d2b313c2fe9c4ac457ba3f5ba784417", func := "blotter/blotterlaw01.WireNobody", spec := "wireNobody", apart := false, narrowed := true }
def WireNobodyUptoSaid : Prop := wireNobodyUptoRow.holds Try.pinned (OpenSpec.upto wireNobodySpec)

/-- 'blotterlaw01.WireCursor', WHERE WHAT IT READS IS OF BULK AT MOST 1048576: true; the input reads as it did. -/
def wireCursorUptoRow : OpenClaim := { program := "ythbdgakeglppbaa", sum := "27ac00c9ffba5ccc8b4834673077c7ba6d2b313c2fe9c4ac457ba3f5ba784417", func := "blotter/blotterlaw01.WireCursor", spec := "wireCursor", apart := false, narrowed := true }
def WireCursorUptoSaid : Prop := wireCursorUptoRow.holds Try.pinned (OpenSpec.upto wireCursorSpec)

/-- 'blotterlaw01.WireForms', WHERE WHAT IT READS IS OF BULK AT MOST 1048576: true; the input reads as it did. -/
def wireFormsUptoRow : OpenClaim := { program := "ythbdgakeglppbaa", sum := "27ac00c9ffba5ccc8b4834673077c7ba6d2b313c2fe9c4ac457ba3f5ba784417", func := "blotter/blotterlaw01.WireForms", spec := "wireForms", apart := false, narrowed := true }
def WireFormsUptoSaid : Prop := wireFormsUptoRow.holds Try.pinned (OpenSpec.upto wireFormsSpec)

/-- 'blotterlaw01.WireBack', WHERE WHAT IT READS IS OF BULK AT MOST 1048576: true; the input reads as it did. -/
def wireBackUptoRow : OpenClaim := { program := "ythbdgakeglppbaa", sum := "27ac00c9ffba5ccc8b4834673077c7ba6d2b313c2fe9c4ac457ba3f5ba784417", func := "blotter/blotterlaw01.WireBack", spec := "wireBack", apart := false, narrowed := true }
def WireBackUptoSaid : Prop := wireBackUptoRow.holds Try.pinned (OpenSpec.upto wireBackSpec)

end Rows
end Go.Proofs.Ythbdgakeglppbaa
