/-
  DERIVED. GIVEN WITH THE SEED: THE CARDS: each row of YtcfbfmgckaehdaaDoorRows.lean that lists a variable, with what it lists TIED to the program's text (the seventh form; the later family's looks); each row that meets fmt, with fmt's text TOLD by the authors' own Lean function (tested against real Go, not proved from fmt's source: count such statements apart). THE CARD IS WHAT COUNTS. Prove the row's statement (the work); the ties are given (YtcfbfmgckaehdaaDoorTie.lean); close each card by the builder's one call (the guide's Derived/Test/ToyasCard.lean, 'card_holds'). Laid BY PROGRAM, IN A SANDBOX (cutbox-door.mjs). By AI agents, Wed Nov 11 2026. No macro, syntax, notation, axiom, sorry.
-/
import Derived.Test.YtcfbfmgckaehdaaDoorRows
import GoSem.ClaimSeven
namespace Go.Proofs.YtcfbfmgckaehdaaDoor
namespace Rows

/-- THE TIED CARD OF 'blotterlaw09.WsockReads'. -/
def wsockReadsCard : Claim7 := { stood := { row := wsockReadsRow, standIns := [], harness := (true, "e8b27ce58800bbe593c6d55bd8046144ab8542b0620692e0cf7f07a4a7996012"), looks := false }, kinds := [], alts := [], laidByText := true, laidKinds := [.data, .pinned], laidTests := true, laidLooks := .later }
def WsockReadsCardSaid : Prop := Claim7.holds Tryd.pinned (.plain (OpenSpec.ofChange wsockReadsSpec)) wsockReadsCard

/-- THE TIED CARD OF 'blotterlaw09.WsockMasks'. -/
def wsockMasksCard : Claim7 := { stood := { row := wsockMasksRow, standIns := [], harness := (true, "e8b27ce58800bbe593c6d55bd8046144ab8542b0620692e0cf7f07a4a7996012"), looks := false }, kinds := [], alts := [], laidByText := true, laidKinds := [.data, .pinned], laidTests := true, laidLooks := .later }
def WsockMasksCardSaid : Prop := Claim7.holds Tryd.pinned (.plain (OpenSpec.ofChange wsockMasksSpec)) wsockMasksCard

/-- THE TIED CARD OF 'blotterlaw09.WsockBack'. -/
def wsockBackCard : Claim7 := { stood := { row := wsockBackRow, standIns := [], harness := (true, "e8b27ce58800bbe593c6d55bd8046144ab8542b0620692e0cf7f07a4a7996012"), looks := false }, kinds := [], alts := [], laidByText := true, laidKinds := [.data, .pinned], laidTests := true, laidLooks := .later }
def WsockBackCardSaid : Prop := Claim7.holds Tryd.pinned (.plain (OpenSpec.ofChange wsockBackSpec)) wsockBackCard

/-- THE TIED CARD OF 'blotterlaw09.WsockWrites'. -/
def wsockWritesCard : Claim7 := { stood := { row := wsockWritesRow, standIns := [], harness := (true, "e8b27ce58800bbe593c6d55bd8046144ab8542b0620692e0cf7f07a4a7996012"), looks := false }, kinds := [], alts := [], laidByText := true, laidKinds := [.data, .pinned], laidTests := true, laidLooks := .later }
def WsockWritesCardSaid : Prop := Claim7.holds Tryd.pinned (.plain (OpenSpec.ofChange wsockWritesSpec)) wsockWritesCard

/-- THE TIED CARD OF 'blotterlaw09.WsockParts'. -/
def wsockPartsCard : Claim7 := { stood := { row := wsockPartsRow, standIns := [], harness := (true, "e8b27ce58800bbe593c6d55bd8046144ab8542b0620692e0cf7f07a4a7996012"), looks := false }, kinds := [], alts := [], laidByText := true, laidKinds := [.data, .pinned], laidTests := true, laidLooks := .later }
def WsockPartsCardSaid : Prop := Claim7.holds Tryd.pinned (.plain (OpenSpec.ofChange wsockPartsSpec)) wsockPartsCard

/-- THE TIED CARD OF 'blotterlaw09.WsockNobody'. -/
def wsockNobodyCard : Claim7 := { stood := { row := wsockNobodyRow, standIns := [], harness := (true, "e8b27ce58800bbe593c6d55bd8046144ab8542b0620692e0cf7f07a4a7996012"), looks := false }, kinds := [], alts := [], laidByText := true, laidKinds := [.data, .pinned], laidTests := true, laidLooks := .later }
def WsockNobodyCardSaid : Prop := Claim7.holds Tryd.pinned (.plain (OpenSpec.ofChange wsockNobodySpec)) wsockNobodyCard

/-- THE TIED CARD OF 'blotterlaw09.WsockFeeds'. -/
def wsockFeedsCard : Claim7 := { stood := { row := wsockFeedsRow, standIns := [], harness := (true, "e8b27ce58800bbe593c6d55bd8046144ab8542b0620692e0cf7f07a4a7996012"), looks := false }, kinds := [], alts := [], laidByText := true, laidKinds := [.data, .pinned], laidTests := true, laidLooks := .later }
def WsockFeedsCardSaid : Prop := Claim7.holds Tryd.pinned (.plain (OpenSpec.ofChange wsockFeedsSpec)) wsockFeedsCard

/-- THE TIED CARD OF 'blotterlaw09.WsockBounded'. -/
def wsockBoundedCard : Claim7 := { stood := { row := wsockBoundedRow, standIns := [], harness := (true, "e8b27ce58800bbe593c6d55bd8046144ab8542b0620692e0cf7f07a4a7996012"), looks := false }, kinds := [], alts := [], laidByText := true, laidKinds := [.data, .pinned], laidTests := true, laidLooks := .later }
def WsockBoundedCardSaid : Prop := Claim7.holds Tryd.pinned (.plain (OpenSpec.ofChange wsockBoundedSpec)) wsockBoundedCard

/-- THE TIED CARD OF 'blotterlaw09.WsockPieces'. -/
def wsockPiecesCard : Claim7 := { stood := { row := wsockPiecesRow, standIns := [], harness := (true, "e8b27ce58800bbe593c6d55bd8046144ab8542b0620692e0cf7f07a4a7996012"), looks := false }, kinds := [], alts := [], laidByText := true, laidKinds := [.data, .pinned], laidTests := true, laidLooks := .later }
def WsockPiecesCardSaid : Prop := Claim7.holds Tryd.pinned (.plain (OpenSpec.ofChange wsockPiecesSpec)) wsockPiecesCard

/-- THE TIED CARD OF 'blotterlaw09.WsockCloses'. -/
def wsockClosesCard : Claim7 := { stood := { row := wsockClosesRow, standIns := [], harness := (true, "e8b27ce58800bbe593c6d55bd8046144ab8542b0620692e0cf7f07a4a7996012"), looks := false }, kinds := [], alts := [], laidByText := true, laidKinds := [.data, .pinned], laidTests := true, laidLooks := .later }
def WsockClosesCardSaid : Prop := Claim7.holds Tryd.pinned (.plain (OpenSpec.ofChange wsockClosesSpec)) wsockClosesCard

/-- THE SECOND FORM's CARD OF 'blotterlaw09.WsockReads'. -/
def wsockReadsUptoCard : Claim7 := { stood := { row := wsockReadsUptoRow, standIns := [], harness := (true, "e8b27ce58800bbe593c6d55bd8046144ab8542b0620692e0cf7f07a4a7996012"), looks := false }, kinds := [], alts := [], laidByText := true, laidKinds := [.data, .pinned], laidTests := true, laidLooks := .later }
def WsockReadsUptoCardSaid : Prop := Claim7.holds Tryd.pinned (.plain (OpenSpec.upto wsockReadsSpec)) wsockReadsUptoCard

/-- THE SECOND FORM's CARD OF 'blotterlaw09.WsockMasks'. -/
def wsockMasksUptoCard : Claim7 := { stood := { row := wsockMasksUptoRow, standIns := [], harness := (true, "e8b27ce58800bbe593c6d55bd8046144ab8542b0620692e0cf7f07a4a7996012"), looks := false }, kinds := [], alts := [], laidByText := true, laidKinds := [.data, .pinned], laidTests := true, laidLooks := .later }
def WsockMasksUptoCardSaid : Prop := Claim7.holds Tryd.pinned (.plain (OpenSpec.upto wsockMasksSpec)) wsockMasksUptoCard

/-- THE SECOND FORM's CARD OF 'blotterlaw09.WsockBack'. -/
def wsockBackUptoCard : Claim7 := { stood := { row := wsockBackUptoRow, standIns := [], harness := (true, "e8b27ce58800bbe593c6d55bd8046144ab8542b0620692e0cf7f07a4a7996012"), looks := false }, kinds := [], alts := [], laidByText := true, laidKinds := [.data, .pinned], laidTests := true, laidLooks := .later }
def WsockBackUptoCardSaid : Prop := Claim7.holds Tryd.pinned (.plain (OpenSpec.upto wsockBackSpec)) wsockBackUptoCard

/-- THE SECOND FORM's CARD OF 'blotterlaw09.WsockWrites'. -/
def wsockWritesUptoCard : Claim7 := { stood := { row := wsockWritesUptoRow, standIns := [], harness := (true, "e8b27ce58800bbe593c6d55bd8046144ab8542b0620692e0cf7f07a4a7996012"), looks := false }, kinds := [], alts := [], laidByText := true, laidKinds := [.data, .pinned], laidTests := true, laidLooks := .later }
def WsockWritesUptoCardSaid : Prop := Claim7.holds Tryd.pinned (.plain (OpenSpec.upto wsockWritesSpec)) wsockWritesUptoCard

/-- THE SECOND FORM's CARD OF 'blotterlaw09.WsockParts'. -/
def wsockPartsUptoCard : Claim7 := { stood := { row := wsockPartsUptoRow, standIns := [], harness := (true, "e8b27ce58800bbe593c6d55bd8046144ab8542b0620692e0cf7f07a4a7996012"), looks := false }, kinds := [], alts := [], laidByText := true, laidKinds := [.data, .pinned], laidTests := true, laidLooks := .later }
def WsockPartsUptoCardSaid : Prop := Claim7.holds Tryd.pinned (.plain (OpenSpec.upto wsockPartsSpec)) wsockPartsUptoCard

/-- THE SECOND FORM's CARD OF 'blotterlaw09.WsockNobody'. -/
def wsockNobodyUptoCard : Claim7 := { stood := { row := wsockNobodyUptoRow, standIns := [], harness := (true, "e8b27ce58800bbe593c6d55bd8046144ab8542b0620692e0cf7f07a4a7996012"), looks := false }, kinds := [], alts := [], laidByText := true, laidKinds := [.data, .pinned], laidTests := true, laidLooks := .later }
def WsockNobodyUptoCardSaid : Prop := Claim7.holds Tryd.pinned (.plain (OpenSpec.upto wsockNobodySpec)) wsockNobodyUptoCard

/-- THE SECOND FORM's CARD OF 'blotterlaw09.WsockFeeds'. -/
def wsockFeedsUptoCard : Claim7 := { stood := { row := wsockFeedsUptoRow, standIns := [], harness := (true, "e8b27ce58800bbe593c6d55bd8046144ab8542b0620692e0cf7f07a4a7996012"), looks := false }, kinds := [], alts := [], laidByText := true, laidKinds := [.data, .pinned], laidTests := true, laidLooks := .later }
def WsockFeedsUptoCardSaid : Prop := Claim7.holds Tryd.pinned (.plain (OpenSpec.upto wsockFeedsSpec)) wsockFeedsUptoCard

/-- THE SECOND FORM's CARD OF 'blotterlaw09.WsockBounded'. -/
def wsockBoundedUptoCard : Claim7 := { stood := { row := wsockBoundedUptoRow, standIns := [], harness := (true, "e8b27ce58800bbe593c6d55bd8046144ab8542b0620692e0cf7f07a4a7996012"), looks := false }, kinds := [], alts := [], laidByText := true, laidKinds := [.data, .pinned], laidTests := true, laidLooks := .later }
def WsockBoundedUptoCardSaid : Prop := Claim7.holds Tryd.pinned (.plain (OpenSpec.upto wsockBoundedSpec)) wsockBoundedUptoCard

/-- THE SECOND FORM's CARD OF 'blotterlaw09.WsockPieces'. -/
def wsockPiecesUptoCard : Claim7 := { stood := { row := wsockPiecesUptoRow, standIns := [], harness := (true, "e8b27ce58800bbe593c6d55bd8046144ab8542b0620692e0cf7f07a4a7996012"), looks := false }, kinds := [], alts := [], laidByText := true, laidKinds := [.data, .pinned], laidTests := true, laidLooks := .later }
def WsockPiecesUptoCardSaid : Prop := Claim7.holds Tryd.pinned (.plain (OpenSpec.upto wsockPiecesSpec)) wsockPiecesUptoCard

/-- THE SECOND FORM's CARD OF 'blotterlaw09.WsockCloses'. -/
def wsockClosesUptoCard : Claim7 := { stood := { row := wsockClosesUptoRow, standIns := [], harness := (true, "e8b27ce58800bbe593c6d55bd8046144ab8542b0620692e0cf7f07a4a7996012"), looks := false }, kinds := [], alts := [], laidByText := true, laidKinds := [.data, .pinned], laidTests := true, laidLooks := .later }
def WsockClosesUptoCardSaid : Prop := Claim7.holds Tryd.pinned (.plain (OpenSpec.upto wsockClosesSpec)) wsockClosesUptoCard
end Rows
end Go.Proofs.YtcfbfmgckaehdaaDoor
