/-
  DERIVED. GIVEN WITH THE SEED: THE CARDS: each row of YtfhnchabifklnaaDoorRows.lean that lists a variable, with what it lists TIED to the program's text (the seventh form; the later family's looks); each row that meets fmt, with fmt's text TOLD by the authors' own Lean function (tested against real Go, not proved from fmt's source: count such statements apart). THE CARD IS WHAT COUNTS. Prove the row's statement (the work); the ties are given (YtfhnchabifklnaaDoorTie.lean); close each card by the builder's one call (the guide's Derived/Test/ToyasCard.lean, 'card_holds'). Laid BY PROGRAM, IN A SANDBOX (cutbox-door.mjs). By AI agents, Wed Nov 11 2026. No macro, syntax, notation, axiom, sorry.
-/
import Derived.Test.YtfhnchabifklnaaDoorRows
import GoSem.ClaimSeven
namespace Go.Proofs.YtfhnchabifklnaaDoor
namespace Rows

/-- THE TIED CARD OF 'blotterlaw07.DigestShort'. -/
def digestShortCard : Claim7 := { stood := { row := digestShortRow, standIns := [], harness := (true, "217777c88eb4dff0034366d79f81c6d83386091cbef2f9ea6a4c4cd8c1a977b8"), looks := false }, kinds := [], alts := [], laidByText := true, laidKinds := [.data], laidTests := true, laidLooks := .later }
def DigestShortCardSaid : Prop := Claim7.holds Tryd.pinned (.plain (OpenSpec.ofChange digestShortSpec)) digestShortCard

/-- THE TIED CARD OF 'blotterlaw07.DigestLong'. -/
def digestLongCard : Claim7 := { stood := { row := digestLongRow, standIns := [], harness := (true, "217777c88eb4dff0034366d79f81c6d83386091cbef2f9ea6a4c4cd8c1a977b8"), looks := false }, kinds := [], alts := [], laidByText := true, laidKinds := [.data], laidTests := true, laidLooks := .later }
def DigestLongCardSaid : Prop := Claim7.holds Tryd.pinned (.plain (OpenSpec.ofChange digestLongSpec)) digestLongCard

/-- THE TIED CARD OF 'blotterlaw07.DigestBase'. -/
def digestBaseCard : Claim7 := { stood := { row := digestBaseRow, standIns := [], harness := (true, "217777c88eb4dff0034366d79f81c6d83386091cbef2f9ea6a4c4cd8c1a977b8"), looks := false }, kinds := [], alts := [], laidByText := true, laidKinds := [.data], laidTests := true, laidLooks := .later }
def DigestBaseCardSaid : Prop := Claim7.holds Tryd.pinned (.plain (OpenSpec.ofChange digestBaseSpec)) digestBaseCard

/-- THE TIED CARD OF 'blotterlaw07.DigestSpelt'. -/
def digestSpeltCard : Claim7 := { stood := { row := digestSpeltRow, standIns := [], harness := (true, "217777c88eb4dff0034366d79f81c6d83386091cbef2f9ea6a4c4cd8c1a977b8"), looks := false }, kinds := [], alts := [], laidByText := true, laidKinds := [.data], laidTests := true, laidLooks := .later }
def DigestSpeltCardSaid : Prop := Claim7.holds Tryd.pinned (.plain (OpenSpec.ofChange digestSpeltSpec)) digestSpeltCard

/-- THE TIED CARD OF 'blotterlaw07.DigestSame'. -/
def digestSameCard : Claim7 := { stood := { row := digestSameRow, standIns := [], harness := (true, "217777c88eb4dff0034366d79f81c6d83386091cbef2f9ea6a4c4cd8c1a977b8"), looks := false }, kinds := [], alts := [], laidByText := true, laidKinds := [.data], laidTests := true, laidLooks := .later }
def DigestSameCardSaid : Prop := Claim7.holds Tryd.pinned (.plain (OpenSpec.ofChange digestSameSpec)) digestSameCard

/-- THE TIED CARD OF 'blotterlaw07.DigestMacs'. -/
def digestMacsCard : Claim7 := { stood := { row := digestMacsRow, standIns := [], harness := (true, "217777c88eb4dff0034366d79f81c6d83386091cbef2f9ea6a4c4cd8c1a977b8"), looks := false }, kinds := [], alts := [], laidByText := true, laidKinds := [.data], laidTests := true, laidLooks := .later }
def DigestMacsCardSaid : Prop := Claim7.holds Tryd.pinned (.plain (OpenSpec.ofChange digestMacsSpec)) digestMacsCard

/-- THE TIED CARD OF 'blotterlaw07.DigestInner'. -/
def digestInnerCard : Claim7 := { stood := { row := digestInnerRow, standIns := [], harness := (true, "217777c88eb4dff0034366d79f81c6d83386091cbef2f9ea6a4c4cd8c1a977b8"), looks := false }, kinds := [], alts := [], laidByText := true, laidKinds := [.data], laidTests := true, laidLooks := .later }
def DigestInnerCardSaid : Prop := Claim7.holds Tryd.pinned (.plain (OpenSpec.ofChange digestInnerSpec)) digestInnerCard

/-- THE TIED CARD OF 'blotterlaw07.DigestKeys'. -/
def digestKeysCard : Claim7 := { stood := { row := digestKeysRow, standIns := [], harness := (true, "217777c88eb4dff0034366d79f81c6d83386091cbef2f9ea6a4c4cd8c1a977b8"), looks := false }, kinds := [], alts := [], laidByText := true, laidKinds := [.data], laidTests := true, laidLooks := .later }
def DigestKeysCardSaid : Prop := Claim7.holds Tryd.pinned (.plain (OpenSpec.ofChange digestKeysSpec)) digestKeysCard

/-- THE SECOND FORM's CARD OF 'blotterlaw07.DigestShort'. -/
def digestShortUptoCard : Claim7 := { stood := { row := digestShortUptoRow, standIns := [], harness := (true, "217777c88eb4dff0034366d79f81c6d83386091cbef2f9ea6a4c4cd8c1a977b8"), looks := false }, kinds := [], alts := [], laidByText := true, laidKinds := [.data], laidTests := true, laidLooks := .later }
def DigestShortUptoCardSaid : Prop := Claim7.holds Tryd.pinned (.plain (OpenSpec.upto digestShortSpec)) digestShortUptoCard

/-- THE SECOND FORM's CARD OF 'blotterlaw07.DigestLong'. -/
def digestLongUptoCard : Claim7 := { stood := { row := digestLongUptoRow, standIns := [], harness := (true, "217777c88eb4dff0034366d79f81c6d83386091cbef2f9ea6a4c4cd8c1a977b8"), looks := false }, kinds := [], alts := [], laidByText := true, laidKinds := [.data], laidTests := true, laidLooks := .later }
def DigestLongUptoCardSaid : Prop := Claim7.holds Tryd.pinned (.plain (OpenSpec.upto digestLongSpec)) digestLongUptoCard

/-- THE SECOND FORM's CARD OF 'blotterlaw07.DigestBase'. -/
def digestBaseUptoCard : Claim7 := { stood := { row := digestBaseUptoRow, standIns := [], harness := (true, "217777c88eb4dff0034366d79f81c6d83386091cbef2f9ea6a4c4cd8c1a977b8"), looks := false }, kinds := [], alts := [], laidByText := true, laidKinds := [.data], laidTests := true, laidLooks := .later }
def DigestBaseUptoCardSaid : Prop := Claim7.holds Tryd.pinned (.plain (OpenSpec.upto digestBaseSpec)) digestBaseUptoCard

/-- THE SECOND FORM's CARD OF 'blotterlaw07.DigestSpelt'. -/
def digestSpeltUptoCard : Claim7 := { stood := { row := digestSpeltUptoRow, standIns := [], harness := (true, "217777c88eb4dff0034366d79f81c6d83386091cbef2f9ea6a4c4cd8c1a977b8"), looks := false }, kinds := [], alts := [], laidByText := true, laidKinds := [.data], laidTests := true, laidLooks := .later }
def DigestSpeltUptoCardSaid : Prop := Claim7.holds Tryd.pinned (.plain (OpenSpec.upto digestSpeltSpec)) digestSpeltUptoCard

/-- THE SECOND FORM's CARD OF 'blotterlaw07.DigestSame'. -/
def digestSameUptoCard : Claim7 := { stood := { row := digestSameUptoRow, standIns := [], harness := (true, "217777c88eb4dff0034366d79f81c6d83386091cbef2f9ea6a4c4cd8c1a977b8"), looks := false }, kinds := [], alts := [], laidByText := true, laidKinds := [.data], laidTests := true, laidLooks := .later }
def DigestSameUptoCardSaid : Prop := Claim7.holds Tryd.pinned (.plain (OpenSpec.upto digestSameSpec)) digestSameUptoCard

/-- THE SECOND FORM's CARD OF 'blotterlaw07.DigestMacs'. -/
def digestMacsUptoCard : Claim7 := { stood := { row := digestMacsUptoRow, standIns := [], harness := (true, "217777c88eb4dff0034366d79f81c6d83386091cbef2f9ea6a4c4cd8c1a977b8"), looks := false }, kinds := [], alts := [], laidByText := true, laidKinds := [.data], laidTests := true, laidLooks := .later }
def DigestMacsUptoCardSaid : Prop := Claim7.holds Tryd.pinned (.plain (OpenSpec.upto digestMacsSpec)) digestMacsUptoCard

/-- THE SECOND FORM's CARD OF 'blotterlaw07.DigestInner'. -/
def digestInnerUptoCard : Claim7 := { stood := { row := digestInnerUptoRow, standIns := [], harness := (true, "217777c88eb4dff0034366d79f81c6d83386091cbef2f9ea6a4c4cd8c1a977b8"), looks := false }, kinds := [], alts := [], laidByText := true, laidKinds := [.data], laidTests := true, laidLooks := .later }
def DigestInnerUptoCardSaid : Prop := Claim7.holds Tryd.pinned (.plain (OpenSpec.upto digestInnerSpec)) digestInnerUptoCard

/-- THE SECOND FORM's CARD OF 'blotterlaw07.DigestKeys'. -/
def digestKeysUptoCard : Claim7 := { stood := { row := digestKeysUptoRow, standIns := [], harness := (true, "217777c88eb4dff0034366d79f81c6d83386091cbef2f9ea6a4c4cd8c1a977b8"), looks := false }, kinds := [], alts := [], laidByText := true, laidKinds := [.data], laidTests := true, laidLooks := .later }
def DigestKeysUptoCardSaid : Prop := Claim7.holds Tryd.pinned (.plain (OpenSpec.upto digestKeysSpec)) digestKeysUptoCard
end Rows
end Go.Proofs.YtfhnchabifklnaaDoor
