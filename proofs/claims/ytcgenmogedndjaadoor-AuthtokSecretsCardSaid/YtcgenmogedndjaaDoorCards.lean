/-
  DERIVED. GIVEN WITH THE SEED: THE CARDS: each row of YtcgenmogedndjaaDoorRows.lean that lists a variable, with what it lists TIED to the program's text (the seventh form; the later family's looks); each row that meets fmt, with fmt's text TOLD by the authors' own Lean function (tested against real Go, not proved from fmt's source: count such statements apart). THE CARD IS WHAT COUNTS. Prove the row's statement (the work); the ties are given (YtcgenmogedndjaaDoorTie.lean); close each card by the builder's one call (the guide's Derived/Test/ToyasCard.lean, 'card_holds'). Laid BY PROGRAM, IN A SANDBOX (cutbox-door.mjs). By AI agents, Wed Nov 11 2026. No macro, syntax, notation, axiom, sorry.
-/
import Derived.Test.YtcgenmogedndjaaDoorRows
import GoSem.ClaimSeven
namespace Go.Proofs.YtcgenmogedndjaaDoor
namespace Rows

/-- THE TIED CARD OF 'blotterlaw10.AuthtokBack'. -/
def authtokBackCard : Claim7 := { stood := { row := authtokBackRow, standIns := [], harness := (true, "94fbaa93945537eebdefaaa68e8a6bc800e5e32c767aa9ab57191df1319d8dc4"), looks := false }, kinds := [], alts := [], laidByText := true, laidKinds := [.data], laidTests := true, laidLooks := .later }
def AuthtokBackCardSaid : Prop := Claim7.holds Tryd.pinned (.plain (OpenSpec.ofChange authtokBackSpec)) authtokBackCard

/-- THE TIED CARD OF 'blotterlaw10.AuthtokOne'. -/
def authtokOneCard : Claim7 := { stood := { row := authtokOneRow, standIns := [], harness := (true, "94fbaa93945537eebdefaaa68e8a6bc800e5e32c767aa9ab57191df1319d8dc4"), looks := false }, kinds := [], alts := [], laidByText := true, laidKinds := [.data], laidTests := true, laidLooks := .later }
def AuthtokOneCardSaid : Prop := Claim7.holds Tryd.pinned (.plain (OpenSpec.ofChange authtokOneSpec)) authtokOneCard

/-- THE TIED CARD OF 'blotterlaw10.AuthtokTimes'. -/
def authtokTimesCard : Claim7 := { stood := { row := authtokTimesRow, standIns := [], harness := (true, "94fbaa93945537eebdefaaa68e8a6bc800e5e32c767aa9ab57191df1319d8dc4"), looks := false }, kinds := [], alts := [], laidByText := true, laidKinds := [.data], laidTests := true, laidLooks := .later }
def AuthtokTimesCardSaid : Prop := Claim7.holds Tryd.pinned (.plain (OpenSpec.ofChange authtokTimesSpec)) authtokTimesCard

/-- THE TIED CARD OF 'blotterlaw10.AuthtokSecrets'. -/
def authtokSecretsCard : Claim7 := { stood := { row := authtokSecretsRow, standIns := [], harness := (true, "94fbaa93945537eebdefaaa68e8a6bc800e5e32c767aa9ab57191df1319d8dc4"), looks := false }, kinds := [], alts := [], laidByText := true, laidKinds := [.data], laidTests := true, laidLooks := .later }
def AuthtokSecretsCardSaid : Prop := Claim7.holds Tryd.pinned (.plain (OpenSpec.ofChange authtokSecretsSpec)) authtokSecretsCard

/-- THE TIED CARD OF 'blotterlaw10.AuthtokMakes'. -/
def authtokMakesCard : Claim7 := { stood := { row := authtokMakesRow, standIns := [], harness := (true, "94fbaa93945537eebdefaaa68e8a6bc800e5e32c767aa9ab57191df1319d8dc4"), looks := false }, kinds := [], alts := [], laidByText := true, laidKinds := [.data], laidTests := true, laidLooks := .later }
def AuthtokMakesCardSaid : Prop := Claim7.holds Tryd.pinned (.plain (OpenSpec.ofChange authtokMakesSpec)) authtokMakesCard

/-- THE TIED CARD OF 'blotterlaw10.AuthtokReads'. -/
def authtokReadsCard : Claim7 := { stood := { row := authtokReadsRow, standIns := [], harness := (true, "94fbaa93945537eebdefaaa68e8a6bc800e5e32c767aa9ab57191df1319d8dc4"), looks := false }, kinds := [], alts := [], laidByText := true, laidKinds := [.data], laidTests := true, laidLooks := .later }
def AuthtokReadsCardSaid : Prop := Claim7.holds Tryd.pinned (.plain (OpenSpec.ofChange authtokReadsSpec)) authtokReadsCard

/-- THE TIED CARD OF 'blotterlaw10.AuthtokBearer'. -/
def authtokBearerCard : Claim7 := { stood := { row := authtokBearerRow, standIns := [], harness := (true, "94fbaa93945537eebdefaaa68e8a6bc800e5e32c767aa9ab57191df1319d8dc4"), looks := false }, kinds := [], alts := [], laidByText := true, laidKinds := [.data], laidTests := true, laidLooks := .later }
def AuthtokBearerCardSaid : Prop := Claim7.holds Tryd.pinned (.plain (OpenSpec.ofChange authtokBearerSpec)) authtokBearerCard

/-- THE SECOND FORM's CARD OF 'blotterlaw10.AuthtokBack'. -/
def authtokBackUptoCard : Claim7 := { stood := { row := authtokBackUptoRow, standIns := [], harness := (true, "94fbaa93945537eebdefaaa68e8a6bc800e5e32c767aa9ab57191df1319d8dc4"), looks := false }, kinds := [], alts := [], laidByText := true, laidKinds := [.data], laidTests := true, laidLooks := .later }
def AuthtokBackUptoCardSaid : Prop := Claim7.holds Tryd.pinned (.plain (OpenSpec.upto authtokBackSpec)) authtokBackUptoCard

/-- THE SECOND FORM's CARD OF 'blotterlaw10.AuthtokOne'. -/
def authtokOneUptoCard : Claim7 := { stood := { row := authtokOneUptoRow, standIns := [], harness := (true, "94fbaa93945537eebdefaaa68e8a6bc800e5e32c767aa9ab57191df1319d8dc4"), looks := false }, kinds := [], alts := [], laidByText := true, laidKinds := [.data], laidTests := true, laidLooks := .later }
def AuthtokOneUptoCardSaid : Prop := Claim7.holds Tryd.pinned (.plain (OpenSpec.upto authtokOneSpec)) authtokOneUptoCard

/-- THE SECOND FORM's CARD OF 'blotterlaw10.AuthtokTimes'. -/
def authtokTimesUptoCard : Claim7 := { stood := { row := authtokTimesUptoRow, standIns := [], harness := (true, "94fbaa93945537eebdefaaa68e8a6bc800e5e32c767aa9ab57191df1319d8dc4"), looks := false }, kinds := [], alts := [], laidByText := true, laidKinds := [.data], laidTests := true, laidLooks := .later }
def AuthtokTimesUptoCardSaid : Prop := Claim7.holds Tryd.pinned (.plain (OpenSpec.upto authtokTimesSpec)) authtokTimesUptoCard

/-- THE SECOND FORM's CARD OF 'blotterlaw10.AuthtokSecrets'. -/
def authtokSecretsUptoCard : Claim7 := { stood := { row := authtokSecretsUptoRow, standIns := [], harness := (true, "94fbaa93945537eebdefaaa68e8a6bc800e5e32c767aa9ab57191df1319d8dc4"), looks := false }, kinds := [], alts := [], laidByText := true, laidKinds := [.data], laidTests := true, laidLooks := .later }
def AuthtokSecretsUptoCardSaid : Prop := Claim7.holds Tryd.pinned (.plain (OpenSpec.upto authtokSecretsSpec)) authtokSecretsUptoCard

/-- THE SECOND FORM's CARD OF 'blotterlaw10.AuthtokMakes'. -/
def authtokMakesUptoCard : Claim7 := { stood := { row := authtokMakesUptoRow, standIns := [], harness := (true, "94fbaa93945537eebdefaaa68e8a6bc800e5e32c767aa9ab57191df1319d8dc4"), looks := false }, kinds := [], alts := [], laidByText := true, laidKinds := [.data], laidTests := true, laidLooks := .later }
def AuthtokMakesUptoCardSaid : Prop := Claim7.holds Tryd.pinned (.plain (OpenSpec.upto authtokMakesSpec)) authtokMakesUptoCard

/-- THE SECOND FORM's CARD OF 'blotterlaw10.AuthtokReads'. -/
def authtokReadsUptoCard : Claim7 := { stood := { row := authtokReadsUptoRow, standIns := [], harness := (true, "94fbaa93945537eebdefaaa68e8a6bc800e5e32c767aa9ab57191df1319d8dc4"), looks := false }, kinds := [], alts := [], laidByText := true, laidKinds := [.data], laidTests := true, laidLooks := .later }
def AuthtokReadsUptoCardSaid : Prop := Claim7.holds Tryd.pinned (.plain (OpenSpec.upto authtokReadsSpec)) authtokReadsUptoCard

/-- THE SECOND FORM's CARD OF 'blotterlaw10.AuthtokBearer'. -/
def authtokBearerUptoCard : Claim7 := { stood := { row := authtokBearerUptoRow, standIns := [], harness := (true, "94fbaa93945537eebdefaaa68e8a6bc800e5e32c767aa9ab57191df1319d8dc4"), looks := false }, kinds := [], alts := [], laidByText := true, laidKinds := [.data], laidTests := true, laidLooks := .later }
def AuthtokBearerUptoCardSaid : Prop := Claim7.holds Tryd.pinned (.plain (OpenSpec.upto authtokBearerSpec)) authtokBearerUptoCard
end Rows
end Go.Proofs.YtcgenmogedndjaaDoor
