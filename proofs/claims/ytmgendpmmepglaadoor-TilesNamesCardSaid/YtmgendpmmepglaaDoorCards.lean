/-
  DERIVED. GIVEN WITH THE SEED: THE CARDS: each row of YtmgendpmmepglaaDoorRows.lean that lists a variable, with what it lists TIED to the program's text (the seventh form; the later family's looks); each row that meets fmt, with fmt's text TOLD by the authors' own Lean function (tested against real Go, not proved from fmt's source: count such statements apart). THE CARD IS WHAT COUNTS. Prove the row's statement (the work); the ties are given (YtmgendpmmepglaaDoorTie.lean); close each card by the builder's one call (the guide's Derived/Test/ToyasCard.lean, 'card_holds'). Laid BY PROGRAM, IN A SANDBOX (cutbox-door.mjs). By AI agents, Wed Nov 11 2026. No macro, syntax, notation, axiom, sorry.
-/
import Derived.Test.YtmgendpmmepglaaDoorRows
import GoSem.ClaimSeven
namespace Go.Proofs.YtmgendpmmepglaaDoor
namespace Rows

/-- THE TIED CARD OF 'annalslaw23.TilesNames'. -/
def tilesNamesCard : Claim7 := { stood := { row := tilesNamesRow, standIns := [], harness := (true, "b9cb8573d8370c3e84f52c2041bdaa8ee05b760d80e029f577dda9ae0f5f8ee8"), looks := false }, kinds := [], alts := [], laidByText := true, laidKinds := [.data, .data, .data, .data, .data], laidTests := true, laidLooks := .later }
def TilesNamesCardSaid : Prop := Claim7.holds Tryd.pinned (.plain (OpenSpec.ofChange tilesNamesSpec)) tilesNamesCard

/-- THE TIED CARD OF 'annalslaw8.ProveNames'. -/
def proveNamesCard : Claim7 := { stood := { row := proveNamesRow, standIns := [], harness := (true, "b9cb8573d8370c3e84f52c2041bdaa8ee05b760d80e029f577dda9ae0f5f8ee8"), looks := false }, kinds := [], alts := [], laidByText := true, laidKinds := [.data, .data], laidTests := true, laidLooks := .later }
def ProveNamesCardSaid : Prop := Claim7.holds Tryd.pinned (.plain (OpenSpec.ofChange proveNamesSpec)) proveNamesCard

/-- THE SECOND FORM's CARD OF 'annalslaw23.TilesNames'. -/
def tilesNamesUptoCard : Claim7 := { stood := { row := tilesNamesUptoRow, standIns := [], harness := (true, "b9cb8573d8370c3e84f52c2041bdaa8ee05b760d80e029f577dda9ae0f5f8ee8"), looks := false }, kinds := [], alts := [], laidByText := true, laidKinds := [.data, .data, .data, .data, .data], laidTests := true, laidLooks := .later }
def TilesNamesUptoCardSaid : Prop := Claim7.holds Tryd.pinned (.plain (OpenSpec.upto tilesNamesSpec)) tilesNamesUptoCard

/-- THE SECOND FORM's CARD OF 'annalslaw8.ProveNames'. -/
def proveNamesUptoCard : Claim7 := { stood := { row := proveNamesUptoRow, standIns := [], harness := (true, "b9cb8573d8370c3e84f52c2041bdaa8ee05b760d80e029f577dda9ae0f5f8ee8"), looks := false }, kinds := [], alts := [], laidByText := true, laidKinds := [.data, .data], laidTests := true, laidLooks := .later }
def ProveNamesUptoCardSaid : Prop := Claim7.holds Tryd.pinned (.plain (OpenSpec.upto proveNamesSpec)) proveNamesUptoCard
end Rows
end Go.Proofs.YtmgendpmmepglaaDoor
