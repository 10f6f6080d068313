/-
  DERIVED. GIVEN WITH THE SEED: THE CARDS: each row of YtpdjiflbidjcbaaDoorRows.lean that lists a variable, with what it lists TIED to the program's text (the seventh form; the later family's looks); each row that meets fmt, with fmt's text TOLD by the authors' own Lean function (tested against real Go, not proved from fmt's source: count such statements apart). THE CARD IS WHAT COUNTS. Prove the row's statement (the work); the ties are given (YtpdjiflbidjcbaaDoorTie.lean); close each card by the builder's one call (the guide's Derived/Test/ToyasCard.lean, 'card_holds'). Laid BY PROGRAM, IN A SANDBOX (cutbox-door.mjs). By AI agents, Wed Nov 11 2026. No macro, syntax, notation, axiom, sorry.
-/
import Derived.Test.YtpdjiflbidjcbaaDoorRows
import GoSem.ClaimSeven
namespace Go.Proofs.YtpdjiflbidjcbaaDoor
namespace Rows

/-- THE TIED CARD OF 'annalslaw23.TilesPath'. -/
def tilesPathCard : Claim7 := { stood := { row := tilesPathRow, standIns := [], harness := (true, "8fb7f205cecb024641713ddbd17613a035cd6df36a4db66b39d2e9633cfebb66"), looks := false }, kinds := [], alts := [], laidByText := true, laidKinds := [.data, .data, .data], laidTests := true, laidLooks := .later }
def TilesPathCardSaid : Prop := Claim7.holds Tryd.pinned (.plain (OpenSpec.ofChange tilesPathSpec)) tilesPathCard

/-- THE SECOND FORM's CARD OF 'annalslaw23.TilesPath'. -/
def tilesPathUptoCard : Claim7 := { stood := { row := tilesPathUptoRow, standIns := [], harness := (true, "8fb7f205cecb024641713ddbd17613a035cd6df36a4db66b39d2e9633cfebb66"), looks := false }, kinds := [], alts := [], laidByText := true, laidKinds := [.data, .data, .data], laidTests := true, laidLooks := .later }
def TilesPathUptoCardSaid : Prop := Claim7.holds Tryd.pinned (.plain (OpenSpec.upto tilesPathSpec)) tilesPathUptoCard
end Rows
end Go.Proofs.YtpdjiflbidjcbaaDoor
