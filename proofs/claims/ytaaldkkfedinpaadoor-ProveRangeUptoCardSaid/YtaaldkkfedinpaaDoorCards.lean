/-
  DERIVED. GIVEN WITH THE SEED: THE CARDS: each row of YtaaldkkfedinpaaDoorRows.lean that lists a variable, with what it lists TIED to the program's text (the seventh form; the later family's looks); each row that meets fmt, with fmt's text TOLD by the authors' own Lean function (tested against real Go, not proved from fmt's source: count such statements apart). THE CARD IS WHAT COUNTS. Prove the row's statement (the work); the ties are given (YtaaldkkfedinpaaDoorTie.lean); close each card by the builder's one call (the guide's Derived/Test/ToyasCard.lean, 'card_holds'). Laid BY PROGRAM, IN A SANDBOX (cutbox-door.mjs). By AI agents, Wed Nov 11 2026. No macro, syntax, notation, axiom, sorry.
-/
import Derived.Test.YtaaldkkfedinpaaDoorRows
import GoSem.ClaimSeven
namespace Go.Proofs.YtaaldkkfedinpaaDoor
namespace Rows

/-- THE TIED CARD OF 'annalslaw23.TilesParse'. -/
def tilesParseCard : Claim7 := { stood := { row := tilesParseRow, standIns := [], harness := (true, "d763a210e44a5f7baa3d543e50cef532ce188fd6e39217873840444618f1badb"), looks := true }, kinds := [], alts := [], laidByText := true, laidKinds := [.data, .data, .data, .data, .sentinel, .sentinel, .pinned], laidTests := true, laidLooks := .later }
def TilesParseCardSaid : Prop := Claim7.holds Tryd.pinned (.plain (OpenSpec.ofChange tilesParseSpec)) tilesParseCard

/-- THE TIED CARD OF 'annalslaw23.TilesBack'. -/
def tilesBackCard : Claim7 := { stood := { row := tilesBackRow, standIns := [], harness := (true, "d763a210e44a5f7baa3d543e50cef532ce188fd6e39217873840444618f1badb"), looks := true }, kinds := [], alts := [], laidByText := true, laidKinds := [.data, .data, .data, .data, .sentinel, .sentinel, .pinned], laidTests := true, laidLooks := .later }
def TilesBackCardSaid : Prop := Claim7.holds Tryd.pinned (.plain (OpenSpec.ofChange tilesBackSpec)) tilesBackCard

/-- THE TIED CARD OF 'annalslaw8.ProveRoot'. -/
def proveRootCard : Claim7 := { stood := { row := proveRootRow, standIns := [], harness := (true, "d763a210e44a5f7baa3d543e50cef532ce188fd6e39217873840444618f1badb"), looks := true }, kinds := [], alts := [], laidByText := true, laidKinds := [.data, .data, .data, .data, .data, .data, .data], laidTests := true, laidLooks := .later }
def ProveRootCardSaid : Prop := Claim7.holds Tryd.pinned (.plain (OpenSpec.ofChange proveRootSpec)) proveRootCard

/-- THE TIED CARD OF 'annalslaw8.ProveInclusion'. -/
def proveInclusionCard : Claim7 := { stood := { row := proveInclusionRow, standIns := [], harness := (true, "d763a210e44a5f7baa3d543e50cef532ce188fd6e39217873840444618f1badb"), looks := true }, kinds := [], alts := [], laidByText := true, laidKinds := [.data, .data, .data, .data, .data, .data, .data], laidTests := true, laidLooks := .later }
def ProveInclusionCardSaid : Prop := Claim7.holds Tryd.pinned (.plain (OpenSpec.ofChange proveInclusionSpec)) proveInclusionCard

/-- THE TIED CARD OF 'annalslaw8.ProveConsistency'. -/
def proveConsistencyCard : Claim7 := { stood := { row := proveConsistencyRow, standIns := [], harness := (true, "d763a210e44a5f7baa3d543e50cef532ce188fd6e39217873840444618f1badb"), looks := true }, kinds := [], alts := [], laidByText := true, laidKinds := [.data, .data, .data, .data, .data, .data, .data], laidTests := true, laidLooks := .later }
def ProveConsistencyCardSaid : Prop := Claim7.holds Tryd.pinned (.plain (OpenSpec.ofChange proveConsistencySpec)) proveConsistencyCard

/-- THE TIED CARD OF 'annalslaw8.ProveRange'. -/
def proveRangeCard : Claim7 := { stood := { row := proveRangeRow, standIns := [], harness := (true, "d763a210e44a5f7baa3d543e50cef532ce188fd6e39217873840444618f1badb"), looks := true }, kinds := [], alts := [], laidByText := true, laidKinds := [.data, .data, .data, .data, .data, .data, .data], laidTests := true, laidLooks := .later }
def ProveRangeCardSaid : Prop := Claim7.holds Tryd.pinned (.plain (OpenSpec.ofChange proveRangeSpec)) proveRangeCard

/-- THE TIED CARD OF 'annalslaw8.ProveMulti'. -/
def proveMultiCard : Claim7 := { stood := { row := proveMultiRow, standIns := [], harness := (true, "d763a210e44a5f7baa3d543e50cef532ce188fd6e39217873840444618f1badb"), looks := true }, kinds := [], alts := [], laidByText := true, laidKinds := [.data, .data, .data, .data, .data, .data, .data], laidTests := true, laidLooks := .later }
def ProveMultiCardSaid : Prop := Claim7.holds Tryd.pinned (.plain (OpenSpec.ofChange proveMultiSpec)) proveMultiCard

/-- THE SECOND FORM's CARD OF 'annalslaw23.TilesParse'. -/
def tilesParseUptoCard : Claim7 := { stood := { row := tilesParseUptoRow, standIns := [], harness := (true, "d763a210e44a5f7baa3d543e50cef532ce188fd6e39217873840444618f1badb"), looks := true }, kinds := [], alts := [], laidByText := true, laidKinds := [.data, .data, .data, .data, .sentinel, .sentinel, .pinned], laidTests := true, laidLooks := .later }
def TilesParseUptoCardSaid : Prop := Claim7.holds Tryd.pinned (.plain (OpenSpec.upto tilesParseSpec)) tilesParseUptoCard

/-- THE SECOND FORM's CARD OF 'annalslaw23.TilesBack'. -/
def tilesBackUptoCard : Claim7 := { stood := { row := tilesBackUptoRow, standIns := [], harness := (true, "d763a210e44a5f7baa3d543e50cef532ce188fd6e39217873840444618f1badb"), looks := true }, kinds := [], alts := [], laidByText := true, laidKinds := [.data, .data, .data, .data, .sentinel, .sentinel, .pinned], laidTests := true, laidLooks := .later }
def TilesBackUptoCardSaid : Prop := Claim7.holds Tryd.pinned (.plain (OpenSpec.upto tilesBackSpec)) tilesBackUptoCard

/-- THE SECOND FORM's CARD OF 'annalslaw8.ProveRoot'. -/
def proveRootUptoCard : Claim7 := { stood := { row := proveRootUptoRow, standIns := [], harness := (true, "d763a210e44a5f7baa3d543e50cef532ce188fd6e39217873840444618f1badb"), looks := true }, kinds := [], alts := [], laidByText := true, laidKinds := [.data, .data, .data, .data, .data, .data, .data], laidTests := true, laidLooks := .later }
def ProveRootUptoCardSaid : Prop := Claim7.holds Tryd.pinned (.plain (OpenSpec.upto proveRootSpec)) proveRootUptoCard

/-- THE SECOND FORM's CARD OF 'annalslaw8.ProveInclusion'. -/
def proveInclusionUptoCard : Claim7 := { stood := { row := proveInclusionUptoRow, standIns := [], harness := (true, "d763a210e44a5f7baa3d543e50cef532ce188fd6e39217873840444618f1badb"), looks := true }, kinds := [], alts := [], laidByText := true, laidKinds := [.data, .data, .data, .data, .data, .data, .data], laidTests := true, laidLooks := .later }
def ProveInclusionUptoCardSaid : Prop := Claim7.holds Tryd.pinned (.plain (OpenSpec.upto proveInclusionSpec)) proveInclusionUptoCard

/-- THE SECOND FORM's CARD OF 'annalslaw8.ProveConsistency'. -/
def proveConsistencyUptoCard : Claim7 := { stood := { row := proveConsistencyUptoRow, standIns := [], harness := (true, "d763a210e44a5f7baa3d543e50cef532ce188fd6e39217873840444618f1badb"), looks := true }, kinds := [], alts := [], laidByText := true, laidKinds := [.data, .data, .data, .data, .data, .data, .data], laidTests := true, laidLooks := .later }
def ProveConsistencyUptoCardSaid : Prop := Claim7.holds Tryd.pinned (.plain (OpenSpec.upto proveConsistencySpec)) proveConsistencyUptoCard

/-- THE SECOND FORM's CARD OF 'annalslaw8.ProveRange'. -/
def proveRangeUptoCard : Claim7 := { stood := { row := proveRangeUptoRow, standIns := [], harness := (true, "d763a210e44a5f7baa3d543e50cef532ce188fd6e39217873840444618f1badb"), looks := true }, kinds := [], alts := [], laidByText := true, laidKinds := [.data, .data, .data, .data, .data, .data, .data], laidTests := true, laidLooks := .later }
def ProveRangeUptoCardSaid : Prop := Claim7.holds Tryd.pinned (.plain (OpenSpec.upto proveRangeSpec)) proveRangeUptoCard

/-- THE SECOND FORM's CARD OF 'annalslaw8.ProveMulti'. -/
def proveMultiUptoCard : Claim7 := { stood := { row := proveMultiUptoRow, standIns := [], harness := (true, "d763a210e44a5f7baa3d543e50cef532ce188fd6e39217873840444618f1badb"), looks := true }, kinds := [], alts := [], laidByText := true, laidKinds := [.data, .data, .data, .data, .data, .data, .data], laidTests := true, laidLooks := .later }
def ProveMultiUptoCardSaid : Prop := Claim7.holds Tryd.pinned (.plain (OpenSpec.upto proveMultiSpec)) proveMultiUptoCard
end Rows
end Go.Proofs.YtaaldkkfedinpaaDoor
