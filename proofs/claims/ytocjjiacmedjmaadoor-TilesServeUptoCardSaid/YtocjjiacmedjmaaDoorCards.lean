/-
  DERIVED. GIVEN WITH THE SEED: THE CARDS: each row of YtocjjiacmedjmaaDoorRows.lean that lists a variable, with what it lists TIED to the program's text (the seventh form; the later family's looks); each row that meets fmt, with fmt's text TOLD by the authors' own Lean function (tested against real Go, not proved from fmt's source: count such statements apart). THE CARD IS WHAT COUNTS. Prove the row's statement (the work); the ties are given (YtocjjiacmedjmaaDoorTie.lean); close each card by the builder's one call (the guide's Derived/Test/ToyasCard.lean, 'card_holds'). Laid BY PROGRAM, IN A SANDBOX (cutbox-door.mjs). By AI agents, Wed Nov 11 2026. No macro, syntax, notation, axiom, sorry.
-/
import Derived.Test.YtocjjiacmedjmaaDoorRows
import GoSem.ClaimSeven
namespace Go.Proofs.YtocjjiacmedjmaaDoor
namespace Rows

/-- THE TIED CARD OF 'annalslaw23.TilesParse'. -/
def tilesParseCard : Claim7 := { stood := { row := tilesParseRow, standIns := [], harness := (true, "99e94bf31668a48ceba0bcc2214de0df943609e1d63f4e23b51fc5646111475f"), looks := true }, kinds := [], alts := [], laidByText := true, laidKinds := [.data, .data, .data, .data, .sentinel, .sentinel, .pinned], laidTests := true, laidLooks := .later }
def TilesParseCardSaid : Prop := Claim7.holds Tryd.pinned (.plain (OpenSpec.ofChange tilesParseSpec)) tilesParseCard

/-- THE TIED CARD OF 'annalslaw23.TilesBack'. -/
def tilesBackCard : Claim7 := { stood := { row := tilesBackRow, standIns := [], harness := (true, "99e94bf31668a48ceba0bcc2214de0df943609e1d63f4e23b51fc5646111475f"), looks := true }, kinds := [], alts := [], laidByText := true, laidKinds := [.data, .data, .data, .data, .sentinel, .sentinel, .pinned], laidTests := true, laidLooks := .later }
def TilesBackCardSaid : Prop := Claim7.holds Tryd.pinned (.plain (OpenSpec.ofChange tilesBackSpec)) tilesBackCard

/-- THE TIED CARD OF 'annalslaw23.TilesServe'. -/
def tilesServeCard : Claim7 := { stood := { row := tilesServeRow, standIns := [], harness := (true, "99e94bf31668a48ceba0bcc2214de0df943609e1d63f4e23b51fc5646111475f"), looks := true }, kinds := [], alts := [], laidByText := true, laidKinds := [.data, .data, .data, .data, .data], laidTests := true, laidLooks := .later }
def TilesServeCardSaid : Prop := Claim7.holds Tryd.pinned (.plain (OpenSpec.ofChange tilesServeSpec)) tilesServeCard

/-- THE TIED CARD OF 'annalslaw8.ProveOf'. -/
def proveOfCard : Claim7 := { stood := { row := proveOfRow, standIns := [], harness := (true, "99e94bf31668a48ceba0bcc2214de0df943609e1d63f4e23b51fc5646111475f"), looks := true }, kinds := [], alts := [], laidByText := true, laidKinds := [.data, .data, .data, .data, .data, .data, .data], laidTests := true, laidLooks := .later }
def ProveOfCardSaid : Prop := Claim7.holds Tryd.pinned (.plain (OpenSpec.ofChange proveOfSpec)) proveOfCard

/-- THE SECOND FORM's CARD OF 'annalslaw23.TilesParse'. -/
def tilesParseUptoCard : Claim7 := { stood := { row := tilesParseUptoRow, standIns := [], harness := (true, "99e94bf31668a48ceba0bcc2214de0df943609e1d63f4e23b51fc5646111475f"), looks := true }, kinds := [], alts := [], laidByText := true, laidKinds := [.data, .data, .data, .data, .sentinel, .sentinel, .pinned], laidTests := true, laidLooks := .later }
def TilesParseUptoCardSaid : Prop := Claim7.holds Tryd.pinned (.plain (OpenSpec.upto tilesParseSpec)) tilesParseUptoCard

/-- THE SECOND FORM's CARD OF 'annalslaw23.TilesBack'. -/
def tilesBackUptoCard : Claim7 := { stood := { row := tilesBackUptoRow, standIns := [], harness := (true, "99e94bf31668a48ceba0bcc2214de0df943609e1d63f4e23b51fc5646111475f"), looks := true }, kinds := [], alts := [], laidByText := true, laidKinds := [.data, .data, .data, .data, .sentinel, .sentinel, .pinned], laidTests := true, laidLooks := .later }
def TilesBackUptoCardSaid : Prop := Claim7.holds Tryd.pinned (.plain (OpenSpec.upto tilesBackSpec)) tilesBackUptoCard

/-- THE SECOND FORM's CARD OF 'annalslaw23.TilesServe'. -/
def tilesServeUptoCard : Claim7 := { stood := { row := tilesServeUptoRow, standIns := [], harness := (true, "99e94bf31668a48ceba0bcc2214de0df943609e1d63f4e23b51fc5646111475f"), looks := true }, kinds := [], alts := [], laidByText := true, laidKinds := [.data, .data, .data, .data, .data], laidTests := true, laidLooks := .later }
def TilesServeUptoCardSaid : Prop := Claim7.holds Tryd.pinned (.plain (OpenSpec.upto tilesServeSpec)) tilesServeUptoCard

/-- THE SECOND FORM's CARD OF 'annalslaw8.ProveOf'. -/
def proveOfUptoCard : Claim7 := { stood := { row := proveOfUptoRow, standIns := [], harness := (true, "99e94bf31668a48ceba0bcc2214de0df943609e1d63f4e23b51fc5646111475f"), looks := true }, kinds := [], alts := [], laidByText := true, laidKinds := [.data, .data, .data, .data, .data, .data, .data], laidTests := true, laidLooks := .later }
def ProveOfUptoCardSaid : Prop := Claim7.holds Tryd.pinned (.plain (OpenSpec.upto proveOfSpec)) proveOfUptoCard
end Rows
end Go.Proofs.YtocjjiacmedjmaaDoor
