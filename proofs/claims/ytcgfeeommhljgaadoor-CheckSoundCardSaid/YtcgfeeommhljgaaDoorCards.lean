/-
  DERIVED. GIVEN WITH THE SEED: THE CARDS: each row of YtcgfeeommhljgaaDoorRows.lean that lists a variable, with what it lists TIED to the program's text (the seventh form; the later family's looks); each row that meets fmt, with fmt's text TOLD by the authors' own Lean function (tested against real Go, not proved from fmt's source: count such statements apart). THE CARD IS WHAT COUNTS. Prove the row's statement (the work); the ties are given (YtcgfeeommhljgaaDoorTie.lean); close each card by the builder's one call (the guide's Derived/Test/ToyasCard.lean, 'card_holds'). Laid BY PROGRAM, IN A SANDBOX (cutbox-door.mjs). By AI agents, Wed Nov 11 2026. No macro, syntax, notation, axiom, sorry.
-/
import Derived.Test.YtcgfeeommhljgaaDoorRows
import GoSem.ClaimSeven
namespace Go.Proofs.YtcgfeeommhljgaaDoor
namespace Rows

/-- THE TIED CARD OF 'annalslaw9.CheckInclusion'. -/
def checkInclusionCard : Claim7 := { stood := { row := checkInclusionRow, standIns := [], harness := (true, "4ac9d093d27c50a4a0e0ba72608158d8ab36303f4f1a52af572a7e496ded4174"), looks := false }, kinds := [], alts := [], laidByText := true, laidKinds := [.data, .data, .data, .data], laidTests := true, laidLooks := .later }
def CheckInclusionCardSaid : Prop := Claim7.holds Tryd.pinned (.plain (OpenSpec.ofChange checkInclusionSpec)) checkInclusionCard

/-- THE TIED CARD OF 'annalslaw9.CheckBuilt'. -/
def checkBuiltCard : Claim7 := { stood := { row := checkBuiltRow, standIns := [], harness := (true, "4ac9d093d27c50a4a0e0ba72608158d8ab36303f4f1a52af572a7e496ded4174"), looks := false }, kinds := [], alts := [], laidByText := true, laidKinds := [.data, .data], laidTests := true, laidLooks := .later }
def CheckBuiltCardSaid : Prop := Claim7.holds Tryd.pinned (.plain (OpenSpec.ofChange checkBuiltSpec)) checkBuiltCard

/-- THE TIED CARD OF 'annalslaw9.CheckMulti'. -/
def checkMultiCard : Claim7 := { stood := { row := checkMultiRow, standIns := [], harness := (true, "4ac9d093d27c50a4a0e0ba72608158d8ab36303f4f1a52af572a7e496ded4174"), looks := false }, kinds := [], alts := [], laidByText := true, laidKinds := [.data, .data, .data, .data], laidTests := true, laidLooks := .later }
def CheckMultiCardSaid : Prop := Claim7.holds Tryd.pinned (.plain (OpenSpec.ofChange checkMultiSpec)) checkMultiCard

/-- THE TIED CARD OF 'annalslaw9.CheckSound'. -/
def checkSoundCard : Claim7 := { stood := { row := checkSoundRow, standIns := [], harness := (true, "4ac9d093d27c50a4a0e0ba72608158d8ab36303f4f1a52af572a7e496ded4174"), looks := false }, kinds := [], alts := [], laidByText := true, laidKinds := [.data, .data], laidTests := true, laidLooks := .later }
def CheckSoundCardSaid : Prop := Claim7.holds Tryd.pinned (.plain (OpenSpec.ofChange checkSoundSpec)) checkSoundCard

/-- THE TIED CARD OF 'annalslaw9.CheckRange'. -/
def checkRangeCard : Claim7 := { stood := { row := checkRangeRow, standIns := [], harness := (true, "4ac9d093d27c50a4a0e0ba72608158d8ab36303f4f1a52af572a7e496ded4174"), looks := false }, kinds := [], alts := [], laidByText := true, laidKinds := [.data, .data, .data, .data], laidTests := true, laidLooks := .later }
def CheckRangeCardSaid : Prop := Claim7.holds Tryd.pinned (.plain (OpenSpec.ofChange checkRangeSpec)) checkRangeCard

/-- THE TIED CARD OF 'annalslaw9.CheckConsistency'. -/
def checkConsistencyCard : Claim7 := { stood := { row := checkConsistencyRow, standIns := [], harness := (true, "4ac9d093d27c50a4a0e0ba72608158d8ab36303f4f1a52af572a7e496ded4174"), looks := false }, kinds := [], alts := [], laidByText := true, laidKinds := [.data, .data, .data, .data], laidTests := true, laidLooks := .later }
def CheckConsistencyCardSaid : Prop := Claim7.holds Tryd.pinned (.plain (OpenSpec.ofChange checkConsistencySpec)) checkConsistencyCard

/-- THE TIED CARD OF 'annalslaw9.CheckComplete'. -/
def checkCompleteCard : Claim7 := { stood := { row := checkCompleteRow, standIns := [], harness := (true, "4ac9d093d27c50a4a0e0ba72608158d8ab36303f4f1a52af572a7e496ded4174"), looks := false }, kinds := [], alts := [], laidByText := true, laidKinds := [.data, .data], laidTests := true, laidLooks := .later }
def CheckCompleteCardSaid : Prop := Claim7.holds Tryd.pinned (.plain (OpenSpec.ofChange checkCompleteSpec)) checkCompleteCard

/-- THE SECOND FORM's CARD OF 'annalslaw9.CheckInclusion'. -/
def checkInclusionUptoCard : Claim7 := { stood := { row := checkInclusionUptoRow, standIns := [], harness := (true, "4ac9d093d27c50a4a0e0ba72608158d8ab36303f4f1a52af572a7e496ded4174"), looks := false }, kinds := [], alts := [], laidByText := true, laidKinds := [.data, .data, .data, .data], laidTests := true, laidLooks := .later }
def CheckInclusionUptoCardSaid : Prop := Claim7.holds Tryd.pinned (.plain (OpenSpec.upto checkInclusionSpec)) checkInclusionUptoCard

/-- THE SECOND FORM's CARD OF 'annalslaw9.CheckBuilt'. -/
def checkBuiltUptoCard : Claim7 := { stood := { row := checkBuiltUptoRow, standIns := [], harness := (true, "4ac9d093d27c50a4a0e0ba72608158d8ab36303f4f1a52af572a7e496ded4174"), looks := false }, kinds := [], alts := [], laidByText := true, laidKinds := [.data, .data], laidTests := true, laidLooks := .later }
def CheckBuiltUptoCardSaid : Prop := Claim7.holds Tryd.pinned (.plain (OpenSpec.upto checkBuiltSpec)) checkBuiltUptoCard

/-- THE SECOND FORM's CARD OF 'annalslaw9.CheckMulti'. -/
def checkMultiUptoCard : Claim7 := { stood := { row := checkMultiUptoRow, standIns := [], harness := (true, "4ac9d093d27c50a4a0e0ba72608158d8ab36303f4f1a52af572a7e496ded4174"), looks := false }, kinds := [], alts := [], laidByText := true, laidKinds := [.data, .data, .data, .data], laidTests := true, laidLooks := .later }
def CheckMultiUptoCardSaid : Prop := Claim7.holds Tryd.pinned (.plain (OpenSpec.upto checkMultiSpec)) checkMultiUptoCard

/-- THE SECOND FORM's CARD OF 'annalslaw9.CheckSound'. -/
def checkSoundUptoCard : Claim7 := { stood := { row := checkSoundUptoRow, standIns := [], harness := (true, "4ac9d093d27c50a4a0e0ba72608158d8ab36303f4f1a52af572a7e496ded4174"), looks := false }, kinds := [], alts := [], laidByText := true, laidKinds := [.data, .data], laidTests := true, laidLooks := .later }
def CheckSoundUptoCardSaid : Prop := Claim7.holds Tryd.pinned (.plain (OpenSpec.upto checkSoundSpec)) checkSoundUptoCard

/-- THE SECOND FORM's CARD OF 'annalslaw9.CheckRange'. -/
def checkRangeUptoCard : Claim7 := { stood := { row := checkRangeUptoRow, standIns := [], harness := (true, "4ac9d093d27c50a4a0e0ba72608158d8ab36303f4f1a52af572a7e496ded4174"), looks := false }, kinds := [], alts := [], laidByText := true, laidKinds := [.data, .data, .data, .data], laidTests := true, laidLooks := .later }
def CheckRangeUptoCardSaid : Prop := Claim7.holds Tryd.pinned (.plain (OpenSpec.upto checkRangeSpec)) checkRangeUptoCard

/-- THE SECOND FORM's CARD OF 'annalslaw9.CheckConsistency'. -/
def checkConsistencyUptoCard : Claim7 := { stood := { row := checkConsistencyUptoRow, standIns := [], harness := (true, "4ac9d093d27c50a4a0e0ba72608158d8ab36303f4f1a52af572a7e496ded4174"), looks := false }, kinds := [], alts := [], laidByText := true, laidKinds := [.data, .data, .data, .data], laidTests := true, laidLooks := .later }
def CheckConsistencyUptoCardSaid : Prop := Claim7.holds Tryd.pinned (.plain (OpenSpec.upto checkConsistencySpec)) checkConsistencyUptoCard

/-- THE SECOND FORM's CARD OF 'annalslaw9.CheckComplete'. -/
def checkCompleteUptoCard : Claim7 := { stood := { row := checkCompleteUptoRow, standIns := [], harness := (true, "4ac9d093d27c50a4a0e0ba72608158d8ab36303f4f1a52af572a7e496ded4174"), looks := false }, kinds := [], alts := [], laidByText := true, laidKinds := [.data, .data], laidTests := true, laidLooks := .later }
def CheckCompleteUptoCardSaid : Prop := Claim7.holds Tryd.pinned (.plain (OpenSpec.upto checkCompleteSpec)) checkCompleteUptoCard
end Rows
end Go.Proofs.YtcgfeeommhljgaaDoor
