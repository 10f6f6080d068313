/-
  NARROWER THAN 'FOR EVERY INPUT', by the rows' own cells (each row's printed sentence says how): CheckInclusion: laid · CheckBuilt: laid · CheckMulti: laid · CheckSound: laid · CheckRange: laid · CheckConsistency: laid · CheckComplete: laid.
  DERIVED. THE GIVEN ROWS OF THIS SEAT. 7 by the template 'for every input the law returns true; each argument reads behind the call as it read before'; 0 by the template 'total and deterministic' (their statements: YtcgfeeommhljgaaDoorTotals.lean).
  GIVEN WITH THE SEED: the statements are not yours to turn. If you find one false, say at which input.
  Laid BY PROGRAM, IN A SANDBOX (cutbox-rows.mjs): the forced cells as the released guide's own fill.sh prints them over the translation a3ea23586ad155e5… (all of the seat's roots in one cut). By AI agents, Wed Nov 11 2026. No macro, syntax, notation, axiom, sorry.
-/
import Derived.Test.YtcgfeeommhljgaaDoorChecked
import GoSem.Claim
import GoSem.ClaimJoined
import GoSem.ClaimMapViews
import Derived.JoinedTies
import Derived.KernelRfl
namespace Go.Proofs.YtcgfeeommhljgaaDoor
/- THE CELL 'sum', in the pinned program and in every row, IS THE sha256 OF THE DUMP (.gsa) THAT YtcgfeeommhljgaaDoorProg.lean LOADS. Nothing in Lean hashes anything: it is a label: what it is worth is what the hold of that sum in a sandbox is worth. -/
noncomputable def Tryd.pinned : Pinned := { name := "ytcgfeeommhljgaadoor", sum := "a3ea23586ad155e52c511d5ea061d30f5496cc7b60b69736a419904dd1f2ea8d", checked := Tryd.checked }
namespace Rows
def none {H : Type} : Left H := { results := [], args := [] }

/- WHAT THE LISTED PACKAGE-LEVEL VARIABLES READ AS WHEN THE CALL BEGINS. Each datum BY PROGRAM (the guide's laid-datum.mjs) off the statement by which the dump's own 'gosem.cut.vars' lays the variable. In a bare row this is a premise. The card (YtcgfeeommhljgaaDoorCards.lean) ties it to the program's text. -/
def laid_annals_annalsref2_first {H : Type} : DataW H := .agg [.lit (.int .u32 1779033703), .lit (.int .u32 3144134277), .lit (.int .u32 1013904242), .lit (.int .u32 2773480762), .lit (.int .u32 1359893119), .lit (.int .u32 2600822924), .lit (.int .u32 528734635), .lit (.int .u32 1541459225)]
def laid_annals_annalsref2_table {H : Type} : DataW H := .agg [.lit (.int .u32 1116352408), .lit (.int .u32 1899447441), .lit (.int .u32 3049323471), .lit (.int .u32 3921009573), .lit (.int .u32 961987163), .lit (.int .u32 1508970993), .lit (.int .u32 2453635748), .lit (.int .u32 2870763221), .lit (.int .u32 3624381080), .lit (.int .u32 310598401), .lit (.int .u32 607225278), .lit (.int .u32 1426881987), .lit (.int .u32 1925078388), .lit (.int .u32 2162078206), .lit (.int .u32 2614888103), .lit (.int .u32 3248222580), .lit (.int .u32 3835390401), .lit (.int .u32 4022224774), .lit (.int .u32 264347078), .lit (.int .u32 604807628), .lit (.int .u32 770255983), .lit (.int .u32 1249150122), .lit (.int .u32 1555081692), .lit (.int .u32 1996064986), .lit (.int .u32 2554220882), .lit (.int .u32 2821834349), .lit (.int .u32 2952996808), .lit (.int .u32 3210313671), .lit (.int .u32 3336571891), .lit (.int .u32 3584528711), .lit (.int .u32 113926993), .lit (.int .u32 338241895), .lit (.int .u32 666307205), .lit (.int .u32 773529912), .lit (.int .u32 1294757372), .lit (.int .u32 1396182291), .lit (.int .u32 1695183700), .lit (.int .u32 1986661051), .lit (.int .u32 2177026350), .lit (.int .u32 2456956037), .lit (.int .u32 2730485921), .lit (.int .u32 2820302411), .lit (.int .u32 3259730800), .lit (.int .u32 3345764771), .lit (.int .u32 3516065817), .lit (.int .u32 3600352804), .lit (.int .u32 4094571909), .lit (.int .u32 275423344), .lit (.int .u32 430227734), .lit (.int .u32 506948616), .lit (.int .u32 659060556), .lit (.int .u32 883997877), .lit (.int .u32 958139571), .lit (.int .u32 1322822218), .lit (.int .u32 1537002063), .lit (.int .u32 1747873779), .lit (.int .u32 1955562222), .lit (.int .u32 2024104815), .lit (.int .u32 2227730452), .lit (.int .u32 2361852424), .lit (.int .u32 2428436474), .lit (.int .u32 2756734187), .lit (.int .u32 3204031479), .lit (.int .u32 3329325298)]
def laid_annals_sha_begin {H : Type} : DataW H := .agg [.lit (.int .u32 1779033703), .lit (.int .u32 3144134277), .lit (.int .u32 1013904242), .lit (.int .u32 2773480762), .lit (.int .u32 1359893119), .lit (.int .u32 2600822924), .lit (.int .u32 528734635), .lit (.int .u32 1541459225)]
def laid_annals_sha_table {H : Type} : DataW H := .agg [.lit (.int .u32 1116352408), .lit (.int .u32 1899447441), .lit (.int .u32 3049323471), .lit (.int .u32 3921009573), .lit (.int .u32 961987163), .lit (.int .u32 1508970993), .lit (.int .u32 2453635748), .lit (.int .u32 2870763221), .lit (.int .u32 3624381080), .lit (.int .u32 310598401), .lit (.int .u32 607225278), .lit (.int .u32 1426881987), .lit (.int .u32 1925078388), .lit (.int .u32 2162078206), .lit (.int .u32 2614888103), .lit (.int .u32 3248222580), .lit (.int .u32 3835390401), .lit (.int .u32 4022224774), .lit (.int .u32 264347078), .lit (.int .u32 604807628), .lit (.int .u32 770255983), .lit (.int .u32 1249150122), .lit (.int .u32 1555081692), .lit (.int .u32 1996064986), .lit (.int .u32 2554220882), .lit (.int .u32 2821834349), .lit (.int .u32 2952996808), .lit (.int .u32 3210313671), .lit (.int .u32 3336571891), .lit (.int .u32 3584528711), .lit (.int .u32 113926993), .lit (.int .u32 338241895), .lit (.int .u32 666307205), .lit (.int .u32 773529912), .lit (.int .u32 1294757372), .lit (.int .u32 1396182291), .lit (.int .u32 1695183700), .lit (.int .u32 1986661051), .lit (.int .u32 2177026350), .lit (.int .u32 2456956037), .lit (.int .u32 2730485921), .lit (.int .u32 2820302411), .lit (.int .u32 3259730800), .lit (.int .u32 3345764771), .lit (.int .u32 3516065817), .lit (.int .u32 3600352804), .lit (.int .u32 4094571909), .lit (.int .u32 275423344), .lit (.int .u32 430227734), .lit (.int .u32 506948616), .lit (.int .u32 659060556), .lit (.int .u32 883997877), .lit (.int .u32 958139571), .lit (.int .u32 1322822218), .lit (.int .u32 1537002063), .lit (.int .u32 1747873779), .lit (.int .u32 1955562222), .lit (.int .u32 2024104815), .lit (.int .u32 2227730452), .lit (.int .u32 2361852424), .lit (.int .u32 2428436474), .lit (.int .u32 2756734187), .lit (.int .u32 3204031479), .lit (.int .u32 3329325298)]

/-- 'annalslaw9.CheckInclusion': WHATEVER THE INPUT: true; the input reads as it did. -/
def checkInclusionSpec : ChangeSpec := { name := "checkInclusion", fn := fun _ => fun
  | [d1, d2, d3, d4, d5, d6] => { results := [.lit (.bool true)], args := [d1, d2, d3, d4, d5, d6] }
  | _ => none }
def checkInclusionRow : OpenClaim := { program := "ytcgfeeommhljgaadoor", sum := "a3ea23586ad155e52c511d5ea061d30f5496cc7b60b69736a419904dd1f2ea8d", func := "annals/annalslaw9.CheckInclusion", spec := "checkInclusion", inPlace := ["internal/abi.NoEscape", "internal/bytealg.MakeNoZero"], unfollowed := true, recurses := true, named := ["annals/sha.begin", "annals/sha.table", "annals/annalsref2.first", "annals/annalsref2.table"], apart := false, laid := [("annals/annalsref2.first", laid_annals_annalsref2_first), ("annals/annalsref2.table", laid_annals_annalsref2_table), ("annals/sha.begin", laid_annals_sha_begin), ("annals/sha.table", laid_annals_sha_table)] }
def CheckInclusionSaid : Prop := checkInclusionRow.holds Tryd.pinned (OpenSpec.ofChange checkInclusionSpec)

/-- ITS FALSE NEIGHBOUR: 'it returns false'. Refute it at one input. -/
def checkInclusionWrong : ChangeSpec := { name := "checkInclusion", fn := fun _ => fun
  | [d1, d2, d3, d4, d5, d6] => { results := [.lit (.bool false)], args := [d1, d2, d3, d4, d5, d6] }
  | _ => none }
def CheckInclusionWrongFalsely : Prop := checkInclusionRow.holds Tryd.pinned (OpenSpec.ofChange checkInclusionWrong)

/-- 'annalslaw9.CheckBuilt': WHATEVER THE INPUT: true; the input reads as it did. -/
def checkBuiltSpec : ChangeSpec := { name := "checkBuilt", fn := fun _ => fun
  | [d1, d2, d3, d4, d5] => { results := [.lit (.bool true)], args := [d1, d2, d3, d4, d5] }
  | _ => none }
def checkBuiltRow : OpenClaim := { program := "ytcgfeeommhljgaadoor", sum := "a3ea23586ad155e52c511d5ea061d30f5496cc7b60b69736a419904dd1f2ea8d", func := "annals/annalslaw9.CheckBuilt", spec := "checkBuilt", inPlace := ["internal/abi.NoEscape", "internal/bytealg.MakeNoZero"], unfollowed := true, recurses := true, named := ["annals/sha.begin", "annals/sha.table"], apart := false, laid := [("annals/sha.begin", laid_annals_sha_begin), ("annals/sha.table", laid_annals_sha_table)] }
def CheckBuiltSaid : Prop := checkBuiltRow.holds Tryd.pinned (OpenSpec.ofChange checkBuiltSpec)

/-- ITS FALSE NEIGHBOUR: 'it returns false'. Refute it at one input. -/
def checkBuiltWrong : ChangeSpec := { name := "checkBuilt", fn := fun _ => fun
  | [d1, d2, d3, d4, d5] => { results := [.lit (.bool false)], args := [d1, d2, d3, d4, d5] }
  | _ => none }
def CheckBuiltWrongFalsely : Prop := checkBuiltRow.holds Tryd.pinned (OpenSpec.ofChange checkBuiltWrong)

/-- 'annalslaw9.CheckMulti': WHATEVER THE INPUT: true; the input reads as it did. -/
def checkMultiSpec : ChangeSpec := { name := "checkMulti", fn := fun _ => fun
  | [d1, d2, d3, d4, d5, d6] => { results := [.lit (.bool true)], args := [d1, d2, d3, d4, d5, d6] }
  | _ => none }
def checkMultiRow : OpenClaim := { program := "ytcgfeeommhljgaadoor", sum := "a3ea23586ad155e52c511d5ea061d30f5496cc7b60b69736a419904dd1f2ea8d", func := "annals/annalslaw9.CheckMulti", spec := "checkMulti", inPlace := ["internal/abi.NoEscape", "internal/bytealg.MakeNoZero"], unfollowed := true, recurses := true, named := ["annals/sha.begin", "annals/sha.table", "annals/annalsref2.first", "annals/annalsref2.table"], apart := false, laid := [("annals/annalsref2.first", laid_annals_annalsref2_first), ("annals/annalsref2.table", laid_annals_annalsref2_table), ("annals/sha.begin", laid_annals_sha_begin), ("annals/sha.table", laid_annals_sha_table)] }
def CheckMultiSaid : Prop := checkMultiRow.holds Tryd.pinned (OpenSpec.ofChange checkMultiSpec)

/-- ITS FALSE NEIGHBOUR: 'it returns false'. Refute it at one input. -/
def checkMultiWrong : ChangeSpec := { name := "checkMulti", fn := fun _ => fun
  | [d1, d2, d3, d4, d5, d6] => { results := [.lit (.bool false)], args := [d1, d2, d3, d4, d5, d6] }
  | _ => none }
def CheckMultiWrongFalsely : Prop := checkMultiRow.holds Tryd.pinned (OpenSpec.ofChange checkMultiWrong)

/-- 'annalslaw9.CheckSound': WHATEVER THE INPUT: true; the input reads as it did. -/
def checkSoundSpec : ChangeSpec := { name := "checkSound", fn := fun _ => fun
  | [d1, d2, d3, d4, d5, d6] => { results := [.lit (.bool true)], args := [d1, d2, d3, d4, d5, d6] }
  | _ => none }
def checkSoundRow : OpenClaim := { program := "ytcgfeeommhljgaadoor", sum := "a3ea23586ad155e52c511d5ea061d30f5496cc7b60b69736a419904dd1f2ea8d", func := "annals/annalslaw9.CheckSound", spec := "checkSound", inPlace := ["internal/abi.NoEscape", "internal/bytealg.MakeNoZero"], unfollowed := true, recurses := true, named := ["annals/sha.begin", "annals/sha.table"], apart := false, laid := [("annals/sha.begin", laid_annals_sha_begin), ("annals/sha.table", laid_annals_sha_table)] }
def CheckSoundSaid : Prop := checkSoundRow.holds Tryd.pinned (OpenSpec.ofChange checkSoundSpec)

/-- ITS FALSE NEIGHBOUR: 'it returns false'. Refute it at one input. -/
def checkSoundWrong : ChangeSpec := { name := "checkSound", fn := fun _ => fun
  | [d1, d2, d3, d4, d5, d6] => { results := [.lit (.bool false)], args := [d1, d2, d3, d4, d5, d6] }
  | _ => none }
def CheckSoundWrongFalsely : Prop := checkSoundRow.holds Tryd.pinned (OpenSpec.ofChange checkSoundWrong)

/-- 'annalslaw9.CheckRange': WHATEVER THE INPUT: true; the input reads as it did. -/
def checkRangeSpec : ChangeSpec := { name := "checkRange", fn := fun _ => fun
  | [d1, d2, d3, d4, d5, d6] => { results := [.lit (.bool true)], args := [d1, d2, d3, d4, d5, d6] }
  | _ => none }
def checkRangeRow : OpenClaim := { program := "ytcgfeeommhljgaadoor", sum := "a3ea23586ad155e52c511d5ea061d30f5496cc7b60b69736a419904dd1f2ea8d", func := "annals/annalslaw9.CheckRange", spec := "checkRange", inPlace := ["internal/abi.NoEscape", "internal/bytealg.MakeNoZero"], unfollowed := true, recurses := true, named := ["annals/sha.begin", "annals/sha.table", "annals/annalsref2.first", "annals/annalsref2.table"], apart := false, laid := [("annals/annalsref2.first", laid_annals_annalsref2_first), ("annals/annalsref2.table", laid_annals_annalsref2_table), ("annals/sha.begin", laid_annals_sha_begin), ("annals/sha.table", laid_annals_sha_table)] }
def CheckRangeSaid : Prop := checkRangeRow.holds Tryd.pinned (OpenSpec.ofChange checkRangeSpec)

/-- ITS FALSE NEIGHBOUR: 'it returns false'. Refute it at one input. -/
def checkRangeWrong : ChangeSpec := { name := "checkRange", fn := fun _ => fun
  | [d1, d2, d3, d4, d5, d6] => { results := [.lit (.bool false)], args := [d1, d2, d3, d4, d5, d6] }
  | _ => none }
def CheckRangeWrongFalsely : Prop := checkRangeRow.holds Tryd.pinned (OpenSpec.ofChange checkRangeWrong)

/-- 'annalslaw9.CheckConsistency': WHATEVER THE INPUT: true; the input reads as it did. -/
def checkConsistencySpec : ChangeSpec := { name := "checkConsistency", fn := fun _ => fun
  | [d1, d2, d3, d4, d5, d6] => { results := [.lit (.bool true)], args := [d1, d2, d3, d4, d5, d6] }
  | _ => none }
def checkConsistencyRow : OpenClaim := { program := "ytcgfeeommhljgaadoor", sum := "a3ea23586ad155e52c511d5ea061d30f5496cc7b60b69736a419904dd1f2ea8d", func := "annals/annalslaw9.CheckConsistency", spec := "checkConsistency", inPlace := ["internal/abi.NoEscape", "internal/bytealg.MakeNoZero"], unfollowed := true, recurses := true, named := ["annals/sha.begin", "annals/sha.table", "annals/annalsref2.first", "annals/annalsref2.table"], apart := false, laid := [("annals/annalsref2.first", laid_annals_annalsref2_first), ("annals/annalsref2.table", laid_annals_annalsref2_table), ("annals/sha.begin", laid_annals_sha_begin), ("annals/sha.table", laid_annals_sha_table)] }
def CheckConsistencySaid : Prop := checkConsistencyRow.holds Tryd.pinned (OpenSpec.ofChange checkConsistencySpec)

/-- ITS FALSE NEIGHBOUR: 'it returns false'. Refute it at one input. -/
def checkConsistencyWrong : ChangeSpec := { name := "checkConsistency", fn := fun _ => fun
  | [d1, d2, d3, d4, d5, d6] => { results := [.lit (.bool false)], args := [d1, d2, d3, d4, d5, d6] }
  | _ => none }
def CheckConsistencyWrongFalsely : Prop := checkConsistencyRow.holds Tryd.pinned (OpenSpec.ofChange checkConsistencyWrong)

/-- 'annalslaw9.CheckComplete': WHATEVER THE INPUT: true; the input reads as it did. -/
def checkCompleteSpec : ChangeSpec := { name := "checkComplete", fn := fun _ => fun
  | [d1, d2, d3, d4, d5, d6] => { results := [.lit (.bool true)], args := [d1, d2, d3, d4, d5, d6] }
  | _ => none }
def checkCompleteRow : OpenClaim := { program := "ytcgfeeommhljgaadoor", sum := "a3ea23586ad155e52c511d5ea061d30f5496cc7b60b69736a419904dd1f2ea8d", func := "annals/annalslaw9.CheckComplete", spec := "checkComplete", inPlace := ["internal/abi.NoEscape", "internal/bytealg.MakeNoZero"], unfollowed := true, recurses := true, named := ["annals/sha.begin", "annals/sha.table"], apart := false, laid := [("annals/sha.begin", laid_annals_sha_begin), ("annals/sha.table", laid_annals_sha_table)] }
def CheckCompleteSaid : Prop := checkCompleteRow.holds Tryd.pinned (OpenSpec.ofChange checkCompleteSpec)

/-- ITS FALSE NEIGHBOUR: 'it returns false'. Refute it at one input. -/
def checkCompleteWrong : ChangeSpec := { name := "checkComplete", fn := fun _ => fun
  | [d1, d2, d3, d4, d5, d6] => { results := [.lit (.bool false)], args := [d1, d2, d3, d4, d5, d6] }
  | _ => none }
def CheckCompleteWrongFalsely : Prop := checkCompleteRow.holds Tryd.pinned (OpenSpec.ofChange checkCompleteWrong)

/- THE SECOND FORM. 'bulk': how many values and letters a reading holds, each counted each time it is reached (what is shared counts as often as it is met; a slice's spare places count too). A statement '..UptoSaid' is the law's where the arguments, and the package variables that the reading takes, are together of bulk at most 1048576: NARROWER than '..Said'. Prove '..Said' where nothing that the law and all that it calls make is longer than what came in: it says more and counts as full. Else prove '..UptoSaid'. A law counts once. -/
mutual
def uptoBulk {H : Type} : DataW H → Nat
  | .lit (.string bytes) => bytes.length + 1
  | .lit _ => 1
  | .nil => 1
  | .ptr d => uptoBulk d + 1
  | .slice elems spare => uptoBulkAll elems + uptoBulkAll spare + 1
  | .agg parts => uptoBulkAll parts + 1
  | .iface _ d => uptoBulk d + 1
  | .map entries => uptoBulkEntries entries + 1
  | .held _ => 1
def uptoBulkAll {H : Type} : List (DataW H) → Nat
  | [] => 0
  | d :: r => uptoBulk d + uptoBulkAll r
def uptoBulkEntries {H : Type} : List (Lit × DataW H) → Nat
  | [] => 0
  | x :: r => uptoBulkEntry x + uptoBulkEntries r
def uptoBulkEntry {H : Type} : Lit × DataW H → Nat
  | (.string bytes, d) => bytes.length + uptoBulk d + 1
  | (_, d) => uptoBulk d + 1
 end
def uptoSmall : (H : Type) → List (DataW H) → Bool := fun _ ds => decide (uptoBulkAll ds ≤ 1048576)
def OpenSpec.upto (s : _root_.Go.ChangeSpec) : _root_.Go.OpenSpec := { _root_.Go.OpenSpec.ofChange s with cond := some uptoSmall }

/-- 'annalslaw9.CheckInclusion', WHERE WHAT IT READS IS OF BULK AT MOST 1048576: true; the input reads as it did. -/
def checkInclusionUptoRow : OpenClaim := { program := "ytcgfeeommhljgaadoor", sum := "a3ea23586ad155e52c511d5ea061d30f5496cc7b60b69736a419904dd1f2ea8d", func := "annals/annalslaw9.CheckInclusion", spec := "checkInclusion", inPlace := ["internal/abi.NoEscape", "internal/bytealg.MakeNoZero"], unfollowed := true, recurses := true, named := ["annals/sha.begin", "annals/sha.table", "annals/annalsref2.first", "annals/annalsref2.table"], apart := false, laid := [("annals/annalsref2.first", laid_annals_annalsref2_first), ("annals/annalsref2.table", laid_annals_annalsref2_table), ("annals/sha.begin", laid_annals_sha_begin), ("annals/sha.table", laid_annals_sha_table)], narrowed := true }
def CheckInclusionUptoSaid : Prop := checkInclusionUptoRow.holds Tryd.pinned (OpenSpec.upto checkInclusionSpec)

/-- 'annalslaw9.CheckBuilt', WHERE WHAT IT READS IS OF BULK AT MOST 1048576: true; the input reads as it did. -/
def checkBuiltUptoRow : OpenClaim := { program := "ytcgfeeommhljgaadoor", sum := "a3ea23586ad155e52c511d5ea061d30f5496cc7b60b69736a419904dd1f2ea8d", func := "annals/annalslaw9.CheckBuilt", spec := "checkBuilt", inPlace := ["internal/abi.NoEscape", "internal/bytealg.MakeNoZero"], unfollowed := true, recurses := true, named := ["annals/sha.begin", "annals/sha.table"], apart := false, laid := [("annals/sha.begin", laid_annals_sha_begin), ("annals/sha.table", laid_annals_sha_table)], narrowed := true }
def CheckBuiltUptoSaid : Prop := checkBuiltUptoRow.holds Tryd.pinned (OpenSpec.upto checkBuiltSpec)

/-- 'annalslaw9.CheckMulti', WHERE WHAT IT READS IS OF BULK AT MOST 1048576: true; the input reads as it did. -/
def checkMultiUptoRow : OpenClaim := { program := "ytcgfeeommhljgaadoor", sum := "a3ea23586ad155e52c511d5ea061d30f5496cc7b60b69736a419904dd1f2ea8d", func := "annals/annalslaw9.CheckMulti", spec := "checkMulti", inPlace := ["internal/abi.NoEscape", "internal/bytealg.MakeNoZero"], unfollowed := true, recurses := true, named := ["annals/sha.begin", "annals/sha.table", "annals/annalsref2.first", "annals/annalsref2.table"], apart := false, laid := [("annals/annalsref2.first", laid_annals_annalsref2_first), ("annals/annalsref2.table", laid_annals_annalsref2_table), ("annals/sha.begin", laid_annals_sha_begin), ("annals/sha.table", laid_annals_sha_table)], narrowed := true }
def CheckMultiUptoSaid : Prop := checkMultiUptoRow.holds Tryd.pinned (OpenSpec.upto checkMultiSpec)

/-- 'annalslaw9.CheckSound', WHERE WHAT IT READS IS OF BULK AT MOST 1048576: true; the input reads as it did. -/
def checkSoundUptoRow : OpenClaim := { program := "ytcgfeeommhljgaadoor", sum := "a3ea23586ad155e52c511d5ea061d30f5496cc7b60b69736a419904dd1f2ea8d", func := "annals/annalslaw9.CheckSound", spec := "checkSound", inPlace := ["internal/abi.NoEscape", "internal/bytealg.MakeNoZero"], unfollowed := true, recurses := true, named := ["annals/sha.begin", "annals/sha.table"], apart := false, laid := [("annals/sha.begin", laid_annals_sha_begin), ("annals/sha.table", laid_annals_sha_table)], narrowed := true }
def CheckSoundUptoSaid : Prop := checkSoundUptoRow.holds Tryd.pinned (OpenSpec.upto checkSoundSpec)

/-- 'annalslaw9.CheckRange', WHERE WHAT IT READS IS OF BULK AT MOST 1048576: true; the input reads as it did. -/
def checkRangeUptoRow : OpenClaim := { program := "ytcgfeeommhljgaadoor", sum := "a3ea23586ad155e52c511d5ea061d30f5496cc7b60b69736a419904dd1f2ea8d", func := "annals/annalslaw9.CheckRange", spec := "checkRange", inPlace := ["internal/abi.NoEscape", "internal/bytealg.MakeNoZero"], unfollowed := true, recurses := true, named := ["annals/sha.begin", "annals/sha.table", "annals/annalsref2.first", "annals/annalsref2.table"], apart := false, laid := [("annals/annalsref2.first", laid_annals_annalsref2_first), ("annals/annalsref2.table", laid_annals_annalsref2_table), ("annals/sha.begin", laid_annals_sha_begin), ("annals/sha.table", laid_annals_sha_table)], narrowed := true }
def CheckRangeUptoSaid : Prop := checkRangeUptoRow.holds Tryd.pinned (OpenSpec.upto checkRangeSpec)

/-- 'annalslaw9.CheckConsistency', WHERE WHAT IT READS IS OF BULK AT MOST 1048576: true; the input reads as it did. -/
def checkConsistencyUptoRow : OpenClaim := { program := "ytcgfeeommhljgaadoor", sum := "a3ea23586ad155e52c511d5ea061d30f5496cc7b60b69736a419904dd1f2ea8d", func := "annals/annalslaw9.CheckConsistency", spec := "checkConsistency", inPlace := ["internal/abi.NoEscape", "internal/bytealg.MakeNoZero"], unfollowed := true, recurses := true, named := ["annals/sha.begin", "annals/sha.table", "annals/annalsref2.first", "annals/annalsref2.table"], apart := false, laid := [("annals/annalsref2.first", laid_annals_annalsref2_first), ("annals/annalsref2.table", laid_annals_annalsref2_table), ("annals/sha.begin", laid_annals_sha_begin), ("annals/sha.table", laid_annals_sha_table)], narrowed := true }
def CheckConsistencyUptoSaid : Prop := checkConsistencyUptoRow.holds Tryd.pinned (OpenSpec.upto checkConsistencySpec)

/-- 'annalslaw9.CheckComplete', WHERE WHAT IT READS IS OF BULK AT MOST 1048576: true; the input reads as it did. -/
def checkCompleteUptoRow : OpenClaim := { program := "ytcgfeeommhljgaadoor", sum := "a3ea23586ad155e52c511d5ea061d30f5496cc7b60b69736a419904dd1f2ea8d", func := "annals/annalslaw9.CheckComplete", spec := "checkComplete", inPlace := ["internal/abi.NoEscape", "internal/bytealg.MakeNoZero"], unfollowed := true, recurses := true, named := ["annals/sha.begin", "annals/sha.table"], apart := false, laid := [("annals/sha.begin", laid_annals_sha_begin), ("annals/sha.table", laid_annals_sha_table)], narrowed := true }
def CheckCompleteUptoSaid : Prop := checkCompleteUptoRow.holds Tryd.pinned (OpenSpec.upto checkCompleteSpec)

end Rows
end Go.Proofs.YtcgfeeommhljgaaDoor
