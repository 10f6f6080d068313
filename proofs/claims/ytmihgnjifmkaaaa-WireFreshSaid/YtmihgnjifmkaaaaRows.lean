/-
  No cell of these rows narrows 'for every input' (looked for: loops, veiled, ifaces, maps, wideKeys, modest, calm, conditions, laid).
  DERIVED. THE GIVEN ROWS OF THIS SEAT. 10 by the template 'for every input the law returns true; each argument reads behind the call as it read before'; 0 by the template 'total and deterministic' (their statements: YtmihgnjifmkaaaaTotals.lean).
  GIVEN WITH THE SEED: the statements are not yours to turn. If you find one false, say at which input.
  Laid BY PROGRAM, IN A SANDBOX (cutbox-rows.mjs): the forced cells as the released guide's own fill.sh prints them over the translation be754045ce85e51d… (all of the seat's roots in one cut). By AI agents, Wed Nov 11 2026. No macro, syntax, notation, axiom, sorry.
-/
import Derived.Test.YtmihgnjifmkaaaaChecked
import GoSem.Claim
import GoSem.ClaimJoined
import GoSem.ClaimMapViews
import Derived.JoinedTies
import Derived.KernelRfl
namespace Go.Proofs.Ytmihgnjifmkaaaa
/- THE CELL 'sum', in the pinned program and in every row, IS THE sha256 OF THE DUMP (.gsa) THAT YtmihgnjifmkaaaaProg.lean LOADS. Nothing in Lean hashes anything: it is a label: what it is worth is what the hold of that sum in a sandbox is worth. -/
noncomputable def Try.pinned : Pinned := { name := "ytmihgnjifmkaaaa", sum := "be754045ce85e51d22129642cddda3f3a693f6f271a1be9ff8d8d12f71251713", checked := Try.checked }
namespace Rows
def none {H : Type} : Left H := { results := [], args := [] }

/-- 'annalslaw11.WireNames': WHATEVER THE INPUT: true; the input reads as it did. -/
def wireNamesSpec : ChangeSpec := { name := "wireNames", fn := fun _ => fun
  | [] => { results := [.lit (.bool true)], args := [] }
  | _ => none }
def wireNamesRow : OpenClaim := { program := "ytmihgnjifmkaaaa", sum := "be754045ce85e51d22129642cddda3f3a693f6f271a1be9ff8d8d12f71251713", func := "annals/annalslaw11.WireNames", spec := "wireNames", inPlace := ["internal/abi.NoEscape"], apart := false }
def WireNamesSaid : Prop := wireNamesRow.holds Try.pinned (OpenSpec.ofChange wireNamesSpec)

/-- ITS FALSE NEIGHBOUR: 'it returns false'. Refute it at one input. -/
def wireNamesWrong : ChangeSpec := { name := "wireNames", fn := fun _ => fun
  | [] => { results := [.lit (.bool false)], args := [] }
  | _ => none }
def WireNamesWrongFalsely : Prop := wireNamesRow.holds Try.pinned (OpenSpec.ofChange wireNamesWrong)

/-- 'annalslaw11.WireLeaves': WHATEVER THE INPUT: true; the input reads as it did. -/
def wireLeavesSpec : ChangeSpec := { name := "wireLeaves", fn := fun _ => fun
  | [d1, d2] => { results := [.lit (.bool true)], args := [d1, d2] }
  | _ => none }
def wireLeavesRow : OpenClaim := { program := "ytmihgnjifmkaaaa", sum := "be754045ce85e51d22129642cddda3f3a693f6f271a1be9ff8d8d12f71251713", func := "annals/annalslaw11.WireLeaves", spec := "wireLeaves", inPlace := ["internal/abi.NoEscape"], apart := false }
def WireLeavesSaid : Prop := wireLeavesRow.holds Try.pinned (OpenSpec.ofChange wireLeavesSpec)

/-- ITS FALSE NEIGHBOUR: 'it returns false'. Refute it at one input. -/
def wireLeavesWrong : ChangeSpec := { name := "wireLeaves", fn := fun _ => fun
  | [d1, d2] => { results := [.lit (.bool false)], args := [d1, d2] }
  | _ => none }
def WireLeavesWrongFalsely : Prop := wireLeavesRow.holds Try.pinned (OpenSpec.ofChange wireLeavesWrong)

/-- 'annalslaw11.WireHashes': WHATEVER THE INPUT: true; the input reads as it did. -/
def wireHashesSpec : ChangeSpec := { name := "wireHashes", fn := fun _ => fun
  | [d1, d2, d3] => { results := [.lit (.bool true)], args := [d1, d2, d3] }
  | _ => none }
def wireHashesRow : OpenClaim := { program := "ytmihgnjifmkaaaa", sum := "be754045ce85e51d22129642cddda3f3a693f6f271a1be9ff8d8d12f71251713", func := "annals/annalslaw11.WireHashes", spec := "wireHashes", inPlace := ["internal/abi.NoEscape", "internal/bytealg.MakeNoZero"], apart := false }
def WireHashesSaid : Prop := wireHashesRow.holds Try.pinned (OpenSpec.ofChange wireHashesSpec)

/-- ITS FALSE NEIGHBOUR: 'it returns false'. Refute it at one input. -/
def wireHashesWrong : ChangeSpec := { name := "wireHashes", fn := fun _ => fun
  | [d1, d2, d3] => { results := [.lit (.bool false)], args := [d1, d2, d3] }
  | _ => none }
def WireHashesWrongFalsely : Prop := wireHashesRow.holds Try.pinned (OpenSpec.ofChange wireHashesWrong)

/-- 'annalslaw11.WireFrontier': WHATEVER THE INPUT: true; the input reads as it did. -/
def wireFrontierSpec : ChangeSpec := { name := "wireFrontier", fn := fun _ => fun
  | [d1, d2, d3] => { results := [.lit (.bool true)], args := [d1, d2, d3] }
  | _ => none }
def wireFrontierRow : OpenClaim := { program := "ytmihgnjifmkaaaa", sum := "be754045ce85e51d22129642cddda3f3a693f6f271a1be9ff8d8d12f71251713", func := "annals/annalslaw11.WireFrontier", spec := "wireFrontier", inPlace := ["internal/abi.NoEscape", "internal/bytealg.MakeNoZero"], unfollowed := true, recurses := true, apart := false }
def WireFrontierSaid : Prop := wireFrontierRow.holds Try.pinned (OpenSpec.ofChange wireFrontierSpec)

/-- ITS FALSE NEIGHBOUR: 'it returns false'. Refute it at one input. -/
def wireFrontierWrong : ChangeSpec := { name := "wireFrontier", fn := fun _ => fun
  | [d1, d2, d3] => { results := [.lit (.bool false)], args := [d1, d2, d3] }
  | _ => none }
def WireFrontierWrongFalsely : Prop := wireFrontierRow.holds Try.pinned (OpenSpec.ofChange wireFrontierWrong)

/-- 'annalslaw11.WireProof': WHATEVER THE INPUT: true; the input reads as it did. -/
def wireProofSpec : ChangeSpec := { name := "wireProof", fn := fun _ => fun
  | [d] => { results := [.lit (.bool true)], args := [d] }
  | _ => none }
def wireProofRow : OpenClaim := { program := "ytmihgnjifmkaaaa", sum := "be754045ce85e51d22129642cddda3f3a693f6f271a1be9ff8d8d12f71251713", func := "annals/annalslaw11.WireProof", spec := "wireProof", inPlace := ["internal/abi.NoEscape", "internal/bytealg.MakeNoZero"], unfollowed := true, recurses := true, apart := false }
def WireProofSaid : Prop := wireProofRow.holds Try.pinned (OpenSpec.ofChange wireProofSpec)

/-- ITS FALSE NEIGHBOUR: 'it returns false'. Refute it at one input. -/
def wireProofWrong : ChangeSpec := { name := "wireProof", fn := fun _ => fun
  | [d] => { results := [.lit (.bool false)], args := [d] }
  | _ => none }
def WireProofWrongFalsely : Prop := wireProofRow.holds Try.pinned (OpenSpec.ofChange wireProofWrong)

/-- 'annalslaw11.WireUnProof': WHATEVER THE INPUT: true; the input reads as it did. -/
def wireUnProofSpec : ChangeSpec := { name := "wireUnProof", fn := fun _ => fun
  | [d] => { results := [.lit (.bool true)], args := [d] }
  | _ => none }
def wireUnProofRow : OpenClaim := { program := "ytmihgnjifmkaaaa", sum := "be754045ce85e51d22129642cddda3f3a693f6f271a1be9ff8d8d12f71251713", func := "annals/annalslaw11.WireUnProof", spec := "wireUnProof", unfollowed := true, recurses := true, apart := false }
def WireUnProofSaid : Prop := wireUnProofRow.holds Try.pinned (OpenSpec.ofChange wireUnProofSpec)

/-- ITS FALSE NEIGHBOUR: 'it returns false'. Refute it at one input. -/
def wireUnProofWrong : ChangeSpec := { name := "wireUnProof", fn := fun _ => fun
  | [d] => { results := [.lit (.bool false)], args := [d] }
  | _ => none }
def WireUnProofWrongFalsely : Prop := wireUnProofRow.holds Try.pinned (OpenSpec.ofChange wireUnProofWrong)

/-- 'annalslaw11.WireFresh': WHATEVER THE INPUT: true; the input reads as it did. -/
def wireFreshSpec : ChangeSpec := { name := "wireFresh", fn := fun _ => fun
  | [d1, d2] => { results := [.lit (.bool true)], args := [d1, d2] }
  | _ => none }
def wireFreshRow : OpenClaim := { program := "ytmihgnjifmkaaaa", sum := "be754045ce85e51d22129642cddda3f3a693f6f271a1be9ff8d8d12f71251713", func := "annals/annalslaw11.WireFresh", spec := "wireFresh", unfollowed := true, recurses := true, apart := false }
def WireFreshSaid : Prop := wireFreshRow.holds Try.pinned (OpenSpec.ofChange wireFreshSpec)

/-- ITS FALSE NEIGHBOUR: 'it returns false'. Refute it at one input. -/
def wireFreshWrong : ChangeSpec := { name := "wireFresh", fn := fun _ => fun
  | [d1, d2] => { results := [.lit (.bool false)], args := [d1, d2] }
  | _ => none }
def WireFreshWrongFalsely : Prop := wireFreshRow.holds Try.pinned (OpenSpec.ofChange wireFreshWrong)

/-- 'annalslaw11.WireApart': WHATEVER THE INPUT: true; the input reads as it did. -/
def wireApartSpec : ChangeSpec := { name := "wireApart", fn := fun _ => fun
  | [d1, d2, d3] => { results := [.lit (.bool true)], args := [d1, d2, d3] }
  | _ => none }
def wireApartRow : OpenClaim := { program := "ytmihgnjifmkaaaa", sum := "be754045ce85e51d22129642cddda3f3a693f6f271a1be9ff8d8d12f71251713", func := "annals/annalslaw11.WireApart", spec := "wireApart", inPlace := ["internal/abi.NoEscape", "internal/bytealg.MakeNoZero"], unfollowed := true, recurses := true, apart := false }
def WireApartSaid : Prop := wireApartRow.holds Try.pinned (OpenSpec.ofChange wireApartSpec)

/-- ITS FALSE NEIGHBOUR: 'it returns false'. Refute it at one input. -/
def wireApartWrong : ChangeSpec := { name := "wireApart", fn := fun _ => fun
  | [d1, d2, d3] => { results := [.lit (.bool false)], args := [d1, d2, d3] }
  | _ => none }
def WireApartWrongFalsely : Prop := wireApartRow.holds Try.pinned (OpenSpec.ofChange wireApartWrong)

/-- 'annalslaw11.WireBack': WHATEVER THE INPUT: true; the input reads as it did. -/
def wireBackSpec : ChangeSpec := { name := "wireBack", fn := fun _ => fun
  | [d1, d2, d3, d4] => { results := [.lit (.bool true)], args := [d1, d2, d3, d4] }
  | _ => none }
def wireBackRow : OpenClaim := { program := "ytmihgnjifmkaaaa", sum := "be754045ce85e51d22129642cddda3f3a693f6f271a1be9ff8d8d12f71251713", func := "annals/annalslaw11.WireBack", spec := "wireBack", inPlace := ["internal/abi.NoEscape", "internal/bytealg.MakeNoZero"], unfollowed := true, recurses := true, apart := false }
def WireBackSaid : Prop := wireBackRow.holds Try.pinned (OpenSpec.ofChange wireBackSpec)

/-- ITS FALSE NEIGHBOUR: 'it returns false'. Refute it at one input. -/
def wireBackWrong : ChangeSpec := { name := "wireBack", fn := fun _ => fun
  | [d1, d2, d3, d4] => { results := [.lit (.bool false)], args := [d1, d2, d3, d4] }
  | _ => none }
def WireBackWrongFalsely : Prop := wireBackRow.holds Try.pinned (OpenSpec.ofChange wireBackWrong)

/-- 'annalslaw11.WireOnly': WHATEVER THE INPUT: true; the input reads as it did. -/
def wireOnlySpec : ChangeSpec := { name := "wireOnly", fn := fun _ => fun
  | [d1, d2] => { results := [.lit (.bool true)], args := [d1, d2] }
  | _ => none }
def wireOnlyRow : OpenClaim := { program := "ytmihgnjifmkaaaa", sum := "be754045ce85e51d22129642cddda3f3a693f6f271a1be9ff8d8d12f71251713", func := "annals/annalslaw11.WireOnly", spec := "wireOnly", inPlace := ["internal/abi.NoEscape", "internal/bytealg.MakeNoZero"], unfollowed := true, recurses := true, apart := false }
def WireOnlySaid : Prop := wireOnlyRow.holds Try.pinned (OpenSpec.ofChange wireOnlySpec)

/-- ITS FALSE NEIGHBOUR: 'it returns false'. Refute it at one input. -/
def wireOnlyWrong : ChangeSpec := { name := "wireOnly", fn := fun _ => fun
  | [d1, d2] => { results := [.lit (.bool false)], args := [d1, d2] }
  | _ => none }
def WireOnlyWrongFalsely : Prop := wireOnlyRow.holds Try.pinned (OpenSpec.ofChange wireOnlyWrong)

/- THE SECOND FORM. 'bulk': how many values and letters a reading holds, each counted each time it is reached (what is shared counts as often as it is met; a slice's spare places count too). A statement '..UptoSaid' is the law's where the arguments, and the package variables that the reading takes, are together of bulk at most 1048576: NARROWER than '..Said'. Prove '..Said' where nothing that the law and all that it calls make is longer than what came in: it says more and counts as full. Else prove '..UptoSaid'. A law counts once. -/
mutual
def uptoBulk {H : Type} : DataW H → Nat
  | .lit (.string bytes) => bytes.length + 1
  | .lit _ => 1
  | .nil => 1
  | .ptr d => uptoBulk d + 1
  | .slice elems spare => uptoBulkAll elems + uptoBulkAll spare + 1
  | .agg parts => uptoBulkAll parts + 1
  | .iface _ d => uptoBulk d + 1
  | .map entries => uptoBulkEntries entries + 1
  | .held _ => 1
def uptoBulkAll {H : Type} : List (DataW H) → Nat
  | [] => 0
  | d :: r => uptoBulk d + uptoBulkAll r
def uptoBulkEntries {H : Type} : List (Lit × DataW H) → Nat
  | [] => 0
  | x :: r => uptoBulkEntry x + uptoBulkEntries r
def uptoBulkEntry {H : Type} : Lit × DataW H → Nat
  | (.string bytes, d) => bytes.length + uptoBulk d + 1
  | (_, d) => uptoBulk d + 1
 end
def uptoSmall : (H : Type) → List (DataW H) → Bool := fun _ ds => decide (uptoBulkAll ds ≤ 1048576)
def OpenSpec.upto (s : _root_.Go.ChangeSpec) : _root_.Go.OpenSpec := { _root_.Go.OpenSpec.ofChange s with cond := some uptoSmall }

/-- 'annalslaw11.WireNames', WHERE WHAT IT READS IS OF BULK AT MOST 1048576: true; the input reads as it did. -/
def wireNamesUptoRow : OpenClaim := { program := "ytmihgnjifmkaaaa", sum := "be754045ce85e51d22129642cddda3f3a693f6f271a1be9ff8d8d12f71251713", func := "annals/annalslaw11.WireNames", spec := "wireNames", inPlace := ["internal/abi.NoEscape"], apart := false, narrowed := true }
def WireNamesUptoSaid : Prop := wireNamesUptoRow.holds Try.pinned (OpenSpec.upto wireNamesSpec)

/-- 'annalslaw11.WireLeaves', WHERE WHAT IT READS IS OF BULK AT MOST 1048576: true; the input reads as it did. -/
def wireLeavesUptoRow : OpenClaim := { program := "ytmihgnjifmkaaaa", sum := "be754045ce85e51d22129642cddda3f3a693f6f271a1be9ff8d8d12f71251713", func := "annals/annalslaw11.WireLeaves", spec := "wireLeaves", inPlace := ["internal/abi.NoEscape"], apart := false, narrowed := true }
def WireLeavesUptoSaid : Prop := wireLeavesUptoRow.holds Try.pinned (OpenSpec.upto wireLeavesSpec)

/-- 'annalslaw11.WireHashes', WHERE WHAT IT READS IS OF BULK AT MOST 1048576: true; the input reads as it did. -/
def wireHashesUptoRow : OpenClaim := { program := "ytmihgnjifmkaaaa", sum := "be754045ce85e51d22129642cddda3f3a693f6f271a1be9ff8d8d12f71251713", func := "annals/annalslaw11.WireHashes", spec := "wireHashes", inPlace := ["internal/abi.NoEscape", "internal/bytealg.MakeNoZero"], apart := false, narrowed := true }
def WireHashesUptoSaid : Prop := wireHashesUptoRow.holds Try.pinned (OpenSpec.upto wireHashesSpec)

/-- 'annalslaw11.WireFrontier', WHERE WHAT IT READS IS OF BULK AT MOST 1048576: true; the input reads as it did. -/
def wireFrontierUptoRow : OpenClaim := { program := "ytmihgnjifmkaaaa", sum := "be754045ce85e51d22129642cddda3f3a693f6f271a1be9ff8d8d12f71251713", func := "annals/annalslaw11.WireFrontier", spec := "wireFrontier", inPlace := ["internal/abi.NoEscape", "internal/bytealg.MakeNoZero"], unfollowed := true, recurses := true, apart := false, narrowed := true }
def WireFrontierUptoSaid : Prop := wireFrontierUptoRow.holds Try.pinned (OpenSpec.upto wireFrontierSpec)

/-- 'annalslaw11.WireProof', WHERE WHAT IT READS IS OF BULK AT MOST 1048576: true; the input reads as it did. -/
def wireProofUptoRow : OpenClaim := { program := "ytmihgnjifmkaaaa", sum := "be754045ce85e51d22129642cddda3f3a693f6f271a1be9ff8d8d12f71251713", func := "annals/annalslaw11.WireProof", spec := "wireProof", inPlace := ["internal/abi.NoEscape", "internal/bytealg.MakeNoZero"], unfollowed := true, recurses := true, apart := false, narrowed := true }
def WireProofUptoSaid : Prop := wireProofUptoRow.holds Try.pinned (OpenSpec.upto wireProofSpec)

/-- 'annalslaw11.WireUnProof', WHERE WHAT IT READS IS OF BULK AT MOST 1048576: true; the input reads as it did. -/
def wireUnProofUptoRow : OpenClaim := { program := "ytmihgnjifmkaaaa", sum := "be754045ce85e51d22129642cddda3f3a693f6f271a1be9ff8d8d12f71251713", func := "annals/annalslaw11.WireUnProof", spec := "wireUnProof", unfollowed := true, recurses := true, apart := false, narrowed := true }
def WireUnProofUptoSaid : Prop := wireUnProofUptoRow.holds Try.pinned (OpenSpec.upto wireUnProofSpec)

/-- 'annalslaw11.WireFresh', WHERE WHAT IT READS IS OF BULK AT MOST 1048576: true; the input reads as it did. -/
def wireFreshUptoRow : OpenClaim := { program := "ytmihgnjifmkaaaa", sum := "be754045ce85e51d22129642cddda3f3a693f6f271a1be9ff8d8d12f71251713", func := "annals/annalslaw11.WireFresh", spec := "wireFresh", unfollowed := true, recurses := true, apart := false, narrowed := true }
def WireFreshUptoSaid : Prop := wireFreshUptoRow.holds Try.pinned (OpenSpec.upto wireFreshSpec)

/-- 'annalslaw11.WireApart', WHERE WHAT IT READS IS OF BULK AT MOST 1048576: true; the input reads as it did. -/
def wireApartUptoRow : OpenClaim := { program := "ytmihgnjifmkaaaa", sum := "be754045ce85e51d22129642cddda3f3a693f6f271a1be9ff8d8d12f71251713", func := "annals/annalslaw11.WireApart", spec := "wireApart", inPlace := ["internal/abi.NoEscape", "internal/bytealg.MakeNoZero"], unfollowed := true, recurses := true, apart := false, narrowed := true }
def WireApartUptoSaid : Prop := wireApartUptoRow.holds Try.pinned (OpenSpec.upto wireApartSpec)

/-- 'annalslaw11.WireBack', WHERE WHAT IT READS IS OF BULK AT MOST 1048576: true; the input reads as it did. -/
def wireBackUptoRow : OpenClaim := { program := "ytmihgnjifmkaaaa", sum := "be754045ce85e51d22129642cddda3f3a693f6f271a1be9ff8d8d12f71251713", func := "annals/annalslaw11.WireBack", spec := "wireBack", inPlace := ["internal/abi.NoEscape", "internal/bytealg.MakeNoZero"], unfollowed := true, recurses := true, apart := false, narrowed := true }
def WireBackUptoSaid : Prop := wireBackUptoRow.holds Try.pinned (OpenSpec.upto wireBackSpec)

/-- 'annalslaw11.WireOnly', WHERE WHAT IT READS IS OF BULK AT MOST 1048576: true; the input reads as it did. -/
def wireOnlyUptoRow : OpenClaim := { program := "ytmihgnjifmkaaaa", sum := "be754045ce85e51d22129642cddda3f3a693f6f271a1be9ff8d8d12f71251713", func := "annals/annalslaw11.WireOnly", spec := "wireOnly", inPlace := ["internal/abi.NoEscape", "internal/bytealg.MakeNoZero"], unfollowed := true, recurses := true, apart := false, narrowed := true }
def WireOnlyUptoSaid : Prop := wireOnlyUptoRow.holds Try.pinned (OpenSpec.upto wireOnlySpec)

end Rows
end Go.Proofs.Ytmihgnjifmkaaaa
