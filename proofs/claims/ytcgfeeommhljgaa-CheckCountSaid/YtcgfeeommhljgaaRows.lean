/-
  No cell of these rows narrows 'for every input' (looked for: loops, veiled, ifaces, maps, wideKeys, modest, calm, conditions, laid).
  DERIVED. THE GIVEN ROWS OF THIS SEAT. 3 by the template 'for every input the law returns true; each argument reads behind the call as it read before'; 0 by the template 'total and deterministic' (their statements: YtcgfeeommhljgaaTotals.lean).
  GIVEN WITH THE SEED: the statements are not yours to turn. If you find one false, say at which input.
  Laid BY PROGRAM, IN A SANDBOX (cutbox-rows.mjs): the forced cells as the released guide's own fill.sh prints them over the translation ea8df026ee3f013b… (all of the seat's roots in one cut). By AI agents, Wed Nov 11 2026. No macro, syntax, notation, axiom, sorry.
-/
import Derived.Test.YtcgfeeommhljgaaChecked
import GoSem.Claim
import GoSem.ClaimJoined
import GoSem.ClaimMapViews
import Derived.JoinedTies
import Derived.KernelRfl
namespace Go.Proofs.Ytcgfeeommhljgaa
/- THE CELL 'sum', in the pinned program and in every row, IS THE sha256 OF THE DUMP (.gsa) THAT YtcgfeeommhljgaaProg.lean LOADS. Nothing in Lean hashes anything: it is a label: what it is worth is what the hold of that sum in a sandbox is worth. -/
noncomputable def Try.pinned : Pinned := { name := "ytcgfeeommhljgaa", sum := "ea8df026ee3f013b3999e441e3b6b2b80e1f51ff7291833b650af117f6f7f763", checked := Try.checked }
namespace Rows
def none {H : Type} : Left H := { results := [], args := [] }

/-- 'annalslaw9.CheckNames': WHATEVER THE INPUT: true; the input reads as it did. -/
def checkNamesSpec : ChangeSpec := { name := "checkNames", fn := fun _ => fun
  | [] => { results := [.lit (.bool true)], args := [] }
  | _ => none }
def checkNamesRow : OpenClaim := { program := "ytcgfeeommhljgaa", sum := "ea8df026ee3f013b3999e441e3b6b2b80e1f51ff7291833b650af117f6f7f763", func := "annals/annalslaw9.CheckNames", spec := "checkNames", apart := false }
def CheckNamesSaid : Prop := checkNamesRow.holds Try.pinned (OpenSpec.ofChange checkNamesSpec)

/-- ITS FALSE NEIGHBOUR: 'it returns false'. Refute it at one input. -/
def checkNamesWrong : ChangeSpec := { name := "checkNames", fn := fun _ => fun
  | [] => { results := [.lit (.bool false)], args := [] }
  | _ => none }
def CheckNamesWrongFalsely : Prop := checkNamesRow.holds Try.pinned (OpenSpec.ofChange checkNamesWrong)

/-- 'annalslaw9.CheckCount': WHATEVER THE INPUT: true; the input reads as it did. -/
def checkCountSpec : ChangeSpec := { name := "checkCount", fn := fun _ => fun
  | [d1, d2, d3, d4, d5] => { results := [.lit (.bool true)], args := [d1, d2, d3, d4, d5] }
  | _ => none }
def checkCountRow : OpenClaim := { program := "ytcgfeeommhljgaa", sum := "ea8df026ee3f013b3999e441e3b6b2b80e1f51ff7291833b650af117f6f7f763", func := "annals/annalslaw9.CheckCount", spec := "checkCount", unfollowed := true, recurses := true, apart := false }
def CheckCountSaid : Prop := checkCountRow.holds Try.pinned (OpenSpec.ofChange checkCountSpec)

/-- ITS FALSE NEIGHBOUR: 'it returns false'. Refute it at one input. -/
def checkCountWrong : ChangeSpec := { name := "checkCount", fn := fun _ => fun
  | [d1, d2, d3, d4, d5] => { results := [.lit (.bool false)], args := [d1, d2, d3, d4, d5] }
  | _ => none }
def CheckCountWrongFalsely : Prop := checkCountRow.holds Try.pinned (OpenSpec.ofChange checkCountWrong)

/-- 'annalslaw9.CheckShort': WHATEVER THE INPUT: true; the input reads as it did. -/
def checkShortSpec : ChangeSpec := { name := "checkShort", fn := fun _ => fun
  | [d1, d2, d3, d4] => { results := [.lit (.bool true)], args := [d1, d2, d3, d4] }
  | _ => none }
def checkShortRow : OpenClaim := { program := "ytcgfeeommhljgaa", sum := "ea8df026ee3f013b3999e441e3b6b2b80e1f51ff7291833b650af117f6f7f763", func := "annals/annalslaw9.CheckShort", spec := "checkShort", unfollowed := true, recurses := true, apart := false }
def CheckShortSaid : Prop := checkShortRow.holds Try.pinned (OpenSpec.ofChange checkShortSpec)

/-- ITS FALSE NEIGHBOUR: 'it returns false'. Refute it at one input. -/
def checkShortWrong : ChangeSpec := { name := "checkShort", fn := fun _ => fun
  | [d1, d2, d3, d4] => { results := [.lit (.bool false)], args := [d1, d2, d3, d4] }
  | _ => none }
def CheckShortWrongFalsely : Prop := checkShortRow.holds Try.pinned (OpenSpec.ofChange checkShortWrong)

/- THE SECOND FORM. 'bulk': how many values and letters a reading holds, each counted each time it is reached (what is shared counts as often as it is met; a slice's spare places count too). A statement '..UptoSaid' is the law's where the arguments, and the package variables that the reading takes, are together of bulk at most 1048576: NARROWER than '..Said'. Prove '..Said' where nothing that the law and all that it calls make is longer than what came in: it says more and counts as full. Else prove '..UptoSaid'. A law counts once. -/
mutual
def uptoBulk {H : Type} : DataW H → Nat
  | .lit (.string bytes) => bytes.length + 1
  | .lit _ => 1
  | .nil => 1
  | .ptr d => uptoBulk d + 1
  | .slice elems spare => uptoBulkAll elems + uptoBulkAll spare + 1
  | .agg parts => uptoBulkAll parts + 1
  | .iface _ d => uptoBulk d + 1
  | .map entries => uptoBulkEntries entries + 1
  | .held _ => 1
def uptoBulkAll {H : Type} : List (DataW H) → Nat
  | [] => 0
  | d :: r => uptoBulk d + uptoBulkAll r
def uptoBulkEntries {H : Type} : List (Lit × DataW H) → Nat
  | [] => 0
  | x :: r => uptoBulkEntry x + uptoBulkEntries r
def uptoBulkEntry {H : Type} : Lit × DataW H → Nat
  | (.string bytes, d) => bytes.length + uptoBulk d + 1
  | (_, d) => uptoBulk d + 1
 end
def uptoSmall : (H : Type) → List (DataW H) → Bool := fun _ ds => decide (uptoBulkAll ds ≤ 1048576)
def OpenSpec.upto (s : _root_.Go.ChangeSpec) : _root_.Go.OpenSpec := { _root_.Go.OpenSpec.ofChange s with cond := some uptoSmall }

/-- 'annalslaw9.CheckNames', WHERE WHAT IT READS IS OF BULK AT MOST 1048576: true; the input reads as it did. -/
def checkNamesUptoRow : OpenClaim := { program := "ytcgfeeommhljgaa", sum := "ea8df026ee3f013b3999e441e3b6b2b80e1f51ff7291833b650af117f6f7f763", func := "annals/annalslaw9.CheckNames", spec := "checkNames", apart := false, narrowed := true }
def CheckNamesUptoSaid : Prop := checkNamesUptoRow.holds Try.pinned (OpenSpec.upto checkNamesSpec)

/-- 'annalslaw9.CheckCount', WHERE WHAT IT READS IS OF BULK AT MOST 1048576: true; the input reads as it did. -/
def checkCountUptoRow : OpenClaim := { program := "ytcgfeeommhljgaa", sum := "ea8df026ee3f013b3999e441e3b6b2b80e1f51ff7291833b650af117f6f7f763", func := "annals/annalslaw9.CheckCount", spec := "checkCount", unfollowed := true, recurses := true, apart := false, narrowed := true }
def CheckCountUptoSaid : Prop := checkCountUptoRow.holds Try.pinned (OpenSpec.upto checkCountSpec)

/-- 'annalslaw9.CheckShort', WHERE WHAT IT READS IS OF BULK AT MOST 1048576: true; the input reads as it did. -/
def checkShortUptoRow : OpenClaim := { program := "ytcgfeeommhljgaa", sum := "ea8df026ee3f013b3999e441e3b6b2b80e1f51ff7291833b650af117f6f7f763", func := "annals/annalslaw9.CheckShort", spec := "checkShort", unfollowed := true, recurses := true, apart := false, narrowed := true }
def CheckShortUptoSaid : Prop := checkShortUptoRow.holds Try.pinned (OpenSpec.upto checkShortSpec)

end Rows
end Go.Proofs.Ytcgfeeommhljgaa
