/- The reference's node. -/
import Derived.Test.YtaaldkkfedinpaaDoorTree
import Derived.Test.YtaaldkkfedinpaaDoorShaZ
set_option maxRecDepth 100000
namespace Go.Proofs.YtaaldkkfedinpaaDoor
open Go Go.RowKit

theorem ref_Node (k : Int) (l r : ByteArray) (hlr : l.size + r.size ≤ 140737488355328 - 300) (w : World) (hg : GlobR w) :
    Calls Tryd.prog 96 #[.int .i64 k, .string l, .string r] w fun e w' => e = .returned (.string (nodeS k l r)) ∧ Below w.heap.size w w' := by
  have hcut := ref_Cut (⟨#[1]⟩ ++ l ++ r) (by rw [ByteArray.size_append, ByteArray.size_append, show (⟨#[1]⟩ : ByteArray).size = 1 from rfl]; omega) k w hg
  have e : ((⟨#[1]⟩ ++ l ++ r : ByteArray)).data.toList = 1 :: (l.data.toList ++ r.data.toList) := by simp
  rw [e] at hcut
  have HC : Hid (Calls Tryd.prog 120 #[.string (⟨#[1]⟩ ++ l ++ r), .int .i64 k] w fun e w' => e = .returned (.string (nodeS k l r)) ∧ Below w.heap.size w w') := hcut
  clear hcut e
  have h1 : l.size ≤ 140737488355328 := by omega
  have h2 : r.size ≤ 140737488355328 := by omega
  clear hg
  go_enter Tryd.func96, Tryd.ntmps96
  go_wp2_with fail
  refine (HC.out).mono ?_
  rintro e w1 ⟨rfl, hb1⟩
  go_wp2_with fail
  go_ret
  exact ⟨rfl, hb1⟩
end Go.Proofs.YtaaldkkfedinpaaDoor
