/- Walk of the reference's UnLeaves. -/
import Derived.Test.YtpdjiflbidjcbaaUnLeaves
set_option maxRecDepth 100000
namespace Go.Proofs.Ytpdjiflbidjcbaa
open Go Go.RowKit

theorem box_place (s : ByteArray) (w : World) : Rd w.heap.size s (.ok 0) (w.alloc (.cells #[.string s, .int .i64 0, .int .i64 0] 65)) := by
  refine ⟨by simp [go_sem], by simp [go_sem], by simp [go_sem], by simp [go_sem], by simp [go_sem], by omega⟩

end Go.Proofs.Ytpdjiflbidjcbaa
