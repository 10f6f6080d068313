/- Walks of the closed laws ProveNames and TilesNames. -/
import Derived.Test.YtmgendpmmepglaaDoorKit
import Derived.Below
import Derived.Laws.EntriesVeiled
import Derived.Laws.ResultCell
set_option maxRecDepth 100000
namespace Go.Proofs.YtmgendpmmepglaaDoor
open Go Go.RowKit

theorem nilF (w : World) : Sem.run Tryd.prog (binOp BinOp.eql 25 Value.nilFunc Value.nilFunc) w = .ok (.bool true) w := by kernel_rfl
theorem nilR (w : World) : Sem.run Tryd.prog (binOp BinOp.eql 30 Value.nilFunc Value.nilFunc) w = .ok (.bool true) w := by kernel_rfl
theorem law_ProveNames (w : World) (_h : True) :
    Calls Tryd.prog 4 #[] w fun e w' => e = .returned (.bool true) ∧ Below w.heap.size w w' := by
  have hn := nilF
  go_enter Tryd.func4, Tryd.ntmps4
  go_wp2
  go_ret
  exact ⟨rfl, by repeat' (first | exact Below.refl _ _ | apply Below.alloc | apply Below.drew | (simp only [World.size_alloc]; omega) | (simp; done))⟩
theorem law_TilesNames (w : World) (_h : True) :
    Calls Tryd.prog 3 #[] w fun e w' => e = .returned (.bool true) ∧ Below w.heap.size w w' := by
  have hn := nilF
  have hr := nilR
  go_enter Tryd.func3, Tryd.ntmps3
  go_wp2
  go_region
  go_wp2
  go_region
  go_wp2
  refine bodyPost_ret_by (v := .tuple #[.agg #[.int .i64 0, .int .i64 0, .nilFunc], .int .i64 10]) ?_ rfl ?_
  · rw [results_cell_tmp rfl]
    go_simp
  · go_wp2
    go_ret
    exact ⟨rfl, by repeat' (first | exact Below.refl _ _ | apply Below.alloc | apply Below.drew | (simp only [World.size_alloc]; omega) | (simp; done))⟩
end Go.Proofs.YtmgendpmmepglaaDoor
