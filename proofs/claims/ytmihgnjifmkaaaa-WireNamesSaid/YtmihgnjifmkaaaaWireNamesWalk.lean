/- Walk of the law WireNames. -/
import Derived.Test.YtmihgnjifmkaaaaSame
set_option maxRecDepth 100000
namespace Go.Proofs.Ytmihgnjifmkaaaa
open Go Go.RowKit

theorem law_WireNames (w : World) :
    Calls Try.prog 3 #[] w fun e w' => e = .returned (.bool true) ∧ Below w.heap.size w w' := by
  have hl := hid (wire_Leaves none [] 0 w (.inl rfl))
  have hR : leavesR [] = (⟨#[76, 0]⟩, 0) := by
    have hp : putVar 0 = [0] := putVar_small 0 (by omega)
    unfold leavesR
    rw [if_neg (by simp), if_neg (by simp [bigLeaf])]
    unfold leavesB
    simp [hp]
  rw [hR] at hl
  unfold strErr at hl
  simp only at hl
  go_enter Try.func3, Try.ntmps3
  go_wp2_with (first | (go_at_call 13; refine (law_num _ _).mono ?_; rintro e w' ⟨rfl, rfl⟩) | fail)
  refine hl.out.mono ?_
  rintro e w1 ⟨rfl, b1⟩
  have B1 := hid b1; clear b1
  go_wp2_with (first | (go_at_call 13; refine (law_num _ _).mono ?_; rintro e w' ⟨rfl, rfl⟩) | fail)
  go_ret
  exact ⟨rfl, B1.out⟩
end Go.Proofs.Ytmihgnjifmkaaaa
