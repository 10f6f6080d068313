/- nums.Ceil. -/
import Derived.Test.YtcgfeeommhljgaaDoorNums
set_option maxRecDepth 100000
namespace Go.Proofs.YtcgfeeommhljgaaDoor
open Go Go.RowKit
theorem nums_Ceil_low (n : Int) (h : n ≤ 1) (w : World) :
    Calls Tryd.prog 17 #[.int .i64 n] w fun e w' => e = .returned (.int .i64 (ceilN n.toNat)) ∧ w = w' := by
  go_enter Tryd.func17, Tryd.ntmps17
  go_wp2_with fail
  go_ret
  exact ⟨ret_int (by rw [ceil_small _ (by omega)]; rfl), rfl⟩
theorem nums_Ceil (n : Int) (h2 : n ≤ 9223372036854775807) (w : World) :
    Calls Tryd.prog 17 #[.int .i64 n] w fun e w' => e = .returned (.int .i64 (ceilN n.toNat)) ∧ w = w' := by
  by_cases h : n ≤ 1
  · exact nums_Ceil_low n h w
  · go_enter Tryd.func17, Tryd.ntmps17
    go_wp2_with (go_at_call 52; refine (nums_Bits _ (by omega) (by omega) _).mono ?_; rintro e w' ⟨rfl, rfl⟩)
    go_ret
    exact ⟨ret_int (by unfold ceilN; rw [if_neg (by omega)]), rfl⟩
end Go.Proofs.YtcgfeeommhljgaaDoor
