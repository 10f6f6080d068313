/- The five tables that a source reads: the reference's SHA, those that print numbers. -/
import Derived.Test.YtocjjiacmedjmaaDoorLaidP
import Derived.Test.YtocjjiacmedjmaaDoorItoaK
set_option maxRecDepth 100000
namespace Go.Proofs.YtocjjiacmedjmaaDoor
open Go Go.RowKit

theorem pow_is : (Rows.laid_internal_strconv_uint64pow10 : DataW Unit) = Lib.tabData .u64 Lib.pow10Tab := rfl
theorem cellsU64 : Tryd.prog.cellsOf 105 = 1 := by kernel_rfl
theorem cellsP10 : Tryd.prog.cellsOf 143 = 20 := by kernel_rfl
theorem tab_of {W : World} {rest : List (String × DataW Unit)} (h : laidMet Tryd.prog (("internal/strconv.uint64pow10", Rows.laid_internal_strconv_uint64pow10) :: rest) W) : TabP W := by
  rw [pow_is] at h
  exact Lib.tabIs_of_head (show Tryd.prog.globalNamed "internal/strconv.uint64pow10" = some 5 by kernel_rfl) (show (Tryd.prog.globals[5]?).map (·.type) = some 143 by kernel_rfl) Tryd.underlying143 Tryd.underlying105 cellsU64 cellsP10 h
theorem globs57 {W : World} (h : laidMetH Tryd.prog [("annals/annalsref2.first", Rows.laid_annals_annalsref2_first), ("annals/annalsref2.table", Rows.laid_annals_annalsref2_table), ("math/bits.deBruijn32tab", Rows.laid_math_bits_deBruijn32tab), ("math/bits.deBruijn64tab", Rows.laid_math_bits_deBruijn64tab), ("internal/strconv.uint64pow10", Rows.laid_internal_strconv_uint64pow10)] W) : GlobR W ∧ TabP W := by
  have h' : laidMet Tryd.prog [("annals/annalsref2.first", Rows.laid_annals_annalsref2_first), ("annals/annalsref2.table", Rows.laid_annals_annalsref2_table), ("math/bits.deBruijn32tab", Rows.laid_math_bits_deBruijn32tab), ("math/bits.deBruijn64tab", Rows.laid_math_bits_deBruijn64tab), ("internal/strconv.uint64pow10", Rows.laid_internal_strconv_uint64pow10)] W := h
  have h1 := h'
  have h2 := h'.tail
  rw [first_is] at h1
  rw [rtable_is] at h2
  have t1 := Lib.tabIs_of_head (show Tryd.prog.globalNamed "annals/annalsref2.first" = some 0 by kernel_rfl) (show (Tryd.prog.globals[0]?).map (·.type) = some 113 by kernel_rfl) Tryd.underlying113 Tryd.underlying112 cells32 cells8 h1
  have t2 := Lib.tabIs_of_head (show Tryd.prog.globalNamed "annals/annalsref2.table" = some 2 by kernel_rfl) (show (Tryd.prog.globals[2]?).map (·.type) = some 130 by kernel_rfl) Tryd.underlying130 Tryd.underlying112 cells32 cells64 h2
  exact ⟨⟨fun i hi => t1.cell (by kernel_rfl) i (by rw [HB_len]; exact hi), fun i hi => t2.cell (by kernel_rfl) i (by rw [KT_len]; exact hi)⟩, tab_of h'.tail.tail.tail.tail⟩
end Go.Proofs.YtocjjiacmedjmaaDoor
