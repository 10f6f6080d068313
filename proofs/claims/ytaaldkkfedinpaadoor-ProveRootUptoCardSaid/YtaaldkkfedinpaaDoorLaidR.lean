/- The seven tables, and what is read of those that print numbers. -/
import Derived.Test.YtaaldkkfedinpaaDoorLaidG
import Derived.Test.YtaaldkkfedinpaaDoorItoaK
set_option maxRecDepth 100000
namespace Go.Proofs.YtaaldkkfedinpaaDoor
open Go Go.RowKit

theorem globs7 {W : World} (h : laidMetH Tryd.prog [("annals/annalsref2.first", Rows.laid_annals_annalsref2_first), ("annals/annalsref2.table", Rows.laid_annals_annalsref2_table), ("math/bits.deBruijn32tab", Rows.laid_math_bits_deBruijn32tab), ("math/bits.deBruijn64tab", Rows.laid_math_bits_deBruijn64tab), ("annals/sha.begin", Rows.laid_annals_sha_begin), ("annals/sha.table", Rows.laid_annals_sha_table), ("internal/strconv.uint64pow10", Rows.laid_internal_strconv_uint64pow10)] W) : GlobP W ∧ GlobR W := by
  have h' : laidMet Tryd.prog [("annals/annalsref2.first", Rows.laid_annals_annalsref2_first), ("annals/annalsref2.table", Rows.laid_annals_annalsref2_table), ("math/bits.deBruijn32tab", Rows.laid_math_bits_deBruijn32tab), ("math/bits.deBruijn64tab", Rows.laid_math_bits_deBruijn64tab), ("annals/sha.begin", Rows.laid_annals_sha_begin), ("annals/sha.table", Rows.laid_annals_sha_table), ("internal/strconv.uint64pow10", Rows.laid_internal_strconv_uint64pow10)] W := h
  have h1 := h'
  have h2 := h'.tail
  rw [first_is] at h1
  rw [rtable_is] at h2
  have t1 := Lib.tabIs_of_head (show Tryd.prog.globalNamed "annals/annalsref2.first" = some 4 by kernel_rfl) (show (Tryd.prog.globals[4]?).map (·.type) = some 185 by kernel_rfl) Tryd.underlying185 Tryd.underlying157 cells32 cells8 h1
  have t2 := Lib.tabIs_of_head (show Tryd.prog.globalNamed "annals/annalsref2.table" = some 9 by kernel_rfl) (show (Tryd.prog.globals[9]?).map (·.type) = some 195 by kernel_rfl) Tryd.underlying195 Tryd.underlying157 cells32 cells64 h2
  exact ⟨⟨glob_begin h'.tail.tail.tail.tail, glob_table h'.tail.tail.tail.tail.tail⟩, fun i hi => t1.cell (by kernel_rfl) i (by rw [HB_len]; exact hi), fun i hi => t2.cell (by kernel_rfl) i (by rw [KT_len]; exact hi)⟩
/-- A table laid. -/
def cellsD : DataW Unit → List Value
  | .agg xs => xs.map fun
    | .lit v => match v with
      | .int k n => .int k n
      | _ => undef
    | _ => undef
  | _ => []
def putD (h : Array Obj) (g : Nat) (d : DataW Unit) : Array Obj := h.modify g fun | .cells _ t fr => .cells (cellsD d).toArray t fr | o => o
def putTs7 (h : Array Obj) : Array Obj := putD (putD (putD (putTs h) 7 Rows.laid_math_bits_deBruijn32tab) 8 Rows.laid_math_bits_deBruijn64tab) 3 Rows.laid_internal_strconv_uint64pow10
noncomputable def laidW7 (os : Os) : World := { World.holding Tryd.prog os ⟨#[], #[], []⟩ with heap := putTs7 (World.holding Tryd.prog os ⟨#[], #[], []⟩).heap }
end Go.Proofs.YtaaldkkfedinpaaDoor
set_option maxRecDepth 100000
namespace Go.Proofs.YtaaldkkfedinpaaDoor
open Go Go.RowKit

theorem pow_is : (Rows.laid_internal_strconv_uint64pow10 : DataW Unit) = Lib.tabData .u64 Lib.pow10Tab := rfl
theorem cellsU64 : Tryd.prog.cellsOf 145 = 1 := by kernel_rfl
theorem cellsP10 : Tryd.prog.cellsOf 169 = 20 := by kernel_rfl
theorem tab_of {W : World} {rest : List (String × DataW Unit)} (h : laidMet Tryd.prog (("internal/strconv.uint64pow10", Rows.laid_internal_strconv_uint64pow10) :: rest) W) : TabP W := by
  rw [pow_is] at h
  exact Lib.tabIs_of_head (show Tryd.prog.globalNamed "internal/strconv.uint64pow10" = some 3 by kernel_rfl) (show (Tryd.prog.globals[3]?).map (·.type) = some 169 by kernel_rfl) Tryd.underlying169 Tryd.underlying145 cellsU64 cellsP10 h
theorem globs57 {W : World} (h : laidMetH Tryd.prog [("annals/annalsref2.first", Rows.laid_annals_annalsref2_first), ("annals/annalsref2.table", Rows.laid_annals_annalsref2_table), ("math/bits.deBruijn32tab", Rows.laid_math_bits_deBruijn32tab), ("math/bits.deBruijn64tab", Rows.laid_math_bits_deBruijn64tab), ("internal/strconv.uint64pow10", Rows.laid_internal_strconv_uint64pow10)] W) : GlobR W ∧ TabP W := by
  have h' : laidMet Tryd.prog [("annals/annalsref2.first", Rows.laid_annals_annalsref2_first), ("annals/annalsref2.table", Rows.laid_annals_annalsref2_table), ("math/bits.deBruijn32tab", Rows.laid_math_bits_deBruijn32tab), ("math/bits.deBruijn64tab", Rows.laid_math_bits_deBruijn64tab), ("internal/strconv.uint64pow10", Rows.laid_internal_strconv_uint64pow10)] W := h
  have h1 := h'
  have h2 := h'.tail
  rw [first_is] at h1
  rw [rtable_is] at h2
  have t1 := Lib.tabIs_of_head (show Tryd.prog.globalNamed "annals/annalsref2.first" = some 4 by kernel_rfl) (show (Tryd.prog.globals[4]?).map (·.type) = some 185 by kernel_rfl) Tryd.underlying185 Tryd.underlying157 cells32 cells8 h1
  have t2 := Lib.tabIs_of_head (show Tryd.prog.globalNamed "annals/annalsref2.table" = some 9 by kernel_rfl) (show (Tryd.prog.globals[9]?).map (·.type) = some 195 by kernel_rfl) Tryd.underlying195 Tryd.underlying157 cells32 cells64 h2
  exact ⟨⟨fun i hi => t1.cell (by kernel_rfl) i (by rw [HB_len]; exact hi), fun i hi => t2.cell (by kernel_rfl) i (by rw [KT_len]; exact hi)⟩, tab_of h'.tail.tail.tail.tail⟩
end Go.Proofs.YtaaldkkfedinpaaDoor
set_option maxRecDepth 100000
namespace Go.Proofs.YtaaldkkfedinpaaDoor
open Go Go.RowKit

theorem globs77 {W : World} (h : laidMetH Tryd.prog [("annals/annalsref2.first", Rows.laid_annals_annalsref2_first), ("annals/annalsref2.table", Rows.laid_annals_annalsref2_table), ("math/bits.deBruijn32tab", Rows.laid_math_bits_deBruijn32tab), ("math/bits.deBruijn64tab", Rows.laid_math_bits_deBruijn64tab), ("annals/sha.begin", Rows.laid_annals_sha_begin), ("annals/sha.table", Rows.laid_annals_sha_table), ("internal/strconv.uint64pow10", Rows.laid_internal_strconv_uint64pow10)] W) : GlobP W ∧ GlobR W ∧ TabP W := by
  have h' : laidMet Tryd.prog [("annals/annalsref2.first", Rows.laid_annals_annalsref2_first), ("annals/annalsref2.table", Rows.laid_annals_annalsref2_table), ("math/bits.deBruijn32tab", Rows.laid_math_bits_deBruijn32tab), ("math/bits.deBruijn64tab", Rows.laid_math_bits_deBruijn64tab), ("annals/sha.begin", Rows.laid_annals_sha_begin), ("annals/sha.table", Rows.laid_annals_sha_table), ("internal/strconv.uint64pow10", Rows.laid_internal_strconv_uint64pow10)] W := h
  exact ⟨(globs7 h).1, (globs7 h).2, tab_of h'.tail.tail.tail.tail.tail.tail⟩
end Go.Proofs.YtaaldkkfedinpaaDoor
