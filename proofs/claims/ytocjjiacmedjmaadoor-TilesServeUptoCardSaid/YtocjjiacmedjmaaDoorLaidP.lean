/- The seven tables as they are laid: SHA's, both sides, and those that print numbers. -/
import Derived.Test.YtocjjiacmedjmaaDoorLaidG
set_option maxRecDepth 100000
namespace Go.Proofs.YtocjjiacmedjmaaDoor
open Go Go.RowKit

theorem globs7 {W : World} (h : laidMetH Tryd.prog [("annals/annalsref2.first", Rows.laid_annals_annalsref2_first), ("annals/annalsref2.table", Rows.laid_annals_annalsref2_table), ("math/bits.deBruijn32tab", Rows.laid_math_bits_deBruijn32tab), ("math/bits.deBruijn64tab", Rows.laid_math_bits_deBruijn64tab), ("annals/sha.begin", Rows.laid_annals_sha_begin), ("annals/sha.table", Rows.laid_annals_sha_table), ("internal/strconv.uint64pow10", Rows.laid_internal_strconv_uint64pow10)] W) : GlobP W ∧ GlobR W := by
  have h' : laidMet Tryd.prog [("annals/annalsref2.first", Rows.laid_annals_annalsref2_first), ("annals/annalsref2.table", Rows.laid_annals_annalsref2_table), ("math/bits.deBruijn32tab", Rows.laid_math_bits_deBruijn32tab), ("math/bits.deBruijn64tab", Rows.laid_math_bits_deBruijn64tab), ("annals/sha.begin", Rows.laid_annals_sha_begin), ("annals/sha.table", Rows.laid_annals_sha_table), ("internal/strconv.uint64pow10", Rows.laid_internal_strconv_uint64pow10)] W := h
  have h1 := h'
  have h2 := h'.tail
  rw [first_is] at h1
  rw [rtable_is] at h2
  have t1 := Lib.tabIs_of_head (show Tryd.prog.globalNamed "annals/annalsref2.first" = some 0 by kernel_rfl) (show (Tryd.prog.globals[0]?).map (·.type) = some 113 by kernel_rfl) Tryd.underlying113 Tryd.underlying112 cells32 cells8 h1
  have t2 := Lib.tabIs_of_head (show Tryd.prog.globalNamed "annals/annalsref2.table" = some 2 by kernel_rfl) (show (Tryd.prog.globals[2]?).map (·.type) = some 130 by kernel_rfl) Tryd.underlying130 Tryd.underlying112 cells32 cells64 h2
  exact ⟨⟨glob_begin h'.tail.tail.tail.tail, glob_table h'.tail.tail.tail.tail.tail⟩, fun i hi => t1.cell (by kernel_rfl) i (by rw [HB_len]; exact hi), fun i hi => t2.cell (by kernel_rfl) i (by rw [KT_len]; exact hi)⟩
/-- A table laid. -/
def cellsD : DataW Unit → List Value
  | .agg xs => xs.map fun
    | .lit v => match v with
      | .int k n => .int k n
      | _ => undef
    | _ => undef
  | _ => []
def putD (h : Array Obj) (g : Nat) (d : DataW Unit) : Array Obj := h.modify g fun | .cells _ t fr => .cells (cellsD d).toArray t fr | o => o
def putTs7 (h : Array Obj) : Array Obj := putD (putD (putD (putTs h) 9 Rows.laid_math_bits_deBruijn32tab) 10 Rows.laid_math_bits_deBruijn64tab) 5 Rows.laid_internal_strconv_uint64pow10
noncomputable def laidW7 (os : Os) : World := { World.holding Tryd.prog os ⟨#[], #[], []⟩ with heap := putTs7 (World.holding Tryd.prog os ⟨#[], #[], []⟩).heap }
end Go.Proofs.YtocjjiacmedjmaaDoor
