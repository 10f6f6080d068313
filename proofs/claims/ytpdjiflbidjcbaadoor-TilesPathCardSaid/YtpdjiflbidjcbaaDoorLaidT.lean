/- The tables that a tile's path lists: what its walk knows of them; a world that holds them. -/
import Derived.Test.YtpdjiflbidjcbaaDoorTPath
import Derived.Test.YtpdjiflbidjcbaaDoorRows
import Derived.Stop.LaidErr
set_option maxRecDepth 100000
namespace Go.Proofs.YtpdjiflbidjcbaaDoor
open Go Go.RowKit

theorem pow_is : (Rows.laid_internal_strconv_uint64pow10 : DataW Unit) = Lib.tabData .u64 Lib.pow10Tab := rfl
theorem cellsU64 : Tryd.prog.cellsOf 36 = 1 := by kernel_rfl
theorem cellsP10 : Tryd.prog.cellsOf 44 = 20 := by kernel_rfl
theorem tab_of {W : World} {rest : List (String × DataW Unit)} (h : laidMet Tryd.prog (("internal/strconv.uint64pow10", Rows.laid_internal_strconv_uint64pow10) :: rest) W) : TabP W := by
  rw [pow_is] at h
  exact Lib.tabIs_of_head (show Tryd.prog.globalNamed "internal/strconv.uint64pow10" = some 0 by kernel_rfl) (show (Tryd.prog.globals[0]?).map (·.type) = some 44 by kernel_rfl) Tryd.underlying44 Tryd.underlying36 cellsU64 cellsP10 h
theorem tabs3 {W : World} (h : laidMetH Tryd.prog [("math/bits.deBruijn32tab", Rows.laid_math_bits_deBruijn32tab), ("math/bits.deBruijn64tab", Rows.laid_math_bits_deBruijn64tab), ("internal/strconv.uint64pow10", Rows.laid_internal_strconv_uint64pow10)] W) : TabP W := by
  have h' : laidMet Tryd.prog [("math/bits.deBruijn32tab", Rows.laid_math_bits_deBruijn32tab), ("math/bits.deBruijn64tab", Rows.laid_math_bits_deBruijn64tab), ("internal/strconv.uint64pow10", Rows.laid_internal_strconv_uint64pow10)] W := h
  exact tab_of h'.tail.tail
def cellsD : DataW Unit → List Value
  | .agg xs => xs.map fun
    | .lit v => match v with
      | .int k n => .int k n
      | _ => undef
    | _ => undef
  | _ => []
def putD (h : Array Obj) (g : Nat) (d : DataW Unit) : Array Obj := h.modify g fun | .cells _ t fr => .cells (cellsD d).toArray t fr | o => o
def putTs (h : Array Obj) : Array Obj := putD (putD (putD h 1 Rows.laid_math_bits_deBruijn32tab) 2 Rows.laid_math_bits_deBruijn64tab) 0 Rows.laid_internal_strconv_uint64pow10
noncomputable def laidW (os : Os) : World := { World.holding Tryd.prog os ⟨#[], #[], []⟩ with heap := putTs (World.holding Tryd.prog os ⟨#[], #[], []⟩).heap }
end Go.Proofs.YtpdjiflbidjcbaaDoor
