/- A world that holds the tables that the closed laws list; their walks look at none. -/
import Derived.Test.YtmgendpmmepglaaDoorKit
import Derived.Test.YtmgendpmmepglaaDoorRows
import Derived.Stop.LaidErr
import Derived.Below
set_option maxRecDepth 100000
namespace Go.Proofs.YtmgendpmmepglaaDoor
open Go Go.RowKit

theorem globs0 {W : World} {l : List (String × DataW Unit)} (_h : laidMetH Tryd.prog l W) : True := trivial
def cellsD : DataW Unit → List Value
  | .agg xs => xs.map fun
    | .lit v => match v with
      | .int k n => .int k n
      | _ => undef
    | _ => undef
  | _ => []
def putD (h : Array Obj) (g : Nat) (d : DataW Unit) : Array Obj := h.modify g fun | .cells _ t fr => .cells (cellsD d).toArray t fr | o => o
def putTs (h : Array Obj) : Array Obj := putD (putD (putD (putD (putD h 2 Rows.laid_annals_sha_begin) 3 Rows.laid_annals_sha_table) 4 Rows.laid_math_bits_deBruijn32tab) 5 Rows.laid_math_bits_deBruijn64tab) 1 Rows.laid_internal_strconv_uint64pow10
noncomputable def laidW (os : Os) : World := { World.holding Tryd.prog os ⟨#[], #[], []⟩ with heap := putTs (World.holding Tryd.prog os ⟨#[], #[], []⟩).heap }
end Go.Proofs.YtmgendpmmepglaaDoor
