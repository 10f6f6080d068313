/- The seven tables, and what is read of those that print numbers. -/
import Derived.Test.YtaaldkkfedinpaaDoorSha
import Derived.Stop.LaidErr
import Derived.Below
import Derived.Test.YtaaldkkfedinpaaDoorSrc2
set_option maxRecDepth 100000
namespace Go.Proofs.YtaaldkkfedinpaaDoor
open Go Go.RowKit

theorem cells32 : Tryd.prog.cellsOf 157 = 1 := by kernel_rfl
theorem cells8 : Tryd.prog.cellsOf 185 = 8 := by kernel_rfl
theorem cells8s : Tryd.prog.cellsOf 198 = 8 := by kernel_rfl
theorem cells64 : Tryd.prog.cellsOf 195 = 64 := by kernel_rfl
theorem begin_is : (Rows.laid_annals_sha_begin : DataW Unit) = Lib.tabData .u32 HB := rfl
theorem table_is : (Rows.laid_annals_sha_table : DataW Unit) = Lib.tabData .u32 KT := rfl
theorem glob_begin {W : World} {rest : List (String × DataW Unit)} (h : laidMet Tryd.prog (("annals/sha.begin", Rows.laid_annals_sha_begin) :: rest) W) : ∀ i, i < 8 → W.cell? ⟨10, i, none⟩ = some (.int .u32 (HB.getD i 0)) := by
  rw [begin_is] at h
  have ht := Lib.tabIs_of_head (show Tryd.prog.globalNamed "annals/sha.begin" = some 10 by kernel_rfl) (show (Tryd.prog.globals[10]?).map (·.type) = some 198 by kernel_rfl) Tryd.underlying198 Tryd.underlying157 cells32 cells8s h
  intro i hi
  exact ht.cell (by kernel_rfl) i (by rw [HB_len]; exact hi)
theorem glob_table {W : World} {rest : List (String × DataW Unit)} (h : laidMet Tryd.prog (("annals/sha.table", Rows.laid_annals_sha_table) :: rest) W) : ∀ i, i < 64 → W.cell? ⟨11, i, none⟩ = some (.int .u32 (KT.getD i 0)) := by
  rw [table_is] at h
  have ht := Lib.tabIs_of_head (show Tryd.prog.globalNamed "annals/sha.table" = some 11 by kernel_rfl) (show (Tryd.prog.globals[11]?).map (·.type) = some 195 by kernel_rfl) Tryd.underlying195 Tryd.underlying157 cells32 cells64 h
  intro i hi
  exact ht.cell (by kernel_rfl) i (by rw [KT_len]; exact hi)
theorem globs2 {W : World} (h : laidMetH Tryd.prog [("annals/sha.begin", Rows.laid_annals_sha_begin), ("annals/sha.table", Rows.laid_annals_sha_table)] W) : GlobP W := by
  have h' : laidMet Tryd.prog [("annals/sha.begin", Rows.laid_annals_sha_begin), ("annals/sha.table", Rows.laid_annals_sha_table)] W := h
  exact ⟨glob_begin h', glob_table h'.tail⟩
theorem first_is : (Rows.laid_annals_annalsref2_first : DataW Unit) = Lib.tabData .u32 HB := rfl
theorem rtable_is : (Rows.laid_annals_annalsref2_table : DataW Unit) = Lib.tabData .u32 KT := rfl
theorem globs4 {W : World} (h : laidMetH Tryd.prog [("annals/annalsref2.first", Rows.laid_annals_annalsref2_first), ("annals/annalsref2.table", Rows.laid_annals_annalsref2_table), ("annals/sha.begin", Rows.laid_annals_sha_begin), ("annals/sha.table", Rows.laid_annals_sha_table)] W) : GlobP W ∧ GlobR W := by
  have h' : laidMet Tryd.prog [("annals/annalsref2.first", Rows.laid_annals_annalsref2_first), ("annals/annalsref2.table", Rows.laid_annals_annalsref2_table), ("annals/sha.begin", Rows.laid_annals_sha_begin), ("annals/sha.table", Rows.laid_annals_sha_table)] W := h
  have h1 := h'
  have h2 := h'.tail
  rw [first_is] at h1
  rw [rtable_is] at h2
  have t1 := Lib.tabIs_of_head (show Tryd.prog.globalNamed "annals/annalsref2.first" = some 4 by kernel_rfl) (show (Tryd.prog.globals[4]?).map (·.type) = some 185 by kernel_rfl) Tryd.underlying185 Tryd.underlying157 cells32 cells8 h1
  have t2 := Lib.tabIs_of_head (show Tryd.prog.globalNamed "annals/annalsref2.table" = some 9 by kernel_rfl) (show (Tryd.prog.globals[9]?).map (·.type) = some 195 by kernel_rfl) Tryd.underlying195 Tryd.underlying157 cells32 cells64 h2
  exact ⟨⟨glob_begin h'.tail.tail, glob_table h'.tail.tail.tail⟩, fun i hi => t1.cell (by kernel_rfl) i (by rw [HB_len]; exact hi), fun i hi => t2.cell (by kernel_rfl) i (by rw [KT_len]; exact hi)⟩

/-- A start at which the tables hold what they are listed with. -/
def putT (h : Array Obj) (g : Nat) (zs : List Int) : Array Obj := h.modify g fun | .cells _ t fr => .cells (zs.map (Value.int .u32)).toArray t fr | o => o
def putTs (h : Array Obj) : Array Obj := putT (putT (putT (putT h 10 HB) 11 KT) 4 HB) 9 KT
noncomputable def laidW (os : Os) : World := { World.holding Tryd.prog os ⟨#[], #[], []⟩ with heap := putTs (World.holding Tryd.prog os ⟨#[], #[], []⟩).heap }
end Go.Proofs.YtaaldkkfedinpaaDoor
set_option maxRecDepth 100000
namespace Go.Proofs.YtaaldkkfedinpaaDoor
open Go Go.RowKit

theorem globs7 {W : World} (h : laidMetH Tryd.prog [("annals/annalsref2.first", Rows.laid_annals_annalsref2_first), ("annals/annalsref2.table", Rows.laid_annals_annalsref2_table), ("math/bits.deBruijn32tab", Rows.laid_math_bits_deBruijn32tab), ("math/bits.deBruijn64tab", Rows.laid_math_bits_deBruijn64tab), ("annals/sha.begin", Rows.laid_annals_sha_begin), ("annals/sha.table", Rows.laid_annals_sha_table), ("internal/strconv.uint64pow10", Rows.laid_internal_strconv_uint64pow10)] W) : GlobP W ∧ GlobR W := by
  have h' : laidMet Tryd.prog [("annals/annalsref2.first", Rows.laid_annals_annalsref2_first), ("annals/annalsref2.table", Rows.laid_annals_annalsref2_table), ("math/bits.deBruijn32tab", Rows.laid_math_bits_deBruijn32tab), ("math/bits.deBruijn64tab", Rows.laid_math_bits_deBruijn64tab), ("annals/sha.begin", Rows.laid_annals_sha_begin), ("annals/sha.table", Rows.laid_annals_sha_table), ("internal/strconv.uint64pow10", Rows.laid_internal_strconv_uint64pow10)] W := h
  have h1 := h'
  have h2 := h'.tail
  rw [first_is] at h1
  rw [rtable_is] at h2
  have t1 := Lib.tabIs_of_head (show Tryd.prog.globalNamed "annals/annalsref2.first" = some 4 by kernel_rfl) (show (Tryd.prog.globals[4]?).map (·.type) = some 185 by kernel_rfl) Tryd.underlying185 Tryd.underlying157 cells32 cells8 h1
  have t2 := Lib.tabIs_of_head (show Tryd.prog.globalNamed "annals/annalsref2.table" = some 9 by kernel_rfl) (show (Tryd.prog.globals[9]?).map (·.type) = some 195 by kernel_rfl) Tryd.underlying195 Tryd.underlying157 cells32 cells64 h2
  exact ⟨⟨glob_begin h'.tail.tail.tail.tail, glob_table h'.tail.tail.tail.tail.tail⟩, fun i hi => t1.cell (by kernel_rfl) i (by rw [HB_len]; exact hi), fun i hi => t2.cell (by kernel_rfl) i (by rw [KT_len]; exact hi)⟩
/-- A table laid. -/
def cellsD : DataW Unit → List Value
  | .agg xs => xs.map fun
    | .lit v => match v with
      | .int k n => .int k n
      | _ => undef
    | _ => undef
  | _ => []
def putD (h : Array Obj) (g : Nat) (d : DataW Unit) : Array Obj := h.modify g fun | .cells _ t fr => .cells (cellsD d).toArray t fr | o => o
def putTs7 (h : Array Obj) : Array Obj := putD (putD (putD (putTs h) 7 Rows.laid_math_bits_deBruijn32tab) 8 Rows.laid_math_bits_deBruijn64tab) 3 Rows.laid_internal_strconv_uint64pow10
noncomputable def laidW7 (os : Os) : World := { World.holding Tryd.prog os ⟨#[], #[], []⟩ with heap := putTs7 (World.holding Tryd.prog os ⟨#[], #[], []⟩).heap }
end Go.Proofs.YtaaldkkfedinpaaDoor
set_option maxRecDepth 100000
namespace Go.Proofs.YtaaldkkfedinpaaDoor
open Go Go.RowKit

theorem pow_is : (Rows.laid_internal_strconv_uint64pow10 : DataW Unit) = Lib.tabData .u64 Lib.pow10Tab := rfl
theorem cellsU64 : Tryd.prog.cellsOf 145 = 1 := by kernel_rfl
theorem cellsP10 : Tryd.prog.cellsOf 169 = 20 := by kernel_rfl
theorem tab_of {W : World} {rest : List (String × DataW Unit)} (h : laidMet Tryd.prog (("internal/strconv.uint64pow10", Rows.laid_internal_strconv_uint64pow10) :: rest) W) : TabP W := by
  rw [pow_is] at h
  exact Lib.tabIs_of_head (show Tryd.prog.globalNamed "internal/strconv.uint64pow10" = some 3 by kernel_rfl) (show (Tryd.prog.globals[3]?).map (·.type) = some 169 by kernel_rfl) Tryd.underlying169 Tryd.underlying145 cellsU64 cellsP10 h
theorem globs57 {W : World} (h : laidMetH Tryd.prog [("annals/annalsref2.first", Rows.laid_annals_annalsref2_first), ("annals/annalsref2.table", Rows.laid_annals_annalsref2_table), ("math/bits.deBruijn32tab", Rows.laid_math_bits_deBruijn32tab), ("math/bits.deBruijn64tab", Rows.laid_math_bits_deBruijn64tab), ("internal/strconv.uint64pow10", Rows.laid_internal_strconv_uint64pow10)] W) : GlobR W ∧ TabP W := by
  have h' : laidMet Tryd.prog [("annals/annalsref2.first", Rows.laid_annals_annalsref2_first), ("annals/annalsref2.table", Rows.laid_annals_annalsref2_table), ("math/bits.deBruijn32tab", Rows.laid_math_bits_deBruijn32tab), ("math/bits.deBruijn64tab", Rows.laid_math_bits_deBruijn64tab), ("internal/strconv.uint64pow10", Rows.laid_internal_strconv_uint64pow10)] W := h
  have h1 := h'
  have h2 := h'.tail
  rw [first_is] at h1
  rw [rtable_is] at h2
  have t1 := Lib.tabIs_of_head (show Tryd.prog.globalNamed "annals/annalsref2.first" = some 4 by kernel_rfl) (show (Tryd.prog.globals[4]?).map (·.type) = some 185 by kernel_rfl) Tryd.underlying185 Tryd.underlying157 cells32 cells8 h1
  have t2 := Lib.tabIs_of_head (show Tryd.prog.globalNamed "annals/annalsref2.table" = some 9 by kernel_rfl) (show (Tryd.prog.globals[9]?).map (·.type) = some 195 by kernel_rfl) Tryd.underlying195 Tryd.underlying157 cells32 cells64 h2
  exact ⟨⟨fun i hi => t1.cell (by kernel_rfl) i (by rw [HB_len]; exact hi), fun i hi => t2.cell (by kernel_rfl) i (by rw [KT_len]; exact hi)⟩, tab_of h'.tail.tail.tail.tail⟩
end Go.Proofs.YtaaldkkfedinpaaDoor
set_option maxRecDepth 100000
namespace Go.Proofs.YtaaldkkfedinpaaDoor
open Go Go.RowKit

theorem globs77 {W : World} (h : laidMetH Tryd.prog [("annals/annalsref2.first", Rows.laid_annals_annalsref2_first), ("annals/annalsref2.table", Rows.laid_annals_annalsref2_table), ("math/bits.deBruijn32tab", Rows.laid_math_bits_deBruijn32tab), ("math/bits.deBruijn64tab", Rows.laid_math_bits_deBruijn64tab), ("annals/sha.begin", Rows.laid_annals_sha_begin), ("annals/sha.table", Rows.laid_annals_sha_table), ("internal/strconv.uint64pow10", Rows.laid_internal_strconv_uint64pow10)] W) : GlobP W ∧ GlobR W ∧ TabP W := by
  have h' : laidMet Tryd.prog [("annals/annalsref2.first", Rows.laid_annals_annalsref2_first), ("annals/annalsref2.table", Rows.laid_annals_annalsref2_table), ("math/bits.deBruijn32tab", Rows.laid_math_bits_deBruijn32tab), ("math/bits.deBruijn64tab", Rows.laid_math_bits_deBruijn64tab), ("annals/sha.begin", Rows.laid_annals_sha_begin), ("annals/sha.table", Rows.laid_annals_sha_table), ("internal/strconv.uint64pow10", Rows.laid_internal_strconv_uint64pow10)] W := h
  exact ⟨(globs7 h).1, (globs7 h).2, tab_of h'.tail.tail.tail.tail.tail.tail⟩
end Go.Proofs.YtaaldkkfedinpaaDoor
