/- The tables that a row lists: what the walks know of them; a world that holds them. -/
import Derived.Test.YtaaldkkfedinpaaDoorSha
import Derived.Stop.LaidErr
import Derived.Below
set_option maxRecDepth 100000
namespace Go.Proofs.YtaaldkkfedinpaaDoor
open Go Go.RowKit

theorem cells32 : Tryd.prog.cellsOf 157 = 1 := by kernel_rfl
theorem cells8 : Tryd.prog.cellsOf 185 = 8 := by kernel_rfl
theorem cells8s : Tryd.prog.cellsOf 198 = 8 := by kernel_rfl
theorem cells64 : Tryd.prog.cellsOf 195 = 64 := by kernel_rfl
theorem begin_is : (Rows.laid_annals_sha_begin : DataW Unit) = Lib.tabData .u32 HB := rfl
theorem table_is : (Rows.laid_annals_sha_table : DataW Unit) = Lib.tabData .u32 KT := rfl
theorem glob_begin {W : World} {rest : List (String × DataW Unit)} (h : laidMet Tryd.prog (("annals/sha.begin", Rows.laid_annals_sha_begin) :: rest) W) : ∀ i, i < 8 → W.cell? ⟨10, i, none⟩ = some (.int .u32 (HB.getD i 0)) := by
  rw [begin_is] at h
  have ht := Lib.tabIs_of_head (show Tryd.prog.globalNamed "annals/sha.begin" = some 10 by kernel_rfl) (show (Tryd.prog.globals[10]?).map (·.type) = some 198 by kernel_rfl) Tryd.underlying198 Tryd.underlying157 cells32 cells8s h
  intro i hi
  exact ht.cell (by kernel_rfl) i (by rw [HB_len]; exact hi)
theorem glob_table {W : World} {rest : List (String × DataW Unit)} (h : laidMet Tryd.prog (("annals/sha.table", Rows.laid_annals_sha_table) :: rest) W) : ∀ i, i < 64 → W.cell? ⟨11, i, none⟩ = some (.int .u32 (KT.getD i 0)) := by
  rw [table_is] at h
  have ht := Lib.tabIs_of_head (show Tryd.prog.globalNamed "annals/sha.table" = some 11 by kernel_rfl) (show (Tryd.prog.globals[11]?).map (·.type) = some 195 by kernel_rfl) Tryd.underlying195 Tryd.underlying157 cells32 cells64 h
  intro i hi
  exact ht.cell (by kernel_rfl) i (by rw [KT_len]; exact hi)
theorem globs2 {W : World} (h : laidMetH Tryd.prog [("annals/sha.begin", Rows.laid_annals_sha_begin), ("annals/sha.table", Rows.laid_annals_sha_table)] W) : GlobP W := by
  have h' : laidMet Tryd.prog [("annals/sha.begin", Rows.laid_annals_sha_begin), ("annals/sha.table", Rows.laid_annals_sha_table)] W := h
  exact ⟨glob_begin h', glob_table h'.tail⟩
theorem first_is : (Rows.laid_annals_annalsref2_first : DataW Unit) = Lib.tabData .u32 HB := rfl
theorem rtable_is : (Rows.laid_annals_annalsref2_table : DataW Unit) = Lib.tabData .u32 KT := rfl
theorem globs4 {W : World} (h : laidMetH Tryd.prog [("annals/annalsref2.first", Rows.laid_annals_annalsref2_first), ("annals/annalsref2.table", Rows.laid_annals_annalsref2_table), ("annals/sha.begin", Rows.laid_annals_sha_begin), ("annals/sha.table", Rows.laid_annals_sha_table)] W) : GlobP W ∧ GlobR W := by
  have h' : laidMet Tryd.prog [("annals/annalsref2.first", Rows.laid_annals_annalsref2_first), ("annals/annalsref2.table", Rows.laid_annals_annalsref2_table), ("annals/sha.begin", Rows.laid_annals_sha_begin), ("annals/sha.table", Rows.laid_annals_sha_table)] W := h
  have h1 := h'
  have h2 := h'.tail
  rw [first_is] at h1
  rw [rtable_is] at h2
  have t1 := Lib.tabIs_of_head (show Tryd.prog.globalNamed "annals/annalsref2.first" = some 4 by kernel_rfl) (show (Tryd.prog.globals[4]?).map (·.type) = some 185 by kernel_rfl) Tryd.underlying185 Tryd.underlying157 cells32 cells8 h1
  have t2 := Lib.tabIs_of_head (show Tryd.prog.globalNamed "annals/annalsref2.table" = some 9 by kernel_rfl) (show (Tryd.prog.globals[9]?).map (·.type) = some 195 by kernel_rfl) Tryd.underlying195 Tryd.underlying157 cells32 cells64 h2
  exact ⟨⟨glob_begin h'.tail.tail, glob_table h'.tail.tail.tail⟩, fun i hi => t1.cell (by kernel_rfl) i (by rw [HB_len]; exact hi), fun i hi => t2.cell (by kernel_rfl) i (by rw [KT_len]; exact hi)⟩

/-- A start at which the tables hold what they are listed with. -/
def putT (h : Array Obj) (g : Nat) (zs : List Int) : Array Obj := h.modify g fun | .cells _ t fr => .cells (zs.map (Value.int .u32)).toArray t fr | o => o
def putTs (h : Array Obj) : Array Obj := putT (putT (putT (putT h 10 HB) 11 KT) 4 HB) 9 KT
noncomputable def laidW (os : Os) : World := { World.holding Tryd.prog os ⟨#[], #[], []⟩ with heap := putTs (World.holding Tryd.prog os ⟨#[], #[], []⟩).heap }
end Go.Proofs.YtaaldkkfedinpaaDoor
