/- Walks: numbers turned, words of a block. -/
import Derived.Test.YtaaldkkfedinpaaDoorSha
import Derived.Test.YtaaldkkfedinpaaDoorArgs
import Derived.WalkLawsBesides
set_option maxRecDepth 100000
namespace Go.Proofs.YtaaldkkfedinpaaDoor
open Go Go.RowKit

theorem rotr_2 (x : Int) (_h0 : 0 ≤ x) (_h1 : x < 4294967296) (w : World) :
    Calls Tryd.prog 156 #[.int .u32 x, .int .u64 2] w fun e w' => e = .returned (.int .u32 (rot 2 x)) ∧ w = w' := by
  go_enter Tryd.func156, Tryd.ntmps156
  go_wp2_with fail
  go_ret
  exact ⟨ret_int (by simp [rot]), rfl⟩
theorem turned_2 (x : Int) (h0 : 0 ≤ x) (h1 : x < 4294967296) (w : World) :
    Calls Tryd.prog 167 #[.int .u32 x, .int .i64 2] w fun e w' => e = .returned (.int .u32 (rot 2 x)) ∧ w = w' := by
  have hl : ∀ W : World, Calls Tryd.prog 170 #[.int .u32 x, .int .i64 (-2)] W fun e w' => e = .returned (.int .u32 (rot 2 x)) ∧ W = w' := by
    intro W
    have hand : Go.bits .and .u64 (IntKind.u64.wrap (-2)) 31 = 30 := by decide +kernel
    go_enter Tryd.func170, Tryd.ntmps170
    go_wp2_with fail
    go_ret
    exact ⟨ret_int (by rw [u32_or_comm _ _ (by omega) (by omega) (by omega) (by omega)]; simp [rot]), rfl⟩
  have HL := hid hl; clear hl
  go_enter Tryd.func167, Tryd.ntmps167
  go_wp2_with fail
  refine (HL.out _).mono ?_
  rintro e w' ⟨rfl, rfl⟩
  go_wp2_with fail
  go_ret
  exact ⟨rfl, rfl⟩
theorem rotr_6 (x : Int) (_h0 : 0 ≤ x) (_h1 : x < 4294967296) (w : World) :
    Calls Tryd.prog 156 #[.int .u32 x, .int .u64 6] w fun e w' => e = .returned (.int .u32 (rot 6 x)) ∧ w = w' := by
  go_enter Tryd.func156, Tryd.ntmps156
  go_wp2_with fail
  go_ret
  exact ⟨ret_int (by simp [rot]), rfl⟩
theorem turned_6 (x : Int) (h0 : 0 ≤ x) (h1 : x < 4294967296) (w : World) :
    Calls Tryd.prog 167 #[.int .u32 x, .int .i64 6] w fun e w' => e = .returned (.int .u32 (rot 6 x)) ∧ w = w' := by
  have hl : ∀ W : World, Calls Tryd.prog 170 #[.int .u32 x, .int .i64 (-6)] W fun e w' => e = .returned (.int .u32 (rot 6 x)) ∧ W = w' := by
    intro W
    have hand : Go.bits .and .u64 (IntKind.u64.wrap (-6)) 31 = 26 := by decide +kernel
    go_enter Tryd.func170, Tryd.ntmps170
    go_wp2_with fail
    go_ret
    exact ⟨ret_int (by rw [u32_or_comm _ _ (by omega) (by omega) (by omega) (by omega)]; simp [rot]), rfl⟩
  have HL := hid hl; clear hl
  go_enter Tryd.func167, Tryd.ntmps167
  go_wp2_with fail
  refine (HL.out _).mono ?_
  rintro e w' ⟨rfl, rfl⟩
  go_wp2_with fail
  go_ret
  exact ⟨rfl, rfl⟩
theorem rotr_7 (x : Int) (_h0 : 0 ≤ x) (_h1 : x < 4294967296) (w : World) :
    Calls Tryd.prog 156 #[.int .u32 x, .int .u64 7] w fun e w' => e = .returned (.int .u32 (rot 7 x)) ∧ w = w' := by
  go_enter Tryd.func156, Tryd.ntmps156
  go_wp2_with fail
  go_ret
  exact ⟨ret_int (by simp [rot]), rfl⟩
theorem turned_7 (x : Int) (h0 : 0 ≤ x) (h1 : x < 4294967296) (w : World) :
    Calls Tryd.prog 167 #[.int .u32 x, .int .i64 7] w fun e w' => e = .returned (.int .u32 (rot 7 x)) ∧ w = w' := by
  have hl : ∀ W : World, Calls Tryd.prog 170 #[.int .u32 x, .int .i64 (-7)] W fun e w' => e = .returned (.int .u32 (rot 7 x)) ∧ W = w' := by
    intro W
    have hand : Go.bits .and .u64 (IntKind.u64.wrap (-7)) 31 = 25 := by decide +kernel
    go_enter Tryd.func170, Tryd.ntmps170
    go_wp2_with fail
    go_ret
    exact ⟨ret_int (by rw [u32_or_comm _ _ (by omega) (by omega) (by omega) (by omega)]; simp [rot]), rfl⟩
  have HL := hid hl; clear hl
  go_enter Tryd.func167, Tryd.ntmps167
  go_wp2_with fail
  refine (HL.out _).mono ?_
  rintro e w' ⟨rfl, rfl⟩
  go_wp2_with fail
  go_ret
  exact ⟨rfl, rfl⟩
theorem rotr_11 (x : Int) (_h0 : 0 ≤ x) (_h1 : x < 4294967296) (w : World) :
    Calls Tryd.prog 156 #[.int .u32 x, .int .u64 11] w fun e w' => e = .returned (.int .u32 (rot 11 x)) ∧ w = w' := by
  go_enter Tryd.func156, Tryd.ntmps156
  go_wp2_with fail
  go_ret
  exact ⟨ret_int (by simp [rot]), rfl⟩
theorem turned_11 (x : Int) (h0 : 0 ≤ x) (h1 : x < 4294967296) (w : World) :
    Calls Tryd.prog 167 #[.int .u32 x, .int .i64 11] w fun e w' => e = .returned (.int .u32 (rot 11 x)) ∧ w = w' := by
  have hl : ∀ W : World, Calls Tryd.prog 170 #[.int .u32 x, .int .i64 (-11)] W fun e w' => e = .returned (.int .u32 (rot 11 x)) ∧ W = w' := by
    intro W
    have hand : Go.bits .and .u64 (IntKind.u64.wrap (-11)) 31 = 21 := by decide +kernel
    go_enter Tryd.func170, Tryd.ntmps170
    go_wp2_with fail
    go_ret
    exact ⟨ret_int (by rw [u32_or_comm _ _ (by omega) (by omega) (by omega) (by omega)]; simp [rot]), rfl⟩
  have HL := hid hl; clear hl
  go_enter Tryd.func167, Tryd.ntmps167
  go_wp2_with fail
  refine (HL.out _).mono ?_
  rintro e w' ⟨rfl, rfl⟩
  go_wp2_with fail
  go_ret
  exact ⟨rfl, rfl⟩
theorem rotr_13 (x : Int) (_h0 : 0 ≤ x) (_h1 : x < 4294967296) (w : World) :
    Calls Tryd.prog 156 #[.int .u32 x, .int .u64 13] w fun e w' => e = .returned (.int .u32 (rot 13 x)) ∧ w = w' := by
  go_enter Tryd.func156, Tryd.ntmps156
  go_wp2_with fail
  go_ret
  exact ⟨ret_int (by simp [rot]), rfl⟩
theorem turned_13 (x : Int) (h0 : 0 ≤ x) (h1 : x < 4294967296) (w : World) :
    Calls Tryd.prog 167 #[.int .u32 x, .int .i64 13] w fun e w' => e = .returned (.int .u32 (rot 13 x)) ∧ w = w' := by
  have hl : ∀ W : World, Calls Tryd.prog 170 #[.int .u32 x, .int .i64 (-13)] W fun e w' => e = .returned (.int .u32 (rot 13 x)) ∧ W = w' := by
    intro W
    have hand : Go.bits .and .u64 (IntKind.u64.wrap (-13)) 31 = 19 := by decide +kernel
    go_enter Tryd.func170, Tryd.ntmps170
    go_wp2_with fail
    go_ret
    exact ⟨ret_int (by rw [u32_or_comm _ _ (by omega) (by omega) (by omega) (by omega)]; simp [rot]), rfl⟩
  have HL := hid hl; clear hl
  go_enter Tryd.func167, Tryd.ntmps167
  go_wp2_with fail
  refine (HL.out _).mono ?_
  rintro e w' ⟨rfl, rfl⟩
  go_wp2_with fail
  go_ret
  exact ⟨rfl, rfl⟩
theorem rotr_17 (x : Int) (_h0 : 0 ≤ x) (_h1 : x < 4294967296) (w : World) :
    Calls Tryd.prog 156 #[.int .u32 x, .int .u64 17] w fun e w' => e = .returned (.int .u32 (rot 17 x)) ∧ w = w' := by
  go_enter Tryd.func156, Tryd.ntmps156
  go_wp2_with fail
  go_ret
  exact ⟨ret_int (by simp [rot]), rfl⟩
theorem turned_17 (x : Int) (h0 : 0 ≤ x) (h1 : x < 4294967296) (w : World) :
    Calls Tryd.prog 167 #[.int .u32 x, .int .i64 17] w fun e w' => e = .returned (.int .u32 (rot 17 x)) ∧ w = w' := by
  have hl : ∀ W : World, Calls Tryd.prog 170 #[.int .u32 x, .int .i64 (-17)] W fun e w' => e = .returned (.int .u32 (rot 17 x)) ∧ W = w' := by
    intro W
    have hand : Go.bits .and .u64 (IntKind.u64.wrap (-17)) 31 = 15 := by decide +kernel
    go_enter Tryd.func170, Tryd.ntmps170
    go_wp2_with fail
    go_ret
    exact ⟨ret_int (by rw [u32_or_comm _ _ (by omega) (by omega) (by omega) (by omega)]; simp [rot]), rfl⟩
  have HL := hid hl; clear hl
  go_enter Tryd.func167, Tryd.ntmps167
  go_wp2_with fail
  refine (HL.out _).mono ?_
  rintro e w' ⟨rfl, rfl⟩
  go_wp2_with fail
  go_ret
  exact ⟨rfl, rfl⟩
theorem rotr_18 (x : Int) (_h0 : 0 ≤ x) (_h1 : x < 4294967296) (w : World) :
    Calls Tryd.prog 156 #[.int .u32 x, .int .u64 18] w fun e w' => e = .returned (.int .u32 (rot 18 x)) ∧ w = w' := by
  go_enter Tryd.func156, Tryd.ntmps156
  go_wp2_with fail
  go_ret
  exact ⟨ret_int (by simp [rot]), rfl⟩
theorem turned_18 (x : Int) (h0 : 0 ≤ x) (h1 : x < 4294967296) (w : World) :
    Calls Tryd.prog 167 #[.int .u32 x, .int .i64 18] w fun e w' => e = .returned (.int .u32 (rot 18 x)) ∧ w = w' := by
  have hl : ∀ W : World, Calls Tryd.prog 170 #[.int .u32 x, .int .i64 (-18)] W fun e w' => e = .returned (.int .u32 (rot 18 x)) ∧ W = w' := by
    intro W
    have hand : Go.bits .and .u64 (IntKind.u64.wrap (-18)) 31 = 14 := by decide +kernel
    go_enter Tryd.func170, Tryd.ntmps170
    go_wp2_with fail
    go_ret
    exact ⟨ret_int (by rw [u32_or_comm _ _ (by omega) (by omega) (by omega) (by omega)]; simp [rot]), rfl⟩
  have HL := hid hl; clear hl
  go_enter Tryd.func167, Tryd.ntmps167
  go_wp2_with fail
  refine (HL.out _).mono ?_
  rintro e w' ⟨rfl, rfl⟩
  go_wp2_with fail
  go_ret
  exact ⟨rfl, rfl⟩
theorem rotr_19 (x : Int) (_h0 : 0 ≤ x) (_h1 : x < 4294967296) (w : World) :
    Calls Tryd.prog 156 #[.int .u32 x, .int .u64 19] w fun e w' => e = .returned (.int .u32 (rot 19 x)) ∧ w = w' := by
  go_enter Tryd.func156, Tryd.ntmps156
  go_wp2_with fail
  go_ret
  exact ⟨ret_int (by simp [rot]), rfl⟩
theorem turned_19 (x : Int) (h0 : 0 ≤ x) (h1 : x < 4294967296) (w : World) :
    Calls Tryd.prog 167 #[.int .u32 x, .int .i64 19] w fun e w' => e = .returned (.int .u32 (rot 19 x)) ∧ w = w' := by
  have hl : ∀ W : World, Calls Tryd.prog 170 #[.int .u32 x, .int .i64 (-19)] W fun e w' => e = .returned (.int .u32 (rot 19 x)) ∧ W = w' := by
    intro W
    have hand : Go.bits .and .u64 (IntKind.u64.wrap (-19)) 31 = 13 := by decide +kernel
    go_enter Tryd.func170, Tryd.ntmps170
    go_wp2_with fail
    go_ret
    exact ⟨ret_int (by rw [u32_or_comm _ _ (by omega) (by omega) (by omega) (by omega)]; simp [rot]), rfl⟩
  have HL := hid hl; clear hl
  go_enter Tryd.func167, Tryd.ntmps167
  go_wp2_with fail
  refine (HL.out _).mono ?_
  rintro e w' ⟨rfl, rfl⟩
  go_wp2_with fail
  go_ret
  exact ⟨rfl, rfl⟩
theorem rotr_22 (x : Int) (_h0 : 0 ≤ x) (_h1 : x < 4294967296) (w : World) :
    Calls Tryd.prog 156 #[.int .u32 x, .int .u64 22] w fun e w' => e = .returned (.int .u32 (rot 22 x)) ∧ w = w' := by
  go_enter Tryd.func156, Tryd.ntmps156
  go_wp2_with fail
  go_ret
  exact ⟨ret_int (by simp [rot]), rfl⟩
theorem turned_22 (x : Int) (h0 : 0 ≤ x) (h1 : x < 4294967296) (w : World) :
    Calls Tryd.prog 167 #[.int .u32 x, .int .i64 22] w fun e w' => e = .returned (.int .u32 (rot 22 x)) ∧ w = w' := by
  have hl : ∀ W : World, Calls Tryd.prog 170 #[.int .u32 x, .int .i64 (-22)] W fun e w' => e = .returned (.int .u32 (rot 22 x)) ∧ W = w' := by
    intro W
    have hand : Go.bits .and .u64 (IntKind.u64.wrap (-22)) 31 = 10 := by decide +kernel
    go_enter Tryd.func170, Tryd.ntmps170
    go_wp2_with fail
    go_ret
    exact ⟨ret_int (by rw [u32_or_comm _ _ (by omega) (by omega) (by omega) (by omega)]; simp [rot]), rfl⟩
  have HL := hid hl; clear hl
  go_enter Tryd.func167, Tryd.ntmps167
  go_wp2_with fail
  refine (HL.out _).mono ?_
  rintro e w' ⟨rfl, rfl⟩
  go_wp2_with fail
  go_ret
  exact ⟨rfl, rfl⟩
theorem rotr_25 (x : Int) (_h0 : 0 ≤ x) (_h1 : x < 4294967296) (w : World) :
    Calls Tryd.prog 156 #[.int .u32 x, .int .u64 25] w fun e w' => e = .returned (.int .u32 (rot 25 x)) ∧ w = w' := by
  go_enter Tryd.func156, Tryd.ntmps156
  go_wp2_with fail
  go_ret
  exact ⟨ret_int (by simp [rot]), rfl⟩
theorem turned_25 (x : Int) (h0 : 0 ≤ x) (h1 : x < 4294967296) (w : World) :
    Calls Tryd.prog 167 #[.int .u32 x, .int .i64 25] w fun e w' => e = .returned (.int .u32 (rot 25 x)) ∧ w = w' := by
  have hl : ∀ W : World, Calls Tryd.prog 170 #[.int .u32 x, .int .i64 (-25)] W fun e w' => e = .returned (.int .u32 (rot 25 x)) ∧ W = w' := by
    intro W
    have hand : Go.bits .and .u64 (IntKind.u64.wrap (-25)) 31 = 7 := by decide +kernel
    go_enter Tryd.func170, Tryd.ntmps170
    go_wp2_with fail
    go_ret
    exact ⟨ret_int (by rw [u32_or_comm _ _ (by omega) (by omega) (by omega) (by omega)]; simp [rot]), rfl⟩
  have HL := hid hl; clear hl
  go_enter Tryd.func167, Tryd.ntmps167
  go_wp2_with fail
  refine (HL.out _).mono ?_
  rintro e w' ⟨rfl, rfl⟩
  go_wp2_with fail
  go_ret
  exact ⟨rfl, rfl⟩
/-- The turns that are used. -/
def turns : List Int := [2, 6, 7, 11, 13, 17, 18, 19, 22, 25]
theorem turned_any (n : Int) (x : Int) (hn : turns.contains n = true) (h0 : 0 ≤ x) (h1 : x < 4294967296) (w : World) :
    Calls Tryd.prog 167 #[.int .u32 x, .int .i64 n] w fun e w' => e = .returned (.int .u32 (rot n.toNat x)) ∧ w = w' := by
  simp [turns] at hn
  obtain rfl | rfl | rfl | rfl | rfl | rfl | rfl | rfl | rfl | rfl := hn
  · exact turned_2 x h0 h1 w
  · exact turned_6 x h0 h1 w
  · exact turned_7 x h0 h1 w
  · exact turned_11 x h0 h1 w
  · exact turned_13 x h0 h1 w
  · exact turned_17 x h0 h1 w
  · exact turned_18 x h0 h1 w
  · exact turned_19 x h0 h1 w
  · exact turned_22 x h0 h1 w
  · exact turned_25 x h0 h1 w
theorem rotr_any (n : Int) (x : Int) (hn : turns.contains n = true) (h0 : 0 ≤ x) (h1 : x < 4294967296) (w : World) :
    Calls Tryd.prog 156 #[.int .u32 x, .int .u64 n] w fun e w' => e = .returned (.int .u32 (rot n.toNat x)) ∧ w = w' := by
  simp [turns] at hn
  obtain rfl | rfl | rfl | rfl | rfl | rfl | rfl | rfl | rfl | rfl := hn
  · exact rotr_2 x h0 h1 w
  · exact rotr_6 x h0 h1 w
  · exact rotr_7 x h0 h1 w
  · exact rotr_11 x h0 h1 w
  · exact rotr_13 x h0 h1 w
  · exact rotr_17 x h0 h1 w
  · exact rotr_18 x h0 h1 w
  · exact rotr_19 x h0 h1 w
  · exact rotr_22 x h0 h1 w
  · exact rotr_25 x h0 h1 w
end Go.Proofs.YtaaldkkfedinpaaDoor
