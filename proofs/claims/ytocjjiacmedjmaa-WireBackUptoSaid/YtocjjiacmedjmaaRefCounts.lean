/- Walks of the reference's ranges, shape, Count; that its count is the program's. -/
import Derived.Test.YtocjjiacmedjmaaCounts
import Derived.Deep.QuietTactic
import Derived.BigQuiet
set_option maxRecDepth 100000
namespace Go.Proofs.Ytocjjiacmedjmaa
open Go Go.RowKit

theorem info_int : (Try.prog.info? 3).map (fun i => (i.zero, i.size, i.bytes)) = some (some (.int .i64 0), 1, 8) := by kernel_rfl

/-- The numbers from a up to b. -/
def inside (xs : List Int) (a b : Int) : List Int := xs.filter fun x => decide (a ≤ x ∧ x < b)
theorem inside_len (xs : List Int) (a b : Int) : (inside xs a b).length ≤ xs.length := List.length_filter_le _ _
theorem inside_take (xs : List Int) (a b : Int) (k : Nat) (h : k < xs.length) : inside (xs.take (k + 1)) a b = inside (xs.take k) a b ++ if a ≤ xs[k] ∧ xs[k] < b then [xs[k]] else [] := by
  unfold inside
  rw [List.take_succ_eq_append_getElem h, List.filter_append]
  by_cases hc : a ≤ xs[k] ∧ xs[k] < b <;> simp [hc]
theorem inside_inside (xs : List Int) (a b c d : Int) (h1 : a ≤ c) (h2 : d ≤ b) : inside (inside xs a b) c d = inside xs c d := by
  unfold inside
  rw [List.filter_filter]
  congr 1
  funext x
  rw [Bool.eq_iff_iff]; simp; omega

theorem RowAt.own {w : World} {base e n : Nat} {v : Value} {xs : List Int} (h : w.ownsRow base e 1 v n (ints xs)) : ∃ ao cap, v = .slice ao xs.length cap ∧ RowAt w ao (ints xs) := by
  obtain ⟨ao, cap, hv, hl, hr⟩ := own_row h
  rw [ints_length] at hl
  exact ⟨ao, cap, by rw [hv, hl], hr⟩

/-- How many parts of [a, b) have none of the places, the places in it being handed down. -/
def gapsN (xs : List Int) (a b : Nat) : Nat :=
  if xs.length = 0 then 1 else if _h : b - a ≤ 1 then 0 else
  gapsN (inside xs a (a + sp (b - a) : Nat)) a (a + sp (b - a)) + gapsN (inside xs (a + sp (b - a) : Nat) b) (a + sp (b - a)) b
termination_by b - a
decreasing_by
  · have := sp_lt (b - a) (by omega); omega
  · have := sp_pos (b - a); have := sp_lt (b - a) (by omega); omega
theorem gapsN_none (xs : List Int) (a b : Nat) (h : xs.length = 0) : gapsN xs a b = 1 := by rw [gapsN, if_pos h]
theorem gapsN_one (xs : List Int) (a b : Nat) (h : xs.length ≠ 0) (h2 : b - a ≤ 1) : gapsN xs a b = 0 := by rw [gapsN, if_neg h, dif_pos h2]
theorem gapsN_some (xs : List Int) (a b : Nat) (h : xs.length ≠ 0) (h2 : 2 ≤ b - a) :
    gapsN xs a b = gapsN (inside xs a (a + sp (b - a) : Nat)) a (a + sp (b - a)) + gapsN (inside xs (a + sp (b - a) : Nat) b) (a + sp (b - a)) b := by rw [gapsN, if_neg h, dif_neg (by omega)]
theorem gapsN_le (k : Nat) : ∀ (xs : List Int) (a b : Nat), b - a ≤ k → a < b → gapsN xs a b ≤ b - a := by
  induction k with
  | zero => intro xs a b hk hab; omega
  | succ k ih =>
    intro xs a b hk hab
    by_cases e : xs.length = 0
    · rw [gapsN_none xs a b e]; omega
    · by_cases hn : 2 ≤ b - a
      · rw [gapsN_some xs a b e hn]
        have hs := sp_lt (b - a) hn
        have hp := sp_pos (b - a)
        have h1 := ih (inside xs a (a + sp (b - a) : Nat)) a (a + sp (b - a)) (by omega) (by omega)
        have h2 := ih (inside xs (a + sp (b - a) : Nat) b) (a + sp (b - a)) b (by omega) (by omega)
        omega
      · rw [gapsN_one xs a b e (by omega)]; omega

end Go.Proofs.Ytocjjiacmedjmaa
set_option maxRecDepth 100000
namespace Go.Proofs.Ytocjjiacmedjmaa
open Go Go.RowKit

/-- Why a proof of this kind has no shape. -/
def shapeN (kind a b n : Int) (xs : List Int) : Int :=
  if kind = 1 then (if a < 0 ∨ n ≤ a then 81 else 0) else if kind = 2 then (if a < 0 ∨ n < a then 80 else 0) else
  if kind = 3 then (if a < 0 ∨ b ≤ a ∨ n < b then 81 else 0) else risingN xs n

/-- What the reference's Count answers. -/
def refCountN (kind a b n : Int) (xs : List Int) : Int × Int :=
  if kind < 1 ∨ 4 < kind then (0, 110) else if n < 0 ∨ 4611686018427387904 < n then (0, 80) else
  if shapeN kind a b n xs = 0 then
    (if kind = 1 then ((stepsN a.toNat n.toNat : Nat), 0) else if kind = 2 then (if a = 0 then (0, 0) else ((oldN a.toNat n.toNat true : Nat), 0)) else
     if kind = 3 then ((outN (hasB a.toNat b.toNat) 0 n.toNat : Nat), 0) else ((gapsN xs 0 n.toNat : Nat), 0))
  else (0, shapeN kind a b n xs)

end Go.Proofs.Ytocjjiacmedjmaa
