/- Walks of the reference's ranges, shape, Count; that its count is the program's. -/
import Derived.Test.YtocjjiacmedjmaaGaps
set_option maxRecDepth 100000
namespace Go.Proofs.Ytocjjiacmedjmaa
open Go Go.RowKit

/-- Why a proof of this kind has no shape. -/
def shapeN (kind a b n : Int) (xs : List Int) : Int :=
  if kind = 1 then (if a < 0 ∨ n ≤ a then 81 else 0) else if kind = 2 then (if a < 0 ∨ n < a then 80 else 0) else
  if kind = 3 then (if a < 0 ∨ b ≤ a ∨ n < b then 81 else 0) else risingN xs n

/-- What the reference's Count answers. -/
def refCountN (kind a b n : Int) (xs : List Int) : Int × Int :=
  if kind < 1 ∨ 4 < kind then (0, 110) else if n < 0 ∨ 4611686018427387904 < n then (0, 80) else
  if shapeN kind a b n xs = 0 then
    (if kind = 1 then ((stepsN a.toNat n.toNat : Nat), 0) else if kind = 2 then (if a = 0 then (0, 0) else ((oldN a.toNat n.toNat true : Nat), 0)) else
     if kind = 3 then ((outN (hasB a.toNat b.toNat) 0 n.toNat : Nat), 0) else ((gapsN xs 0 n.toNat : Nat), 0))
  else (0, shapeN kind a b n xs)

end Go.Proofs.Ytocjjiacmedjmaa
