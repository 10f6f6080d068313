/- Walks of the law's helpers: same, longer, kept, num. -/
import Derived.Test.YtocjjiacmedjmaaDoorRefLeaves
import Derived.Test.YtocjjiacmedjmaaDoorUnLeaves
set_option maxRecDepth 100000
namespace Go.Proofs.YtocjjiacmedjmaaDoor
open Go Go.RowKit

/-- The word that is put behind. -/
def behind : ByteArray := ⟨#[98, 101, 104, 105, 110, 100]⟩
theorem behind_at (xs : List ByteArray) (i : Nat) (hi : i < xs.length) : (xs ++ [behind])[i]'(by simp; omega) = xs[i] := by
  rw [List.getElem_append_left hi]
/-- The first n of what lies there. -/
theorem RowAt.front {w : World} {ao : Option Addr} {xs ys : List ByteArray} (h : RowAt w ao (strs' (xs ++ ys))) : RowAt w ao (strs' xs) := by
  rcases h with h | ⟨b, off, rfl, h⟩
  · left
    have := congrArg List.length h
    simp [strs'] at this
    rw [this.1]; rfl
  · right
    refine ⟨b, off, rfl, fun i hi => ?_⟩
    have hi' : i < xs.length := by simpa [strs'] using hi
    rw [h i (by simp [strs']; omega)]
    simp [strs', List.getElem_append_left, hi']
theorem RowAt.drewN {w : World} {ao : Option Addr} {cs : List Value} (h : RowAt w ao cs) (n : Nat) : RowAt (w.drewN n) ao cs := h

end Go.Proofs.YtocjjiacmedjmaaDoor
