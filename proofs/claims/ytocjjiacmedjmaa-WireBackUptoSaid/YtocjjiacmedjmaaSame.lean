/- Walks of the law's helpers: same, longer, kept, num. -/
import Derived.Test.YtocjjiacmedjmaaRefLeaves
import Derived.Test.YtocjjiacmedjmaaUnLeaves
set_option maxRecDepth 100000
namespace Go.Proofs.Ytocjjiacmedjmaa
open Go Go.RowKit

theorem law_num (x : Int) (w : World) : Calls Try.prog 9 #[.int .i64 x] w fun e w' => e = .returned (.int .i64 x) ∧ w = w' := by
  go_enter Try.func9, Try.ntmps9
  go_wp2
  go_ret
  exact ⟨rfl, rfl⟩
/-- Two slices that hold the same strings are the same. -/
theorem law_same (ao bo : Option Addr) (xs : List ByteArray) (c1 c2 : Nat) (w : World) (hl : xs.length ≤ 4611686018427387904) (hx : RowAt w ao (strs' xs)) (hy : RowAt w bo (strs' xs)) :
    Calls Try.prog 18 #[.slice ao xs.length c1, .slice bo xs.length c2] w fun e w' => e = .returned (.bool true) ∧ Below w.heap.size w w' := by
  go_enter Try.func18, Try.ntmps18
  go_wp2_with fail
  go_loopw [5] (fun i' wr => ∃ i : Nat, i' = .int .i64 i ∧ i ≤ xs.length ∧ Below w.heap.size w wr) (fun i' _ => (xs.length - intOf i').toNat)
  case atStart => exact ⟨0, rfl, by omega, Below.refl _ _⟩
  case round =>
    obtain ⟨i, rfl, hi, hbw⟩ := hrel
    have HB := hid hbw
    by_cases hlt : i < xs.length
    · obtain ⟨b, off, rfl, hc⟩ := (hx.below hbw).str (k := i) hlt
      obtain ⟨b2, off2, rfl, hc2⟩ := (hy.below hbw).str (k := i) hlt
      have hcell := hc i hlt
      have hcell2 := hc2 i hlt
      clear hx hy hc hc2 hbw
      obtain ⟨y, hy⟩ : ∃ y, y = xs[i] := ⟨_, rfl⟩
      rw [← hy] at hcell hcell2
      clear hy
      go_wp2_with fail
      go_quiet (fail)
      go_wp2_with fail
      go_roundw
      case rel => exact ⟨i + 1, by go_num, by omega, below_drewN HB.out _⟩
      case measure => simp [intOf]; omega
    · clear hx hy hbw
      go_wp2_with fail
      go_ret
      exact ⟨rfl, HB.out⟩
/-- The word that is put behind. -/
def behind : ByteArray := ⟨#[98, 101, 104, 105, 110, 100]⟩
theorem behind_at (xs : List ByteArray) (i : Nat) (hi : i < xs.length) : (xs ++ [behind])[i]'(by simp; omega) = xs[i] := by
  rw [List.getElem_append_left hi]
/-- The first n of what lies there. -/
theorem RowAt.front {w : World} {ao : Option Addr} {xs ys : List ByteArray} (h : RowAt w ao (strs' (xs ++ ys))) : RowAt w ao (strs' xs) := by
  rcases h with h | ⟨b, off, rfl, h⟩
  · left
    have := congrArg List.length h
    simp [strs'] at this
    rw [this.1]; rfl
  · right
    refine ⟨b, off, rfl, fun i hi => ?_⟩
    have hi' : i < xs.length := by simpa [strs'] using hi
    rw [h i (by simp [strs']; omega)]
    simp [strs', List.getElem_append_left, hi']
theorem RowAt.drewN {w : World} {ao : Option Addr} {cs : List Value} (h : RowAt w ao cs) (n : Nat) : RowAt (w.drewN n) ao cs := h

end Go.Proofs.Ytocjjiacmedjmaa
