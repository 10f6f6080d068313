/- Walk of the law's places. -/
import Derived.Test.YtocjjiacmedjmaaProof
import Derived.Test.YtocjjiacmedjmaaHeld
import Derived.Test.YtocjjiacmedjmaaSame
set_option maxRecDepth 100000
namespace Go.Proofs.Ytocjjiacmedjmaa
open Go Go.RowKit

/-- Two slices that hold the same numbers are the same. -/
theorem law_places (ao bo : Option Addr) (xs : List Int) (c1 c2 : Nat) (w : World) (hl : xs.length ≤ 4611686018427387904) (hx : RowAt w ao (ints xs)) (hy : RowAt w bo (ints xs)) :
    Calls Try.prog 33 #[.slice ao xs.length c1, .slice bo xs.length c2] w fun e w' => e = .returned (.bool true) ∧ Below w.heap.size w w' := by
  go_enter Try.func33, Try.ntmps33
  go_wp2_with fail
  go_loopw [5] (fun i' wr => ∃ i : Nat, i' = .int .i64 i ∧ i ≤ xs.length ∧ Below w.heap.size w wr) (fun i' _ => (xs.length - intOf i').toNat)
  case atStart => exact ⟨0, rfl, by omega, Below.refl _ _⟩
  case round =>
    obtain ⟨i, rfl, hi, hbw⟩ := hrel
    have HB := hid hbw
    by_cases hlt : i < xs.length
    · obtain ⟨b, off, rfl, hc⟩ := (hx.below hbw).int (k := i) hlt
      obtain ⟨b2, off2, rfl, hc2⟩ := (hy.below hbw).int (k := i) hlt
      have hcell := hc i hlt
      have hcell2 := hc2 i hlt
      clear hx hy hc hc2 hbw
      obtain ⟨y, hy⟩ : ∃ y, y = xs[i] := ⟨_, rfl⟩
      rw [← hy] at hcell hcell2
      clear hy
      go_wp2_with fail
      go_quiet (fail)
      go_wp2_with fail
      go_roundw
      case rel => exact ⟨i + 1, by go_num, by omega, below_drewN HB.out _⟩
      case measure => simp [intOf]; omega
    · clear hx hy hbw
      go_wp2_with fail
      go_ret
      exact ⟨rfl, HB.out⟩
end Go.Proofs.Ytocjjiacmedjmaa
