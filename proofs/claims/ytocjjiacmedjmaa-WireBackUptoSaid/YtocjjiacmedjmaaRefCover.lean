/- The reference's Cover. -/
import Derived.Test.YtocjjiacmedjmaaCover2
set_option maxRecDepth 100000
namespace Go.Proofs.Ytocjjiacmedjmaa
open Go Go.RowKit

theorem lev_more (p hi k : Nat) (hp : p < hi) (hk : k < levN p hi) : k < 62 ∧ p % 2 ^ (k + 1) = 0 ∧ 2 ^ (k + 1) ≤ hi - p := by
  have h1 : k + 1 ≤ zerosN p := by unfold levN at hk; omega
  have h2 : k + 1 ≤ bits (hi - p) - 1 := by unfold levN at hk; omega
  have h3 : k < 62 := by unfold levN at hk; omega
  exact ⟨h3, zeros_dvd p _ h1, Nat.le_trans (Nat.pow_le_pow_right (by decide) h2) (bits_ge (hi - p) (by omega))⟩
theorem lev_end (p hi : Nat) (hp : p < hi) : ¬ (levN p hi < 62 ∧ p % 2 ^ (levN p hi + 1) = 0 ∧ 2 ^ (levN p hi + 1) ≤ hi - p) := by
  rintro ⟨h1, h2, h3⟩
  have h4 := lt_bits (hi - p)
  have h5 : levN p hi + 1 < bits (hi - p) := (Nat.pow_lt_pow_iff_right (by decide : 1 < 2)).1 (by omega)
  have h6 : levN p hi = zerosN p := by unfold levN at h1 h5 ⊢; omega
  have h7 : p ≠ 0 := by
    intro e; subst e; unfold zerosN at h6; rw [if_pos rfl] at h6; omega
  have h8 := tz_ge (levN p hi + 1) p h7 h2
  unfold zerosN at h6
  rw [if_neg h7] at h6
  omega
end Go.Proofs.Ytocjjiacmedjmaa
