/- Walks of check.rising and of the reference's places: why places may not be asked of a tree of n leaves. -/
import Derived.Test.YtocjjiacmedjmaaAmong
set_option maxRecDepth 100000
namespace Go.Proofs.Ytocjjiacmedjmaa
open Go Go.RowKit

/-- From place number i on: which refusal comes. -/
def risN (xs : List Int) (n : Int) (i : Nat) : Int :=
  if _h : i < xs.length then (if xs.getD i 0 < 0 ∨ n ≤ xs.getD i 0 then 81 else if 0 < i ∧ xs.getD i 0 ≤ xs.getD (i - 1) 0 then 84 else risN xs n (i + 1)) else 0
termination_by xs.length - i
theorem risN_end (xs : List Int) (n : Int) (i : Nat) (h : ¬ i < xs.length) : risN xs n i = 0 := by rw [risN, dif_neg h]
theorem risN_out (xs : List Int) (n : Int) (i : Nat) (h : i < xs.length) (h2 : xs.getD i 0 < 0 ∨ n ≤ xs.getD i 0) : risN xs n i = 81 := by rw [risN, dif_pos h, if_pos h2]
theorem risN_order (xs : List Int) (n : Int) (i : Nat) (h : i < xs.length) (h2 : ¬ (xs.getD i 0 < 0 ∨ n ≤ xs.getD i 0)) (h3 : 0 < i ∧ xs.getD i 0 ≤ xs.getD (i - 1) 0) : risN xs n i = 84 := by
  rw [risN, dif_pos h, if_neg h2, if_pos h3]
theorem risN_next (xs : List Int) (n : Int) (i : Nat) (h : i < xs.length) (h2 : ¬ (xs.getD i 0 < 0 ∨ n ≤ xs.getD i 0)) (h3 : ¬ (0 < i ∧ xs.getD i 0 ≤ xs.getD (i - 1) 0)) : risN xs n i = risN xs n (i + 1) := by
  rw [risN, dif_pos h, if_neg h2, if_neg h3]
def risingN (xs : List Int) (n : Int) : Int := if xs.length = 0 then 82 else if 1024 < xs.length then 83 else risN xs n 0

theorem getD_of (xs : List Int) (i : Nat) (h : i < xs.length) : xs.getD i 0 = xs[i] := by rw [List.getD_eq_getElem?_getD, List.getElem?_eq_getElem h]; rfl

theorem check_rising (ao : Option Addr) (xs : List Int) (cap : Nat) (n : Int) (w : World) (hx : RowAt w ao (ints xs)) :
    Calls Try.prog 49 #[.slice ao xs.length cap, .int .i64 n] w fun e w' => e = .returned (.int .i64 (risingN xs n)) ∧ w = w' := by
  by_cases z : xs.length = 0
  · have HR : Hid (risingN xs n = 82) := by unfold Hid risingN; rw [if_pos z]
    have z' : ((xs.length : Int) == 0) = true := by rw [z]; rfl
    clear z hx
    go_enter Try.func49, Try.ntmps49
    go_wp2_with fail
    go_ret
    exact ⟨ret_int (by rw [HR.out]), rfl⟩
  have z' : ((xs.length : Int) == 0) = false := beq_eq_false_iff_ne.2 (by omega)
  by_cases m : 1024 < xs.length
  · have HR : Hid (risingN xs n = 83) := by unfold Hid risingN; rw [if_neg z, if_pos m]
    clear hx
    go_enter Try.func49, Try.ntmps49
    go_wp2_with fail
    go_ret
    exact ⟨ret_int (by rw [HR.out]), rfl⟩
  have HR : Hid (risingN xs n = risN xs n 0) := by unfold Hid risingN; rw [if_neg z, if_neg m]
  go_enter Try.func49, Try.ntmps49
  go_wp2_with fail
  go_loop [5, 6, 15] (fun _ _ i' => ∃ i : Nat, i' = .int .i64 i ∧ i ≤ xs.length ∧ risN xs n i = risN xs n 0) (fun _ _ i' => (xs.length - intOf i').toNat)
  case atStart => exact ⟨0, rfl, by omega, rfl⟩
  case round =>
    obtain ⟨i, rfl, hi, hk⟩ := hrel
    have HK := hid hk
    clear hk
    by_cases hlt : i < xs.length
    · obtain ⟨b, off, rfl, hc⟩ := hx.int (k := i) hlt
      have hcell := hc i hlt
      have hprev : 0 < i → w.cell? ⟨b, off + (i - 1), none⟩ = some (.int .i64 (xs.getD (i - 1) 0)) := fun h => by rw [hc (i - 1) (by omega), getD_of xs (i - 1) (by omega)]
      rw [← getD_of xs i hlt] at hcell
      obtain ⟨y, hy⟩ : ∃ y, y = xs.getD i 0 := ⟨_, rfl⟩
      obtain ⟨q, hq⟩ : ∃ q, q = xs.getD (i - 1) 0 := ⟨_, rfl⟩
      rw [← hy] at hcell
      rw [← hq] at hprev
      have HY := hid hy
      have HQ := hid hq
      clear hx hc hy hq
      by_cases c1 : y < 0
      · have H := hid (risN_out xs n i hlt (by rw [← HY.out]; exact Or.inl c1))
        clear hprev
        go_wp2_with fail
        go_ret
        exact ⟨ret_int (by rw [HR.out, ← HK.out, H.out]), rfl⟩
      by_cases c2 : n ≤ y
      · have H := hid (risN_out xs n i hlt (by rw [← HY.out]; exact Or.inr c2))
        clear hprev
        go_wp2_with fail
        go_ret
        exact ⟨ret_int (by rw [HR.out, ← HK.out, H.out]), rfl⟩
      by_cases c3 : 0 < i
      · have hp := hprev c3
        clear hprev
        by_cases c4 : y ≤ q
        · have H := hid (risN_order xs n i hlt (by rw [← HY.out]; omega) (by rw [← HY.out, ← HQ.out]; exact ⟨c3, c4⟩))
          go_wp2_with fail
          go_ret
          exact ⟨ret_int (by rw [HR.out, ← HK.out, H.out]), rfl⟩
        · have H := hid (risN_next xs n i hlt (by rw [← HY.out]; omega) (by rw [← HY.out, ← HQ.out]; omega))
          go_wp2_with fail
          go_round
          case rel => exact ⟨i + 1, by go_num, by omega, by rw [← H.out]; exact HK.out⟩
          case measure => simp [intOf]; omega
      · have H := hid (risN_next xs n i hlt (by rw [← HY.out]; omega) (by omega))
        clear hprev
        go_wp2_with fail
        go_round
        case rel => exact ⟨i + 1, by go_num, by omega, by rw [← H.out]; exact HK.out⟩
        case measure => simp [intOf]; omega
    · have H := hid (risN_end xs n i hlt)
      clear hx
      go_wp2_with fail
      go_ret
      exact ⟨ret_int (by rw [HR.out, ← HK.out, H.out]), rfl⟩
end Go.Proofs.Ytocjjiacmedjmaa
