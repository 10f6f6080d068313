/- Walks of the reference's counting: Split, inclusions, growths, ranges, places, shape. -/
import Derived.Test.YtcgfeeommhljgaaDoorCounts
import Derived.Deep.QuietTactic
import Derived.BigQuiet
set_option maxRecDepth 100000
namespace Go.Proofs.YtcgfeeommhljgaaDoor
open Go Go.RowKit

theorem ref_Split (n : Int) (h1 : 1 ≤ n) (h2 : n ≤ 4611686018427387904) (w : World) :
    Calls Tryd.prog 81 #[.int .i64 n] w fun e w' => e = .returned (.int .i64 (sp n.toNat)) ∧ w = w' := by
  obtain ⟨n, rfl⟩ := Int.eq_ofNat_of_zero_le (show 0 ≤ n by omega)
  rw [Int.toNat_natCast]
  go_enter Tryd.func81, Tryd.ntmps81
  go_wp2_with fail
  go_loop [3] (fun k' => ∃ k j : Nat, k' = .int .i64 k ∧ k = 2 ^ j ∧ (k = 1 ∨ k < n)) (fun k' => (n - intOf k').toNat)
  case atStart => exact ⟨1, 0, rfl, rfl, Or.inl rfl⟩
  case round =>
    obtain ⟨k, j, rfl, hk, hk2⟩ := hrel
    have hp : 0 < k := by rw [hk]; exact Nat.pow_pos (by omega)
    have HK := hid hk; clear hk
    have hb : k ≤ 4611686018427387904 := by omega
    by_cases hlt : k ≤ (n - 1) / 2
    · go_wp2_with fail
      go_round
      case rel => exact ⟨2 * k, j + 1, by go_num, by have := HK.out; rw [Nat.pow_succ]; omega, by omega⟩
      case measure => simp [intOf]; omega
    · have hs : sp n = k := by
        by_cases hn : n ≤ 1
        · rw [sp_small n hn]; omega
        · have := HK.out; subst this; exact sp_unique n j (by omega) (by omega)
      have HS := hid hs; clear hs
      go_wp2_with fail
      go_ret
      exact ⟨ret_int (by rw [HS.out]), rfl⟩

theorem ref_inclusions (i n : Int) (h0 : 0 ≤ i) (h1 : i < n) (h2 : n ≤ 4611686018427387904) (w : World) :
    Calls Tryd.prog 76 #[.int .i64 i, .int .i64 n] w fun e w' => e = .returned (.int .i64 (stepsN i.toNat n.toNat)) ∧ w = w' := by
  obtain ⟨i, rfl⟩ := Int.eq_ofNat_of_zero_le h0
  obtain ⟨n, rfl⟩ := Int.eq_ofNat_of_zero_le (show 0 ≤ n by omega)
  rw [Int.toNat_natCast, Int.toNat_natCast]
  have hb := stepsN_le i n
  have hb2 := ceil_le n 62 (by omega)
  go_enter Tryd.func76, Tryd.ntmps76
  go_wp2_with fail
  go_loop [0, 1, 5, 6] (fun i' n' k' _ => ∃ m j k : Nat, i' = .int .i64 j ∧ n' = .int .i64 m ∧ k' = .int .i64 k ∧ j < m ∧ m ≤ 4611686018427387904 ∧ stepsN j m + k = stepsN i n) (fun _ n' _ _ => (intOf n').toNat)
  case atStart => exact ⟨n, i, 0, rfl, rfl, rfl, by omega, by omega, by omega⟩
  case round =>
    obtain ⟨m, j, k, rfl, rfl, rfl, hj, hm, hk⟩ := hrel
    have hk63 : k ≤ 63 := by omega
    have HK := hid hk
    clear hk
    by_cases hm0 : 1 < m
    · have hsp := sp_lt m (by omega)
      have hsp0 := sp_pos m
      by_cases hjs : j < sp m
      · have HS := hid (stepsN_left j m (by omega) hjs)
        go_wp2_with (go_at_call 81; refine (ref_Split _ (by omega) (by omega) _).mono ?_; rintro e w' ⟨rfl, rfl⟩)
        go_round
        case rel => exact ⟨sp m, j, k + 1, rfl, by go_num, by go_num, by omega, by omega, by have := HS.out; have := HK.out; omega⟩
        case measure => simp [intOf]; omega
      · have HS := hid (stepsN_right j m (by omega) hjs)
        go_wp2_with (go_at_call 81; refine (ref_Split _ (by omega) (by omega) _).mono ?_; rintro e w' ⟨rfl, rfl⟩)
        go_round
        case rel => exact ⟨m - sp m, j - sp m, k + 1, by go_num, by go_num, by go_num, by omega, by omega, by have := HS.out; have := HK.out; omega⟩
        case measure => simp [intOf]; omega
    · go_wp2_with fail
      go_ret
      exact ⟨ret_int (by have := HK.out; rw [stepsN_small _ _ (by omega)] at this; omega), rfl⟩

theorem ref_growths (i n : Int) (h0 : 1 ≤ i) (h1 : i ≤ n) (h2 : n ≤ 4611686018427387904) (w : World) :
    Calls Tryd.prog 77 #[.int .i64 i, .int .i64 n] w fun e w' => e = .returned (.int .i64 (oldN i.toNat n.toNat true)) ∧ w = w' := by
  obtain ⟨i, rfl⟩ := Int.eq_ofNat_of_zero_le (show 0 ≤ i by omega)
  obtain ⟨n, rfl⟩ := Int.eq_ofNat_of_zero_le (show 0 ≤ n by omega)
  rw [Int.toNat_natCast, Int.toNat_natCast]
  have hb := oldN_le i n true (by omega) (by omega)
  have hb2 := ceil_le n 62 (by omega)
  go_enter Tryd.func77, Tryd.ntmps77
  go_wp2_with fail
  go_loop [0, 1, 5, 6, 7] (fun i' n' k' b' _ => ∃ (m j k : Nat) (b : Bool), i' = .int .i64 j ∧ n' = .int .i64 m ∧ k' = .int .i64 k ∧ b' = .bool b ∧ 1 ≤ j ∧ j ≤ m ∧ m ≤ 4611686018427387904 ∧ oldN j m b + k = oldN i n true) (fun _ n' _ _ _ => (intOf n').toNat)
  case atStart => exact ⟨n, i, 0, true, rfl, rfl, rfl, rfl, by omega, by omega, by omega, by omega⟩
  case round =>
    obtain ⟨m, j, k, b, rfl, rfl, rfl, rfl, hj0, hj, hm, hk⟩ := hrel
    have hk63 : k ≤ 63 := by omega
    have HK := hid hk
    clear hk
    by_cases hm0 : j < m
    · have hsp := sp_lt m (by omega)
      have hsp0 := sp_pos m
      by_cases hjs : j ≤ sp m
      · have HS := hid (oldN_left j m b (by omega) (by omega) hjs)
        go_wp2_with (go_at_call 81; refine (ref_Split _ (by omega) (by omega) _).mono ?_; rintro e w' ⟨rfl, rfl⟩)
        go_round
        case rel => exact ⟨sp m, j, k + 1, b, rfl, by go_num, by go_num, rfl, by omega, by omega, by omega, by have := HS.out; have := HK.out; omega⟩
        case measure => simp [intOf]; omega
      · have HS := hid (oldN_right j m b (by omega) (by omega) hjs)
        go_wp2_with (go_at_call 81; refine (ref_Split _ (by omega) (by omega) _).mono ?_; rintro e w' ⟨rfl, rfl⟩)
        go_round
        case rel => exact ⟨m - sp m, j - sp m, k + 1, false, by go_num, by go_num, by go_num, rfl, by omega, by omega, by omega, by have := HS.out; have := HK.out; omega⟩
        case measure => simp [intOf]; omega
    · obtain rfl : j = m := by omega
      have HS := hid (oldN_eq j b)
      cases b
      all_goals
        go_wp2_with fail
        go_ret
        exact ⟨ret_int (by have h := HK.out; rw [HS.out] at h; simp at h; omega), rfl⟩

theorem ref_places (ao : Option Addr) (xs : List Int) (cap : Nat) (n : Int) (w : World) (hx : RowAt w ao (ints xs)) :
    Calls Tryd.prog 99 #[.int .i64 n, .slice ao xs.length cap] w fun e w' => e = .returned (.int .i64 (risingN xs n)) ∧ Below w.heap.size w w' := by
  by_cases z : xs.length = 0
  · have HR : Hid (risingN xs n = 82) := by unfold Hid risingN; rw [if_pos z]
    have z' : ((xs.length : Int) == 0) = true := by rw [z]; rfl
    clear z hx
    go_enter Tryd.func99, Tryd.ntmps99
    go_wp2_with fail
    go_ret
    exact ⟨ret_int (by rw [HR.out]), Below.refl _ _⟩
  have z' : ((xs.length : Int) == 0) = false := beq_eq_false_iff_ne.2 (by omega)
  by_cases m : 1024 < xs.length
  · have HR : Hid (risingN xs n = 83) := by unfold Hid risingN; rw [if_neg z, if_pos m]
    clear hx
    go_enter Tryd.func99, Tryd.ntmps99
    go_wp2_with fail
    go_ret
    exact ⟨ret_int (by rw [HR.out]), Below.refl _ _⟩
  have HR : Hid (risingN xs n = risN xs n 0) := by unfold Hid risingN; rw [if_neg z, if_neg m]
  go_enter Tryd.func99, Tryd.ntmps99
  go_wp2_with fail
  go_loopw [5] (fun i' wr => ∃ i : Nat, i' = .int .i64 i ∧ i ≤ xs.length ∧ risN xs n i = risN xs n 0 ∧ Below w.heap.size w wr) (fun i' _ => (xs.length - intOf i').toNat)
  case atStart => exact ⟨0, rfl, by omega, rfl, Below.refl _ _⟩
  case round =>
    obtain ⟨i, rfl, hi, hk, hbw⟩ := hrel
    have HK := hid hk
    have HB := hid hbw
    clear hk
    by_cases hlt : i < xs.length
    · have hx' := hx.below hbw
      obtain ⟨b, off, rfl, hc⟩ := hx'.int (k := i) hlt
      have hcell := hc i hlt
      have hprev : 0 < i → wr.cell? ⟨b, off + (i - 1), none⟩ = some (.int .i64 (xs.getD (i - 1) 0)) := fun h => by rw [hc (i - 1) (by omega), getD_of xs (i - 1) (by omega)]
      rw [← getD_of xs i hlt] at hcell
      obtain ⟨y, hy⟩ : ∃ y, y = xs.getD i 0 := ⟨_, rfl⟩
      obtain ⟨q, hq⟩ : ∃ q, q = xs.getD (i - 1) 0 := ⟨_, rfl⟩
      rw [← hy] at hcell
      rw [← hq] at hprev
      have HY := hid hy
      have HQ := hid hq
      clear hx hx' hc hy hq hbw
      by_cases c1 : y < 0
      · have H := hid (risN_out xs n i hlt (by rw [← HY.out]; exact Or.inl c1))
        clear hprev
        go_wp2_with fail
        go_ret
        exact ⟨ret_int (by rw [HR.out, ← HK.out, H.out]), HB.out⟩
      by_cases c2 : n ≤ y
      · have H := hid (risN_out xs n i hlt (by rw [← HY.out]; exact Or.inr c2))
        clear hprev
        go_wp2_with fail
        go_ret
        exact ⟨ret_int (by rw [HR.out, ← HK.out, H.out]), HB.out⟩
      by_cases c3 : 0 < i
      · have hp := hprev c3
        clear hprev
        by_cases c4 : y ≤ q
        · have H := hid (risN_order xs n i hlt (by rw [← HY.out]; omega) (by rw [← HY.out, ← HQ.out]; exact ⟨c3, c4⟩))
          go_wp2_with fail
          go_quiet (fail)
          go_wp2_with fail
          go_ret
          exact ⟨ret_int (by rw [HR.out, ← HK.out, H.out]), below_drewN HB.out _⟩
        · have H := hid (risN_next xs n i hlt (by rw [← HY.out]; omega) (by rw [← HY.out, ← HQ.out]; omega))
          go_wp2_with fail
          go_quiet (fail)
          go_wp2_with fail
          go_roundw
          case rel => exact ⟨i + 1, by go_num, by omega, by rw [← H.out]; exact HK.out, below_drewN HB.out _⟩
          case measure => simp [intOf]; omega
      · have H := hid (risN_next xs n i hlt (by rw [← HY.out]; omega) (by omega))
        clear hprev
        have c3' : decide (0 < (i : Int)) = false := decide_eq_false (by omega)
        go_wp2_with fail
        go_quiet (fail)
        go_wp2_with fail
        go_roundw
        case rel => exact ⟨i + 1, by go_num, by omega, by rw [← H.out]; exact HK.out, below_drewN HB.out _⟩
        case measure => simp [intOf]; omega
    · have H := hid (risN_end xs n i hlt)
      clear hx
      go_wp2_with fail
      go_ret
      exact ⟨ret_int (by rw [HR.out, ← HK.out, H.out]), HB.out⟩
end Go.Proofs.YtcgfeeommhljgaaDoor
