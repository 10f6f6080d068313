/- Walks of check's counting: split, steps, old, outside, between. -/
import Derived.Test.YtocjjiacmedjmaaKit
import Derived.Test.YtocjjiacmedjmaaSplit
set_option maxRecDepth 100000
namespace Go.Proofs.Ytocjjiacmedjmaa
open Go Go.RowKit

theorem nums_Bits (n : Int) (h0 : 0 ≤ n) (h2 : n ≤ 9223372036854775807) (w : World) :
    Calls Try.prog 57 #[.int .i64 n] w fun e w' => e = .returned (.int .i64 (bits n.toNat)) ∧ w = w' := by
  obtain ⟨n, rfl⟩ := Int.eq_ofNat_of_zero_le h0
  rw [Int.toNat_natCast]
  have hb := bits_le n 63 (by omega)
  go_enter Try.func57, Try.ntmps57
  go_wp2
  go_loop [0, 3] (fun n' k' => ∃ m k : Nat, n' = .int .i64 m ∧ k' = .int .i64 k ∧ m ≤ 9223372036854775807 ∧ bits m + k = bits n) (fun n' _ => (intOf n').toNat)
  case atStart => exact ⟨n, 0, rfl, rfl, by omega, by omega⟩
  case round =>
    obtain ⟨m, k, rfl, rfl, hm, hk⟩ := hrel
    have hs := bits_step m
    have HK := hid hk
    have HS := hid hs
    have hk63 : k ≤ 63 := by omega
    clear hk hs
    by_cases hm0 : 0 < m
    · go_wp2
      go_round
      case rel => exact ⟨m / 2, k + 1, by go_num, by go_num, by omega, by have := HS.out hm0; have := HK.out; omega⟩
      case measure => simp [intOf]; omega
    · go_wp2
      go_ret
      exact ⟨ret_int (by have h0 : m = 0 := by omega
                         subst h0; have := HK.out; rw [bits_zero] at this; omega), rfl⟩

theorem nums_Below_low (n : Int) (h : n < 2) (w : World) :
    Calls Try.prog 67 #[.int .i64 n] w fun e w' => e = .returned (.tuple #[.int .i64 0, .int .i64 10]) ∧ w = w' := by
  go_enter Try.func67, Try.ntmps67
  go_wp2_with fail
  go_ret2
  exact ⟨rfl, rfl⟩
theorem nums_Below (n : Int) (h : 2 ≤ n) (h2 : n ≤ 4611686018427387904) (w : World) :
    Calls Try.prog 67 #[.int .i64 n] w fun e w' => e = .returned (.tuple #[.int .i64 (sp n.toNat), .int .i64 0]) ∧ w = w' := by
  obtain ⟨b, hb⟩ : ∃ b, b = bits (n - 1).toNat := ⟨_, rfl⟩
  have hb1 : 1 ≤ (b : Int) := by have := bits_pos (n - 1).toNat (by omega); omega
  have hb2 : (b : Int) ≤ 62 := by have := bits_le (n - 1).toNat 62 (by omega); omega
  have hc := (nums_Bits (n - 1) (by omega) (by omega))
  rw [← hb] at hc
  have hs : (2 ^ (b - 1) : Int) = sp n.toNat := by
    unfold sp; rw [if_neg (by omega), hb, show (n - 1).toNat = n.toNat - 1 by omega]; simp
  have hs2 := sp_lt n.toNat (by omega)
  have HS := hid hs; clear hs hb
  have HC := hid hc; clear hc
  go_enter Try.func67, Try.ntmps67
  go_wp2_with (go_at_call 57; refine (HC.out _).mono ?_; rintro e w' ⟨rfl, rfl⟩)
  go_ret2
  exact ⟨ret2 (int_eq (wrap64_eq _ _ HS.out (by omega) (by omega))) rfl, rfl⟩
end Go.Proofs.Ytocjjiacmedjmaa
set_option maxRecDepth 100000
namespace Go.Proofs.Ytocjjiacmedjmaa
open Go Go.RowKit

theorem check_split (n : Int) (h2 : n ≤ 4611686018427387904) (w : World) :
    Calls Try.prog 59 #[.int .i64 n] w fun e w' => e = .returned (.int .i64 (sp n.toNat)) ∧ w = w' := by
  by_cases h : n < 2
  · go_enter Try.func59, Try.ntmps59
    go_wp2_with (go_at_call 67; refine (nums_Below_low _ h _).mono ?_; rintro e w' ⟨rfl, rfl⟩)
    go_ret
    exact ⟨ret_int (by rw [sp_small _ (by omega)]; rfl), rfl⟩
  · have hp : 1 ≤ (sp n.toNat : Int) := by have := sp_pos n.toNat; omega
    go_enter Try.func59, Try.ntmps59
    go_wp2_with (go_at_call 67; refine (nums_Below _ (by omega) h2 _).mono ?_; rintro e w' ⟨rfl, rfl⟩)
    go_ret
    exact ⟨ret_int (by omega), rfl⟩

theorem check_steps (i n : Int) (h0 : 0 ≤ i) (h1 : i < n) (h2 : n ≤ 4611686018427387904) (w : World) :
    Calls Try.prog 45 #[.int .i64 i, .int .i64 n] w fun e w' => e = .returned (.int .i64 (stepsN i.toNat n.toNat)) ∧ w = w' := by
  obtain ⟨i, rfl⟩ := Int.eq_ofNat_of_zero_le h0
  obtain ⟨n, rfl⟩ := Int.eq_ofNat_of_zero_le (show 0 ≤ n by omega)
  rw [Int.toNat_natCast, Int.toNat_natCast]
  have hb := stepsN_le i n
  have hb2 := ceil_le n 62 (by omega)
  go_enter Try.func45, Try.ntmps45
  go_wp2_with fail
  go_loop [0, 1, 5, 6] (fun i' n' k' _ => ∃ m j k : Nat, i' = .int .i64 j ∧ n' = .int .i64 m ∧ k' = .int .i64 k ∧ j < m ∧ m ≤ 4611686018427387904 ∧ stepsN j m + k = stepsN i n) (fun _ n' _ _ => (intOf n').toNat)
  case atStart => exact ⟨n, i, 0, rfl, rfl, rfl, by omega, by omega, by omega⟩
  case round =>
    obtain ⟨m, j, k, rfl, rfl, rfl, hj, hm, hk⟩ := hrel
    have hk63 : k ≤ 63 := by omega
    have HK := hid hk
    clear hk
    by_cases hm0 : 1 < m
    · have hsp := sp_lt m (by omega)
      have hsp0 := sp_pos m
      by_cases hjs : j < sp m
      · have HS := hid (stepsN_left j m (by omega) hjs)
        go_wp2_with (go_at_call 59; refine (check_split _ (by omega) _).mono ?_; rintro e w' ⟨rfl, rfl⟩)
        go_round
        case rel => exact ⟨sp m, j, k + 1, rfl, by go_num, by go_num, by omega, by omega, by have := HS.out; have := HK.out; omega⟩
        case measure => simp [intOf]; omega
      · have HS := hid (stepsN_right j m (by omega) hjs)
        go_wp2_with (go_at_call 59; refine (check_split _ (by omega) _).mono ?_; rintro e w' ⟨rfl, rfl⟩)
        go_round
        case rel => exact ⟨m - sp m, j - sp m, k + 1, by go_num, by go_num, by go_num, by omega, by omega, by have := HS.out; have := HK.out; omega⟩
        case measure => simp [intOf]; omega
    · go_wp2_with fail
      go_ret
      exact ⟨ret_int (by have := HK.out; rw [stepsN_small _ _ (by omega)] at this; omega), rfl⟩

theorem check_old (k : Nat) : ∀ (m n : Int) (whole : Bool) (_ : n ≤ k) (_ : 1 ≤ m) (_ : m ≤ n) (_ : n ≤ 4611686018427387904) (w : World),
    Calls Try.prog 46 #[.int .i64 m, .int .i64 n, .bool whole] w fun e w' => e = .returned (.int .i64 (oldN m.toNat n.toNat whole)) ∧ w = w' := by
  induction k with
  | zero => intro m n whole hk h0 h1; omega
  | succ k ih =>
    intro m n whole hk h0 h1 h2 w
    by_cases e : m = n
    · subst e
      have HE := hid (oldN_eq m.toNat whole)
      cases whole
      all_goals
        go_enter Try.func46, Try.ntmps46
        go_wp2_with fail
        go_ret
        exact ⟨ret_int (by rw [HE.out]; rfl), rfl⟩
    · have hsp := sp_lt n.toNat (by omega)
      have hsp0 := sp_pos n.toNat
      have e' : (m == n) = false := beq_eq_false_iff_ne.2 e
      by_cases hm : m ≤ sp n.toNat
      · have HS := hid (oldN_left m.toNat n.toNat whole (by omega) (by omega) (by omega))
        have hb := oldN_le m.toNat (sp n.toNat) whole (by omega) (by omega)
        have hb2 := ceil_le (sp n.toNat) 62 (by omega)
        go_enter Try.func46, Try.ntmps46
        go_wp2_with (first | (go_at_call 59; refine (check_split _ (by omega) _).mono ?_; rintro e w' ⟨rfl, rfl⟩) | (go_at_call 46; refine (ih _ _ _ (by omega) (by omega) (by omega) (by omega) _).mono ?_; rintro e w' ⟨rfl, rfl⟩))
        go_ret
        exact ⟨ret_int (by rw [HS.out]; simp), rfl⟩
      · have HS := hid (oldN_right m.toNat n.toNat whole (by omega) (by omega) (by omega))
        have hb := oldN_le (m.toNat - sp n.toNat) (n.toNat - sp n.toNat) false (by omega) (by omega)
        have hb2 := ceil_le (n.toNat - sp n.toNat) 62 (by omega)
        go_enter Try.func46, Try.ntmps46
        go_wp2_with (first | (go_at_call 59; refine (check_split _ (by omega) _).mono ?_; rintro e w' ⟨rfl, rfl⟩) | (go_at_call 46; refine (ih _ _ _ (by omega) (by omega) (by omega) (by omega) _).mono ?_; rintro e w' ⟨rfl, rfl⟩))
        go_ret
        exact ⟨ret_int (by rw [HS.out]; simp), rfl⟩
end Go.Proofs.Ytocjjiacmedjmaa
