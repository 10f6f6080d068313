/- Walks of nums.Bits, nums.Below, nums.Ceil: what they answer. -/
import Derived.Test.YtocjjiacmedjmaaKit
import Derived.Test.YtocjjiacmedjmaaSplit
set_option maxRecDepth 100000
namespace Go.Proofs.Ytocjjiacmedjmaa
open Go Go.RowKit

theorem nums_Bits (n : Int) (h0 : 0 ≤ n) (h2 : n ≤ 9223372036854775807) (w : World) :
    Calls Try.prog 57 #[.int .i64 n] w fun e w' => e = .returned (.int .i64 (bits n.toNat)) ∧ w = w' := by
  obtain ⟨n, rfl⟩ := Int.eq_ofNat_of_zero_le h0
  rw [Int.toNat_natCast]
  have hb := bits_le n 63 (by omega)
  go_enter Try.func57, Try.ntmps57
  go_wp2
  go_loop [0, 3] (fun n' k' => ∃ m k : Nat, n' = .int .i64 m ∧ k' = .int .i64 k ∧ m ≤ 9223372036854775807 ∧ bits m + k = bits n) (fun n' _ => (intOf n').toNat)
  case atStart => exact ⟨n, 0, rfl, rfl, by omega, by omega⟩
  case round =>
    obtain ⟨m, k, rfl, rfl, hm, hk⟩ := hrel
    have hs := bits_step m
    have HK := hid hk
    have HS := hid hs
    have hk63 : k ≤ 63 := by omega
    clear hk hs
    by_cases hm0 : 0 < m
    · go_wp2
      go_round
      case rel => exact ⟨m / 2, k + 1, by go_num, by go_num, by omega, by have := HS.out hm0; have := HK.out; omega⟩
      case measure => simp [intOf]; omega
    · go_wp2
      go_ret
      exact ⟨ret_int (by have h0 : m = 0 := by omega
                         subst h0; have := HK.out; rw [bits_zero] at this; omega), rfl⟩

theorem nums_Below_low (n : Int) (h : n < 2) (w : World) :
    Calls Try.prog 67 #[.int .i64 n] w fun e w' => e = .returned (.tuple #[.int .i64 0, .int .i64 10]) ∧ w = w' := by
  go_enter Try.func67, Try.ntmps67
  go_wp2_with fail
  go_ret2
  exact ⟨rfl, rfl⟩
theorem nums_Below (n : Int) (h : 2 ≤ n) (h2 : n ≤ 4611686018427387904) (w : World) :
    Calls Try.prog 67 #[.int .i64 n] w fun e w' => e = .returned (.tuple #[.int .i64 (sp n.toNat), .int .i64 0]) ∧ w = w' := by
  obtain ⟨b, hb⟩ : ∃ b, b = bits (n - 1).toNat := ⟨_, rfl⟩
  have hb1 : 1 ≤ (b : Int) := by have := bits_pos (n - 1).toNat (by omega); omega
  have hb2 : (b : Int) ≤ 62 := by have := bits_le (n - 1).toNat 62 (by omega); omega
  have hc := (nums_Bits (n - 1) (by omega) (by omega))
  rw [← hb] at hc
  have hs : (2 ^ (b - 1) : Int) = sp n.toNat := by
    unfold sp; rw [if_neg (by omega), hb, show (n - 1).toNat = n.toNat - 1 by omega]; simp
  have hs2 := sp_lt n.toNat (by omega)
  have HS := hid hs; clear hs hb
  have HC := hid hc; clear hc
  go_enter Try.func67, Try.ntmps67
  go_wp2_with (go_at_call 57; refine (HC.out _).mono ?_; rintro e w' ⟨rfl, rfl⟩)
  go_ret2
  exact ⟨ret2 (int_eq (wrap64_eq _ _ HS.out (by omega) (by omega))) rfl, rfl⟩
end Go.Proofs.Ytocjjiacmedjmaa
