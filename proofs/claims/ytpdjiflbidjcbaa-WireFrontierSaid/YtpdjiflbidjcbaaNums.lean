/- Walks of nums.Bits, nums.Below, nums.Ceil: what they answer. -/
import Derived.Test.YtpdjiflbidjcbaaKit
import Derived.Test.YtpdjiflbidjcbaaSplit
set_option maxRecDepth 100000
namespace Go.Proofs.Ytpdjiflbidjcbaa
open Go Go.RowKit

theorem nums_Bits (n : Int) (h0 : 0 ≤ n) (h2 : n ≤ 9223372036854775807) (w : World) :
    Calls Try.prog 52 #[.int .i64 n] w fun e w' => e = .returned (.int .i64 (bits n.toNat)) ∧ w = w' := by
  obtain ⟨n, rfl⟩ := Int.eq_ofNat_of_zero_le h0
  rw [Int.toNat_natCast]
  have hb := bits_le n 63 (by omega)
  go_enter Try.func52, Try.ntmps52
  go_wp2
  go_loop [0, 3] (fun n' k' => ∃ m k : Nat, n' = .int .i64 m ∧ k' = .int .i64 k ∧ m ≤ 9223372036854775807 ∧ bits m + k = bits n) (fun n' _ => (intOf n').toNat)
  case atStart => exact ⟨n, 0, rfl, rfl, by omega, by omega⟩
  case round =>
    obtain ⟨m, k, rfl, rfl, hm, hk⟩ := hrel
    have hs := bits_step m
    have HK := hid hk
    have HS := hid hs
    have hk63 : k ≤ 63 := by omega
    clear hk hs
    by_cases hm0 : 0 < m
    · go_wp2
      go_round
      case rel => exact ⟨m / 2, k + 1, by go_num, by go_num, by omega, by have := HS.out hm0; have := HK.out; omega⟩
      case measure => simp [intOf]; omega
    · go_wp2
      go_ret
      exact ⟨ret_int (by have h0 : m = 0 := by omega
                         subst h0; have := HK.out; rw [bits_zero] at this; omega), rfl⟩

end Go.Proofs.Ytpdjiflbidjcbaa
