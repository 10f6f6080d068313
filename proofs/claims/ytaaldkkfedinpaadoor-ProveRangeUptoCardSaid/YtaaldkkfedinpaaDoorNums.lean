/- Walks of nums.Bits, nums.Below, nums.Ceil: what they answer. -/
import Derived.Test.YtaaldkkfedinpaaDoorKit
import Derived.Test.YtaaldkkfedinpaaDoorSplit
import Derived.Laws.BitsAllLaws
import Derived.Laws.Bits128
set_option maxRecDepth 100000
namespace Go.Proofs.YtaaldkkfedinpaaDoor
open Go Go.RowKit

theorem ret_int' {a b : Int} (h : a = b) : Ending.returned (.int .i64 a) = .returned (.int .i64 b) := by rw [h]
theorem i64_and1 (n : Int) : Go.bits .and .i64 n 1 = n % 2 := by
  have h1 : (BitVec.ofInt 64 1).toNat = 2 ^ 1 - 1 := by decide
  have key : (BitVec.ofInt 64 n &&& BitVec.ofInt 64 1).toNat = (n % ((2 ^ 64 : Nat) : Int)).toNat % 2 ^ 1 := by
    rw [BitVec.toNat_and, BitVec.toNat_ofInt, h1, Nat.and_two_pow_sub_one_eq_mod]
  show IntKind.i64.wrap ((BitVec.ofInt 64 n &&& BitVec.ofInt 64 1).toNat : Nat) = n % 2
  rw [key, IntKind.wrap_i64]
  omega
/-- How many zero bits n ends in. -/
def tz (n : Nat) : Nat := if _h : n = 0 then 0 else if n % 2 = 1 then 0 else tz (n / 2) + 1
termination_by n
decreasing_by omega
theorem tz_odd (n : Nat) (h : n % 2 = 1) : tz n = 0 := by rw [tz, dif_neg (by omega), if_pos h]
theorem tz_even (n : Nat) (h0 : n ≠ 0) (h : n % 2 = 0) : tz n = tz (n / 2) + 1 := by rw [tz, dif_neg h0, if_neg (by omega)]
theorem tz_dvd (n : Nat) : n ≠ 0 → n % 2 ^ tz n = 0 ∧ n / 2 ^ tz n % 2 = 1 := by
  induction n using Nat.strongRecOn with
  | ind n ih =>
    intro h0
    by_cases h : n % 2 = 1
    · rw [tz_odd n h]; simp [Nat.mod_one, h]
    · have := ih (n / 2) (by omega) (by omega)
      rw [tz_even n h0 (by omega), Nat.pow_succ]
      constructor
      · have h1 := this.1
        have : n = 2 * (n / 2) := by omega
        rw [this, Nat.mul_comm (2 ^ tz (2 * (n / 2) / 2)) 2, show 2 * (n / 2) / 2 = n / 2 by omega, Nat.mul_mod_mul_left, h1]
      · rw [Nat.mul_comm, ← Nat.div_div_eq_div_mul]; exact this.2
theorem tz_lt (n : Nat) (h0 : n ≠ 0) (k : Nat) (h : n < 2 ^ k) : tz n < k := by
  have h1 := (tz_dvd n h0).1
  have h2 : 2 ^ tz n ≤ n := Nat.le_of_dvd (by omega) (Nat.dvd_of_mod_eq_zero h1)
  exact (Nat.pow_lt_pow_iff_right (by decide : 1 < 2)).1 (by omega)
def zerosN (n : Nat) : Nat := if n = 0 then 63 else tz n
theorem nums_Zeros (n : Nat) (hn : n ≤ 4611686018427387904) (w : World) :
    Calls Tryd.prog 116 #[.int .i64 n] w fun e w' => e = .returned (.int .i64 (zerosN n)) ∧ w = w' := by
  have HZ : Hid (zerosN n = if n = 0 then 63 else tz n) := rfl
  generalize zerosN n = z at *
  by_cases h0 : n = 0
  · have hz : z = 63 := by rw [HZ.out, if_pos h0]
    subst h0 hz
    go_enter Tryd.func116, Tryd.ntmps116
    go_wp2_with fail
    go_ret
    exact ⟨rfl, rfl⟩
  · have hz : tz n = z := by rw [HZ.out, if_neg h0]
    have hz63 : z < 63 := by rw [← hz]; exact tz_lt n h0 63 (by omega)
    have HT := hid hz
    have hp : 0 < n := by omega
    clear HZ hz h0
    go_enter Tryd.func116, Tryd.ntmps116
    go_wp2_with fail
    go_loop [0, 3] (fun n' k' => ∃ m k : Nat, n' = .int .i64 m ∧ k' = .int .i64 k ∧ 0 < m ∧ m ≤ 4611686018427387904 ∧ tz m + k = z) (fun n' _ => (intOf n').toNat)
    case atStart => exact ⟨n, 0, rfl, rfl, by omega, by omega, by have := HT.out; omega⟩
    case round =>
      obtain ⟨m, k, rfl, rfl, hm0, hm, hk⟩ := hrel
      have hk63 : k ≤ 63 := by omega
      have HK := hid hk
      clear hk
      have hand := i64_and1 (m : Int)
      by_cases hodd : m % 2 = 1
      · have hand2 : Go.bits .and .i64 (m : Int) 1 = 1 := by rw [hand]; omega
        have HR : Hid (k = z) := by unfold Hid; have := HK.out; rw [tz_odd m hodd] at this; omega
        clear hand hodd
        go_wp2_with fail
        go_ret
        exact ⟨ret_int' (by rw [HR.out]), rfl⟩
      · have hand2 : Go.bits .and .i64 (m : Int) 1 = 0 := by rw [hand]; omega
        have HR : Hid (tz (m / 2) + (k + 1) = z) := by unfold Hid; have := HK.out; rw [tz_even m (by omega) (by omega)] at this; omega
        have h2 : 2 ≤ m := by omega
        clear hand hodd
        go_wp2_with fail
        go_round
        case rel => exact ⟨m / 2, k + 1, by go_num, by go_num, by omega, by omega, HR.out⟩
        case measure => simp [intOf]; omega
end Go.Proofs.YtaaldkkfedinpaaDoor
set_option maxRecDepth 100000
namespace Go.Proofs.YtaaldkkfedinpaaDoor
open Go Go.RowKit

theorem nums_Bits (n : Int) (h0 : 0 ≤ n) (h2 : n ≤ 9223372036854775807) (w : World) :
    Calls Tryd.prog 97 #[.int .i64 n] w fun e w' => e = .returned (.int .i64 (bits n.toNat)) ∧ w = w' := by
  obtain ⟨n, rfl⟩ := Int.eq_ofNat_of_zero_le h0
  rw [Int.toNat_natCast]
  have hb := bits_le n 63 (by omega)
  go_enter Tryd.func97, Tryd.ntmps97
  go_wp2
  go_loop [0, 3] (fun n' k' => ∃ m k : Nat, n' = .int .i64 m ∧ k' = .int .i64 k ∧ m ≤ 9223372036854775807 ∧ bits m + k = bits n) (fun n' _ => (intOf n').toNat)
  case atStart => exact ⟨n, 0, rfl, rfl, by omega, by omega⟩
  case round =>
    obtain ⟨m, k, rfl, rfl, hm, hk⟩ := hrel
    have hs := bits_step m
    have HK := hid hk
    have HS := hid hs
    have hk63 : k ≤ 63 := by omega
    clear hk hs
    by_cases hm0 : 0 < m
    · go_wp2
      go_round
      case rel => exact ⟨m / 2, k + 1, by go_num, by go_num, by omega, by have := HS.out hm0; have := HK.out; omega⟩
      case measure => simp [intOf]; omega
    · go_wp2
      go_ret
      exact ⟨ret_int (by have h0 : m = 0 := by omega
                         subst h0; have := HK.out; rw [bits_zero] at this; omega), rfl⟩

theorem nums_Below_low (n : Int) (h : n < 2) (w : World) :
    Calls Tryd.prog 76 #[.int .i64 n] w fun e w' => e = .returned (.tuple #[.int .i64 0, .int .i64 10]) ∧ w = w' := by
  go_enter Tryd.func76, Tryd.ntmps76
  go_wp2_with fail
  go_ret2
  exact ⟨rfl, rfl⟩
theorem nums_Below (n : Int) (h : 2 ≤ n) (h2 : n ≤ 4611686018427387904) (w : World) :
    Calls Tryd.prog 76 #[.int .i64 n] w fun e w' => e = .returned (.tuple #[.int .i64 (sp n.toNat), .int .i64 0]) ∧ w = w' := by
  obtain ⟨b, hb⟩ : ∃ b, b = bits (n - 1).toNat := ⟨_, rfl⟩
  have hb1 : 1 ≤ (b : Int) := by have := bits_pos (n - 1).toNat (by omega); omega
  have hb2 : (b : Int) ≤ 62 := by have := bits_le (n - 1).toNat 62 (by omega); omega
  have hc := (nums_Bits (n - 1) (by omega) (by omega))
  rw [← hb] at hc
  have hs : (2 ^ (b - 1) : Int) = sp n.toNat := by
    unfold sp; rw [if_neg (by omega), hb, show (n - 1).toNat = n.toNat - 1 by omega]; simp
  have hs2 := sp_lt n.toNat (by omega)
  have HS := hid hs; clear hs hb
  have HC := hid hc; clear hc
  go_enter Tryd.func76, Tryd.ntmps76
  go_wp2_with (go_at_call 97; refine (HC.out _).mono ?_; rintro e w' ⟨rfl, rfl⟩)
  go_ret2
  exact ⟨ret2 (int_eq (wrap64_eq _ _ HS.out (by omega) (by omega))) rfl, rfl⟩
end Go.Proofs.YtaaldkkfedinpaaDoor
