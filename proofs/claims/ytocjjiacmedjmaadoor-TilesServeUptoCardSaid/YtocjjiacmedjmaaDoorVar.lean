/- Walks of nums.Var and the reference's: a number read from bytes. -/
import Derived.Test.YtocjjiacmedjmaaDoorBytes
import Derived.Laws.Bits64b
set_option maxRecDepth 100000
namespace Go.Proofs.YtocjjiacmedjmaaDoor
open Go Go.RowKit

/-- A number read at p + i, of which i bytes are read: the number, the place behind it, the refusal. -/
def varAt (s : ByteArray) (p i acc : Nat) : Nat × Nat × Int :=
  if i < 10 then
    if h : p + i < s.size then
      let c := (s[p + i]'h).toNat
      if i = 9 ∧ 1 < c then (0, 0, 11)
      else if 0 < i ∧ c = 0 then (0, 0, 13)
      else if c < 128 then (acc + c % 128 * 128 ^ i, p + i + 1, 0)
      else varAt s p (i + 1) (acc + c % 128 * 128 ^ i)
    else (0, 0, 12)
  else (0, 0, 11)
termination_by 10 - i
theorem varAt_short (s : ByteArray) (p i acc : Nat) (h : i < 10) (h2 : ¬ p + i < s.size) : varAt s p i acc = (0, 0, 12) := by
  rw [varAt, if_pos h, dif_neg h2]
theorem varAt_big (s : ByteArray) (p i acc : Nat) (h : i < 10) (h2 : p + i < s.size) (h3 : i = 9 ∧ 1 < (s[p + i]'h2).toNat) : varAt s p i acc = (0, 0, 11) := by
  rw [varAt, if_pos h, dif_pos h2]; simp only [if_pos h3]
theorem varAt_zero (s : ByteArray) (p i acc : Nat) (h : i < 10) (h2 : p + i < s.size) (h3 : ¬ (i = 9 ∧ 1 < (s[p + i]'h2).toNat)) (h4 : 0 < i ∧ (s[p + i]'h2).toNat = 0) : varAt s p i acc = (0, 0, 13) := by
  rw [varAt, if_pos h, dif_pos h2]; simp only [if_neg h3, if_pos h4]
theorem varAt_end (s : ByteArray) (p i acc : Nat) (h : i < 10) (h2 : p + i < s.size) (h3 : ¬ (i = 9 ∧ 1 < (s[p + i]'h2).toNat)) (h4 : ¬ (0 < i ∧ (s[p + i]'h2).toNat = 0)) (h5 : (s[p + i]'h2).toNat < 128) :
    varAt s p i acc = (acc + (s[p + i]'h2).toNat % 128 * 128 ^ i, p + i + 1, 0) := by
  rw [varAt, if_pos h, dif_pos h2]; simp only [if_neg h3, if_neg h4, if_pos h5]
theorem varAt_on (s : ByteArray) (p i acc : Nat) (h : i < 10) (h2 : p + i < s.size) (h3 : ¬ (i = 9 ∧ 1 < (s[p + i]'h2).toNat)) (h4 : ¬ (0 < i ∧ (s[p + i]'h2).toNat = 0)) (h5 : ¬ (s[p + i]'h2).toNat < 128) :
    varAt s p i acc = varAt s p (i + 1) (acc + (s[p + i]'h2).toNat % 128 * 128 ^ i) := by
  rw [varAt, if_pos h, dif_pos h2]; simp only [if_neg h3, if_neg h4, if_neg h5]
theorem pow_step (i : Nat) (hi : i ≤ 9) (c acc : Nat) (hc : i = 9 → c ≤ 1) (ha : acc < 128 ^ i) : acc + c % 128 * 128 ^ i < 18446744073709551616 ∧ (i < 9 → acc + c % 128 * 128 ^ i < 128 ^ (i + 1)) ∧ c % 128 * 128 ^ i < 18446744073709551616 := by
  have h : c % 128 * 128 ^ i ≤ 127 * 128 ^ i := Nat.mul_le_mul_right _ (by omega)
  have e : 128 ^ (i + 1) = 128 ^ i * 128 := Nat.pow_succ ..
  rcases Nat.lt_or_ge i 9 with h9 | h9
  · have : 128 ^ i ≤ 128 ^ 8 := Nat.pow_le_pow_right (by decide) (by omega)
    refine ⟨by omega, fun _ => by omega, by omega⟩
  · obtain rfl : i = 9 := by omega
    have := hc rfl
    have h1 : c % 128 * 128 ^ 9 ≤ 1 * 128 ^ 9 := Nat.mul_le_mul_right _ (by omega)
    refine ⟨by omega, fun h => absurd h (by omega), by omega⟩
/-- What is read: its reach. -/
theorem varAt_spec (s : ByteArray) (p : Nat) (k : Nat) : ∀ i acc, 10 - i ≤ k → i ≤ 9 → acc < 128 ^ i → (varAt s p i acc).1 < 18446744073709551616 ∧ ((varAt s p i acc).2.2 = 0 → p < (varAt s p i acc).2.1 ∧ (varAt s p i acc).2.1 ≤ s.size) := by
  induction k with
  | zero => intro i acc h h2; omega
  | succ k ih =>
    intro i acc h hi ha
    have hi' : i < 10 := by omega
    by_cases h2 : p + i < s.size
    · by_cases h3 : i = 9 ∧ 1 < (s[p + i]'h2).toNat
      · rw [varAt_big s p i acc hi' h2 h3]; simp
      · by_cases h4 : 0 < i ∧ (s[p + i]'h2).toNat = 0
        · rw [varAt_zero s p i acc hi' h2 h3 h4]; simp
        · have hp := pow_step i hi (s[p + i]'h2).toNat acc (by omega) ha
          by_cases h5 : (s[p + i]'h2).toNat < 128
          · rw [varAt_end s p i acc hi' h2 h3 h4 h5]
            exact ⟨hp.1, fun _ => ⟨by show p < p + i + 1; omega, by show p + i + 1 ≤ _; omega⟩⟩
          · rw [varAt_on s p i acc hi' h2 h3 h4 h5]
            have h9 : i < 9 := by omega
            exact ih (i + 1) _ (by omega) (by omega) (hp.2.1 h9)
    · rw [varAt_short s p i acc hi' h2]; simp
def varErr (r : Nat × Nat × Int) : Value := .tuple #[.int .u64 r.1, .int .i64 r.2.1, .int .i64 r.2.2]
theorem or_shift (acc x i : Nat) (ha : acc < 128 ^ i) : acc ||| x * 128 ^ i = acc + x * 128 ^ i := by
  have e : 128 ^ i = 2 ^ (7 * i) := by rw [Nat.pow_mul]
  have ha' : acc < 2 ^ (7 * i) := by rw [← e]; exact ha
  rw [e, Nat.or_comm, Nat.mul_comm, ← Nat.two_pow_add_eq_or_of_lt ha' x, Nat.add_comm]

theorem and_127 (c : Nat) (hc : c < 256) : Go.bits .and .u8 (c : Int) 127 = ((c % 128 : Nat) : Int) := by
  have h : ∀ k : Fin 256, Go.bits .and .u8 ((k.val : Nat) : Int) 127 = ((k.val % 128 : Nat) : Int) := by decide +kernel
  exact h ⟨c, hc⟩
theorem u64_wrap_in (x : Nat) (h : x < 18446744073709551616) : IntKind.u64.wrap (x : Int) = (x : Int) := by
  simp [IntKind.wrap, IntKind.bits, IntKind.signed]; omega
theorem or_step (acc c i : Nat) (hi : i ≤ 9) (hc : c < 256) (h9 : i = 9 → c ≤ 1) (ha : acc < 128 ^ i) (P : Int) (hP : P = ((128 ^ i : Nat) : Int)) :
    Go.bits .or .u64 (acc : Int) (IntKind.u64.wrap (IntKind.u64.wrap (Go.bits .and .u8 (c : Int) 127) * P)) = ((acc + c % 128 * 128 ^ i : Nat) : Int) := by
  have hp := pow_step i hi c acc h9 ha
  have hacc : acc < 18446744073709551616 := by omega
  rw [and_127 c hc, u64_wrap_in _ (by omega), hP, ← Int.natCast_mul, u64_wrap_in _ hp.2.2, bits_or_u64_nat _ _ hacc hp.2.2, or_shift acc _ i ha]
theorem two_pow (i : Nat) : (2 : Int) ^ (7 * i) = ((128 ^ i : Nat) : Int) := by
  rw [show (128 : Nat) ^ i = 2 ^ (7 * i) by rw [Nat.pow_mul]]
  simp

theorem add_step (acc c m : Nat) (h1 : acc + c % 128 * m < 18446744073709551616) : IntKind.u64.wrap ((acc : Int) + IntKind.u64.wrap ((c : Int) % 128 * (m : Int))) = ((acc + c % 128 * m : Nat) : Int) := by
  have e : (c : Int) % 128 * (m : Int) = ((c % 128 * m : Nat) : Int) := by simp
  rw [e, u64_wrap_in _ (by omega), ← Int.natCast_add, u64_wrap_in _ h1]
end Go.Proofs.YtocjjiacmedjmaaDoor
