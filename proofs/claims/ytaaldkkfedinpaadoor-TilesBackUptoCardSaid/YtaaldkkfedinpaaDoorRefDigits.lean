/- Walk of the reference's digits. -/
import Derived.Test.YtaaldkkfedinpaaDoorGroups
import Derived.Test.YtaaldkkfedinpaaDoorKit
set_option maxRecDepth 100000
namespace Go.Proofs.YtaaldkkfedinpaaDoor
open Go Go.RowKit

def digR (l : List UInt8) : Int × List UInt8 := if (digs l).1 = [] ∨ 18 < (digs l).1.length then ((-1 : Int), ([] : List UInt8)) else (((valF 0 (digs l).1 : Nat) : Int), (digs l).2)
theorem digs_split (l : List UInt8) : (digs l).1 ++ (digs l).2 = l := by
  induction l with
  | nil => rfl
  | cons c l ih =>
    unfold digs
    by_cases h : isDig c = true
    · rw [if_pos h]; show c :: ((digs l).1 ++ (digs l).2) = c :: l; rw [ih]
    · rw [if_neg h]; rfl
theorem digs_is (l : List UInt8) : ∀ c ∈ (digs l).1, isDig c = true := by
  induction l with
  | nil => intro c hc; simp [digs] at hc
  | cons c l ih =>
    intro x hx
    unfold digs at hx
    by_cases h : isDig c = true
    · rw [if_pos h] at hx
      rcases List.mem_cons.1 hx with rfl | hx
      · exact h
      · exact ih x hx
    · rw [if_neg h] at hx; simp at hx
theorem digs_end (l : List UInt8) (c : UInt8) (r : List UInt8) (h : (digs l).2 = c :: r) : isDig c = false := by
  induction l with
  | nil => simp [digs] at h
  | cons x l ih =>
    unfold digs at h
    by_cases hx : isDig x = true
    · rw [if_pos hx] at h; exact ih h
    · rw [if_neg hx] at h
      simp only [List.cons.injEq] at h
      rw [← h.1]
      simpa using hx
theorem valF_lt (l : List UInt8) (h : ∀ c ∈ l, isDig c = true) : ∀ n k, n < 10 ^ k → valF n l < 10 ^ (k + l.length) := by
  induction l with
  | nil => intro n k hn; exact hn
  | cons c l ih =>
    intro n k hn
    have hc := h c (List.mem_cons_self ..)
    unfold isDig at hc
    simp only [Bool.and_eq_true, decide_eq_true_eq] at hc
    have := ih (fun x hx => h x (List.mem_cons_of_mem _ hx)) (10 * n + (c.toNat - 48)) (k + 1) (by rw [Nat.pow_succ]; omega)
    rw [List.length_cons, show k + (l.length + 1) = k + 1 + l.length by omega]
    exact this
end Go.Proofs.YtaaldkkfedinpaaDoor
