/- A number in groups of three digits is read back, group by group. The plain part, of no program. -/
import Derived.Test.YtaaldkkfedinpaaDoorDigits
set_option maxRecDepth 100000
namespace Go.Proofs.YtaaldkkfedinpaaDoor
open Go

/-- The groups ahead of the last one, each behind "/x". -/
def slashG (m : Nat) : List UInt8 := if _h : m = 0 then [] else slashG (m / 1000) ++ ([47, 120] ++ three (m % 1000))
termination_by m
decreasing_by omega
theorem slashG_zero : slashG 0 = [] := by rw [slashG, dif_pos rfl]
theorem slashG_step (m : Nat) (h : m ≠ 0) : slashG m = slashG (m / 1000) ++ ([47, 120] ++ three (m % 1000)) := by rw [slashG, dif_neg h]
/-- A number behind what must stand ahead of it; none: it does not. -/
def rdA (ahead s : List UInt8) : Option (Nat × List UInt8) :=
  if s.take ahead.length = ahead then (if (digs (s.drop ahead.length)).1 = [] ∨ 18 < (digs (s.drop ahead.length)).1.length then none else some (valF 0 (digs (s.drop ahead.length)).1, (digs (s.drop ahead.length)).2)) else none
theorem rdA_of (ahead d t : List UInt8) (hd : d ≠ []) (h18 : d.length ≤ 18) (hall : ∀ c ∈ d, isDig c = true) (ht : ∀ c, t.head? = some c → isDig c = false) : rdA ahead (ahead ++ (d ++ t)) = some (valF 0 d, t) := by
  unfold rdA
  rw [List.take_left, List.drop_left, digs_all d t hall ht, if_pos rfl, if_neg (by simp only; intro h; rcases h with h | h; exact hd h; omega)]
theorem rdA_no (ahead s : List UInt8) (h : s.take ahead.length ≠ ahead) : rdA ahead s = none := by unfold rdA; rw [if_neg h]
/-- The reference's loop: groups read while they stand. -/
def refLoop : Nat → Nat → List UInt8 → Nat × List UInt8
  | 0, idx, s => (idx, s)
  | f + 1, idx, s => match rdA [47, 120] s with
    | none => (idx, s)
    | some (n, t) => if idx < 4503599627370496 then refLoop f (1000 * idx + n) t else (idx, s)
theorem refLoop_some (f idx n : Nat) (s t : List UInt8) (h : rdA [47, 120] s = some (n, t)) (hi : idx < 4503599627370496) : refLoop (f + 1) idx s = refLoop f (1000 * idx + n) t := by
  show (match rdA [47, 120] s with | none => (idx, s) | some (n, t) => if idx < 4503599627370496 then refLoop f (1000 * idx + n) t else (idx, s)) = _
  rw [h]
  simp only
  rw [if_pos hi]
theorem loop_groups (k : Nat) : ∀ m, m ≤ k → m / 1000 < 4503599627370496 → ∀ (Y : List UInt8), (∀ c, Y.head? = some c → isDig c = false) → ∃ n, ∀ f, refLoop (f + n) 0 (slashG m ++ Y) = refLoop f m Y := by
  induction k with
  | zero =>
    intro m hm _ Y _
    obtain rfl : m = 0 := by omega
    exact ⟨0, fun f => by rw [slashG_zero]; rfl⟩
  | succ k ih =>
    intro m hm hlt Y hY
    by_cases h0 : m = 0
    · subst h0
      exact ⟨0, fun f => by rw [slashG_zero]; rfl⟩
    · obtain ⟨n, hn⟩ := ih (m / 1000) (by omega) (by omega) ([47, 120] ++ (three (m % 1000) ++ Y)) (fun c hc => by cases hc; rfl)
      refine ⟨n + 1, fun f => ?_⟩
      have hr := rdA_of [47, 120] (three (m % 1000)) Y (by simp [three]) (by simp [three]) (three_all _ (by omega)) hY
      rw [three_val 0 _ (by omega)] at hr
      have h1 := hn (f + 1)
      rw [slashG_step m h0, List.append_assoc, List.append_assoc, show f + (n + 1) = f + 1 + n by omega, h1, refLoop_some f (m / 1000) _ _ _ hr hlt]
      congr 1
      omega
end Go.Proofs.YtaaldkkfedinpaaDoor
