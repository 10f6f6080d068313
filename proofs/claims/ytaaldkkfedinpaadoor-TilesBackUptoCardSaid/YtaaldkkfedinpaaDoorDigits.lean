/- Digits that were written are read back. The plain part, of no program. -/
import Derived.Lib.AppendIntMem
set_option maxRecDepth 100000
namespace Go.Proofs.YtaaldkkfedinpaaDoor
open Go

def isDig (c : UInt8) : Bool := decide (48 ≤ c.toNat) && decide (c.toNat ≤ 57)
/-- The digits at the head, and what stands behind them. -/
def digs : List UInt8 → List UInt8 × List UInt8
  | [] => ([], [])
  | c :: r => if isDig c = true then (c :: (digs r).1, (digs r).2) else ([], c :: r)
/-- The number that digits write. -/
def valF (n : Nat) (l : List UInt8) : Nat := l.foldl (fun n c => 10 * n + (c.toNat - 48)) n
theorem valF_append (n : Nat) (l m : List UInt8) : valF n (l ++ m) = valF (valF n l) m := by unfold valF; rw [List.foldl_append]
theorem dgt_small (u : Nat) (h : u < 10) : Lib.decDigits u = [UInt8.ofNat (48 + u)] := by rw [Lib.decDigits, dif_pos h]
theorem dgt_step (u : Nat) (h : 10 ≤ u) : Lib.decDigits u = Lib.decDigits (u / 10) ++ [UInt8.ofNat (48 + u % 10)] := by rw [Lib.decDigits, dif_neg (by omega)]
theorem dgt_byte (d : Nat) (h : d < 10) : (UInt8.ofNat (48 + d)).toNat = 48 + d := by
  rw [UInt8.toNat_ofNat']
  omega
theorem dgt_is (d : Nat) (h : d < 10) : isDig (UInt8.ofNat (48 + d)) = true := by
  unfold isDig
  rw [dgt_byte d h]
  simp
  omega
theorem dec_all (k : Nat) : ∀ u, u ≤ k → ∀ c ∈ Lib.decDigits u, isDig c = true := by
  induction k with
  | zero =>
    intro u hu c hc
    rw [dgt_small u (by omega), List.mem_singleton] at hc
    rw [hc]
    exact dgt_is u (by omega)
  | succ k ih =>
    intro u hu c hc
    by_cases h : u < 10
    · rw [dgt_small u h, List.mem_singleton] at hc
      rw [hc]
      exact dgt_is u h
    · rw [dgt_step u (by omega), List.mem_append, List.mem_singleton] at hc
      rcases hc with hc | hc
      · exact ih (u / 10) (by omega) c hc
      · rw [hc]; exact dgt_is _ (by omega)
theorem dec_val (k : Nat) : ∀ u, u ≤ k → valF 0 (Lib.decDigits u) = u := by
  induction k with
  | zero =>
    intro u hu
    rw [dgt_small u (by omega)]
    show 10 * 0 + ((UInt8.ofNat (48 + u)).toNat - 48) = u
    rw [dgt_byte u (by omega)]
    omega
  | succ k ih =>
    intro u hu
    by_cases h : u < 10
    · rw [dgt_small u h]
      show 10 * 0 + ((UInt8.ofNat (48 + u)).toNat - 48) = u
      rw [dgt_byte u h]
      omega
    · rw [dgt_step u (by omega), valF_append, ih (u / 10) (by omega)]
      show 10 * (u / 10) + ((UInt8.ofNat (48 + u % 10)).toNat - 48) = u
      rw [dgt_byte _ (by omega)]
      omega
theorem digs_all : ∀ (l r : List UInt8), (∀ c ∈ l, isDig c = true) → (∀ c, r.head? = some c → isDig c = false) → digs (l ++ r) = (l, r) := by
  intro l
  induction l with
  | nil =>
    intro r _ hr
    cases r with
    | nil => rfl
    | cons c r =>
      have := hr c rfl
      show (if isDig c = true then (c :: (digs r).1, (digs r).2) else ([], c :: r)) = ([], c :: r)
      rw [if_neg (by rw [this]; simp)]
  | cons c l ih =>
    intro r hl hr
    show (if isDig c = true then (c :: (digs (l ++ r)).1, (digs (l ++ r)).2) else ([], c :: (l ++ r))) = (c :: l, r)
    rw [if_pos (hl c (List.mem_cons_self ..)), ih r (fun x hx => hl x (List.mem_cons_of_mem _ hx)) hr]
theorem digs_dec (u : Nat) (r : List UInt8) (hr : ∀ c, r.head? = some c → isDig c = false) : digs (Lib.decDigits u ++ r) = (Lib.decDigits u, r) :=
  digs_all _ _ (dec_all u u (Nat.le_refl _)) hr
/-- Three digits. -/
def three (r : Nat) : List UInt8 := [UInt8.ofNat (48 + r / 100), UInt8.ofNat (48 + r / 10 % 10), UInt8.ofNat (48 + r % 10)]
theorem three_val (n r : Nat) (h : r < 1000) : valF n (three r) = 1000 * n + r := by
  show 10 * (10 * (10 * n + ((UInt8.ofNat (48 + r / 100)).toNat - 48)) + ((UInt8.ofNat (48 + r / 10 % 10)).toNat - 48)) + ((UInt8.ofNat (48 + r % 10)).toNat - 48) = 1000 * n + r
  rw [dgt_byte _ (by omega), dgt_byte _ (by omega), dgt_byte _ (by omega)]
  omega
theorem three_all (r : Nat) (h : r < 1000) : ∀ c ∈ three r, isDig c = true := by
  intro c hc
  simp only [three, List.mem_cons, List.not_mem_nil, or_false] at hc
  rcases hc with rfl | rfl | rfl
  · exact dgt_is _ (by omega)
  · exact dgt_is _ (by omega)
  · exact dgt_is _ (by omega)
theorem digs_three (r : Nat) (h : r < 1000) (t : List UInt8) (ht : ∀ c, t.head? = some c → isDig c = false) : digs (three r ++ t) = (three r, t) := digs_all _ _ (three_all r h) ht
end Go.Proofs.YtaaldkkfedinpaaDoor
