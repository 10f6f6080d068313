/- A number in groups, split at the slash and read piece by piece; texts cut at a mark. The plain part, of no program. -/
import Derived.Test.YtaaldkkfedinpaaDoorTPure
import Derived.Test.YtaaldkkfedinpaaDoorGroups
import Derived.Lib.Split
import Derived.Lib.AtoiTie
import Derived.Lib.CountLaws
import Derived.Lib.CutLaws
set_option maxRecDepth 100000
namespace Go.Proofs.YtaaldkkfedinpaaDoor
open Go

theorem idx_hit (c : UInt8) (x a r : List UInt8) (h : c ∉ a) : Lib.index (a ++ (c :: x ++ r)) (c :: x) = a.length := by
  induction a with
  | nil =>
    show Lib.index (c :: (x ++ r)) (c :: x) = 0
    unfold Lib.index
    rw [if_pos (show (c :: x).isPrefixOf (c :: (x ++ r)) = true from List.isPrefixOf_iff_prefix.2 ⟨r, rfl⟩)]
  | cons b a ih =>
    have hb : b ≠ c := fun e => h (by rw [e]; exact List.mem_cons_self ..)
    have ih := ih (fun hc => h (List.mem_cons_of_mem _ hc))
    show Lib.index (b :: (a ++ (c :: x ++ r))) (c :: x) = _
    unfold Lib.index
    rw [if_neg (fun e => by
      obtain ⟨t, ht⟩ := List.isPrefixOf_iff_prefix.1 e
      injection ht with h1 h2
      exact hb h1.symm), ih, if_neg (by intro e; have := beq_iff_eq.1 e; omega)]
    rw [List.length_cons]; omega
theorem idx_miss (c : UInt8) (x a : List UInt8) (h : c ∉ a) : Lib.index a (c :: x) = -1 := by
  induction a with
  | nil => rfl
  | cons b a ih =>
    have hb : b ≠ c := fun e => h (by rw [e]; exact List.mem_cons_self ..)
    have ih := ih (fun hc => h (List.mem_cons_of_mem _ hc))
    unfold Lib.index
    rw [if_neg (fun e => by
      obtain ⟨t, ht⟩ := List.isPrefixOf_iff_prefix.1 e
      injection ht with h1 h2
      exact hb h1.symm), ih]
    rfl
theorem cut_hit (c : UInt8) (x a r : List UInt8) (h : c ∉ a) : Lib.cut (a ++ (c :: x ++ r)) (c :: x) = (a, r, true) := by
  unfold Lib.cut
  rw [idx_hit c x a r h, if_pos (by omega), Int.toNat_natCast, List.take_left, show a.length + (c :: x).length = (a ++ (c :: x)).length by rw [List.length_append], ← List.append_assoc, List.drop_left]
theorem cut_miss (c : UInt8) (x a : List UInt8) (h : c ∉ a) : Lib.cut a (c :: x) = (a, [], false) := by
  unfold Lib.cut
  rw [idx_miss c x a h, if_neg (by omega)]
/-- The groups ahead of the last one, each behind its x. -/
def groups (m : Nat) : List (List UInt8) := if _h : m = 0 then [] else groups (m / 1000) ++ [120 :: three (m % 1000)]
termination_by m
decreasing_by omega
theorem groups_zero : groups 0 = [] := by rw [groups, dif_pos rfl]
theorem groups_step (m : Nat) (h : m ≠ 0) : groups m = groups (m / 1000) ++ [120 :: three (m % 1000)] := by rw [groups, dif_neg h]
theorem three_no (r : Nat) (h : r < 1000) (c : UInt8) (hc : isDig c = false) : c ∉ three r := by
  intro hm
  have := three_all r h c hm
  rw [this] at hc
  cases hc
theorem xthree_no (r : Nat) (h : r < 1000) : (47 : UInt8) ∉ (120 :: three r) := by
  intro hm
  rcases List.mem_cons.1 hm with h1 | h1
  · exact absurd h1 (by decide)
  · exact three_no r h 47 (by decide) h1
theorem splitK_hit (k : Nat) (a r : List UInt8) (h : (47 : UInt8) ∉ a) : Lib.splitK [47] 0 (k + 1) (a ++ (47 :: r)) = a :: Lib.splitK [47] 0 k r := by
  have hi := idx_hit 47 [] a r h
  rw [show ([47] ++ r : List UInt8) = 47 :: r from rfl] at hi
  show (if Lib.index (a ++ (47 :: r)) [47] == -1 then [a ++ (47 :: r)] else (a ++ (47 :: r)).take ((Lib.index (a ++ (47 :: r)) [47]).toNat + 0) :: Lib.splitK [47] 0 k ((a ++ (47 :: r)).drop ((Lib.index (a ++ (47 :: r)) [47]).toNat + [47].length))) = _
  rw [hi, if_neg (by intro e; have := beq_iff_eq.1 e; omega), Int.toNat_natCast, Nat.add_zero, List.take_left]
  congr 2
  rw [show a ++ 47 :: r = (a ++ [47]) ++ r by simp, show a.length + [(47 : UInt8)].length = (a ++ [47]).length by simp, List.drop_left]
theorem splitK_miss (k : Nat) (a : List UInt8) (h : (47 : UInt8) ∉ a) : Lib.splitK [47] 0 k a = [a] := by
  cases k with
  | zero => rfl
  | succ k =>
    show (if Lib.index a [47] == -1 then [a] else a.take ((Lib.index a [47]).toNat + 0) :: Lib.splitK [47] 0 k (a.drop ((Lib.index a [47]).toNat + [47].length))) = _
    rw [idx_miss 47 [] a h, if_pos (show ((-1 : Int) == -1) = true from rfl)]
theorem countF_hit (k : Nat) (a r : List UInt8) (h : (47 : UInt8) ∉ a) : Lib.countFrom [47] (k + 1) (a ++ (47 :: r)) = 1 + Lib.countFrom [47] k r := by
  have hi := idx_hit 47 [] a r h
  rw [show ([47] ++ r : List UInt8) = 47 :: r from rfl] at hi
  show (if Lib.index (a ++ (47 :: r)) [47] == -1 then 0 else 1 + Lib.countFrom [47] k ((a ++ (47 :: r)).drop ((Lib.index (a ++ (47 :: r)) [47]).toNat + [47].length))) = _
  rw [hi, if_neg (by intro e; have := beq_iff_eq.1 e; omega), Int.toNat_natCast]
  congr 2
  rw [show a ++ 47 :: r = (a ++ [47]) ++ r by simp, show a.length + [(47 : UInt8)].length = (a ++ [47]).length by simp, List.drop_left]
theorem preL_app (m : Nat) (h : m ≠ 0) (X : List UInt8) : preL m ++ X = preL (m / 1000) ++ ((120 :: three (m % 1000)) ++ (47 :: X)) := by
  rw [preL_step m h]
  show preL (m / 1000) ++ ((120 :: three (m % 1000)) ++ [47]) ++ X = _
  simp
theorem split_groups (n : Nat) : ∀ m, m ≤ n → ∀ k X, Lib.splitK [47] 0 (k + (groups m).length) (preL m ++ X) = groups m ++ Lib.splitK [47] 0 k X := by
  induction n with
  | zero => intro m hm k X; obtain rfl : m = 0 := by omega
            rw [groups_zero, preL_zero]; rfl
  | succ n ih =>
    intro m hm k X
    by_cases h0 : m = 0
    · rw [h0, groups_zero, preL_zero]; rfl
    · have h1 := ih (m / 1000) (by omega) (k + 1) ((120 :: three (m % 1000)) ++ (47 :: X))
      rw [preL_app m h0, groups_step m h0, List.length_append, show k + ((groups (m / 1000)).length + [120 :: three (m % 1000)].length) = k + 1 + (groups (m / 1000)).length by simp; omega, h1, splitK_hit k _ _ (xthree_no _ (by omega))]
      simp
theorem count_groups (n : Nat) : ∀ m, m ≤ n → ∀ k X, Lib.countFrom [47] (k + (groups m).length) (preL m ++ X) = (groups m).length + Lib.countFrom [47] k X := by
  induction n with
  | zero => intro m hm k X; obtain rfl : m = 0 := by omega
            rw [groups_zero, preL_zero]; simp
  | succ n ih =>
    intro m hm k X
    by_cases h0 : m = 0
    · rw [h0, groups_zero, preL_zero]; simp
    · have h1 := ih (m / 1000) (by omega) (k + 1) ((120 :: three (m % 1000)) ++ (47 :: X))
      rw [preL_app m h0, groups_step m h0, List.length_append, show k + ((groups (m / 1000)).length + [120 :: three (m % 1000)].length) = k + 1 + (groups (m / 1000)).length by simp; omega, h1, countF_hit k _ _ (xthree_no _ (by omega))]
      simp; omega
theorem groups_len (n : Nat) : ∀ m, m ≤ n → (groups m).length ≤ (preL m).length := by
  induction n with
  | zero => intro m hm; obtain rfl : m = 0 := by omega
            rw [groups_zero]; simp
  | succ n ih =>
    intro m hm
    by_cases h0 : m = 0
    · rw [h0, groups_zero]; simp
    · have := ih (m / 1000) (by omega)
      rw [groups_step m h0, preL_step m h0, List.length_append, List.length_append]
      simp; omega
/-- What is between the slashes of a number that was written. -/
theorem split_index (i : Nat) : Lib.splitK [47] 0 (Lib.count (indexL i) [47]) (indexL i) = groups (i / 1000) ++ [three (i % 1000)] := by
  have hno := three_no (i % 1000) (by omega) 47 (by decide)
  have hl := groups_len (i / 1000) (i / 1000) (Nat.le_refl _)
  have hc : Lib.count (indexL i) [47] = (groups (i / 1000)).length := by
    unfold Lib.count
    obtain ⟨k, hk⟩ : ∃ k, (indexL i).length + 1 = k + (groups (i / 1000)).length := ⟨(indexL i).length + 1 - (groups (i / 1000)).length, by
      have : (preL (i / 1000)).length ≤ (indexL i).length := by unfold indexL; rw [List.length_append]; omega
      omega⟩
    rw [hk]
    show Lib.countFrom [47] (k + (groups (i / 1000)).length) (preL (i / 1000) ++ three (i % 1000)) = _
    rw [count_groups _ _ (Nat.le_refl _)]
    cases k with
    | zero => rfl
    | succ k =>
      show (groups (i / 1000)).length + (if Lib.index (three (i % 1000)) [47] == -1 then 0 else _) = _
      rw [idx_miss 47 [] _ hno, if_pos (show ((-1 : Int) == -1) = true from rfl)]
      rfl
  have h := split_groups (i / 1000) (i / 1000) (Nat.le_refl _) 0 (three (i % 1000))
  rw [Nat.zero_add] at h
  rw [hc]
  exact h
/-- A number of digits; none: -1. -/
def numL (l : List UInt8) : Int := match Lib.atoiAll l with | .ok v => if v < 0 then -1 else v | _ => -1
theorem decFrom_digits (l : List UInt8) (h : ∀ c ∈ l, isDig c = true) : ∀ n, Lib.decFrom n l = some (valF n l) := by
  induction l with
  | nil => intro n; rfl
  | cons c l ih =>
    intro n
    have hc := h c (List.mem_cons_self ..)
    unfold isDig at hc
    simp only [Bool.and_eq_true, decide_eq_true_eq] at hc
    have := ih (fun x hx => h x (List.mem_cons_of_mem _ hx)) (n * 10 + (c.toNat - 48))
    unfold Lib.decFrom Lib.digitVal
    rw [if_pos hc]
    simp only
    rw [this]
    show some (valF (n * 10 + (c.toNat - 48)) l) = some (valF (10 * n + (c.toNat - 48)) l)
    rw [Nat.mul_comm]
theorem numL_digits (l : List UInt8) (h : ∀ c ∈ l, isDig c = true) (h0 : l ≠ []) (h18 : l.length ≤ 18) : numL l = (valF 0 l : Nat) := by
  unfold numL
  rw [Lib.atoiAll_short l h18]
  cases l with
  | nil => exact absurd rfl h0
  | cons c l =>
    have hc := h c (List.mem_cons_self ..)
    unfold isDig at hc
    simp only [Bool.and_eq_true, decide_eq_true_eq] at hc
    have h1 : ¬ (c == 45) = true := by intro e; rw [beq_iff_eq.1 e] at hc; exact absurd hc.1 (by decide)
    have h2 : ¬ (c == 43) = true := by intro e; rw [beq_iff_eq.1 e] at hc; exact absurd hc.1 (by decide)
    unfold Lib.atoi
    simp only
    rw [if_neg h1, if_neg h2]
    unfold Lib.decNat
    rw [if_neg (by simp), decFrom_digits _ h]
    show (if ((valF 0 (c :: l) : Nat) : Int) < 0 then -1 else ((valF 0 (c :: l) : Nat) : Int)) = _
    rw [if_neg (by omega)]
theorem numL_ge (l : List UInt8) : -1 ≤ numL l := by
  unfold numL
  cases Lib.atoiAll l with
  | ok v => simp only; split <;> omega
  | _ => simp
theorem numL_le (l : List UInt8) : numL l ≤ 9223372036854775807 := by
  unfold numL
  cases h : Lib.atoiAll l with
  | ok v => have := Lib.atoiAll_bounds h; simp only; split <;> omega
  | _ => simp
/-- The pieces' numbers, one behind the other; -1: it is none. -/
def foldN : Int → List (List UInt8) → Int
  | n, [] => n
  | n, g :: r => if numL (Lib.trimPrefix g [120]) < 0 ∨ 1000 ≤ numL (Lib.trimPrefix g [120]) ∨ (4611686018427387904 - numL (Lib.trimPrefix g [120])) / 1000 < n then -1 else foldN (1000 * n + numL (Lib.trimPrefix g [120])) r
theorem trim_x (l : List UInt8) : Lib.trimPrefix (120 :: l) [120] = l := by
  unfold Lib.trimPrefix Lib.hasPrefix
  rw [if_pos (show [120].isPrefixOf (120 :: l) = true from List.isPrefixOf_iff_prefix.2 ⟨l, rfl⟩)]
  rfl
theorem trim_three (r : Nat) (h : r < 1000) : Lib.trimPrefix (three r) [120] = three r := by
  unfold Lib.trimPrefix Lib.hasPrefix
  rw [if_neg (fun e => by
    obtain ⟨t, ht⟩ := List.isPrefixOf_iff_prefix.1 e
    exact three_no r h 120 (by decide) (by rw [← ht]; exact List.mem_cons_self ..))]
theorem numL_three (r : Nat) (h : r < 1000) : numL (three r) = r := by
  rw [numL_digits _ (three_all r h) (by simp [three]) (by simp [three]), three_val 0 r h]
  omega
theorem foldN_groups (n : Nat) : ∀ m, m ≤ n → m ≤ 4611686018427387 → ∀ X, foldN 0 (groups m ++ X) = foldN m X := by
  induction n with
  | zero => intro m hm _ X; obtain rfl : m = 0 := by omega
            rw [groups_zero]; rfl
  | succ n ih =>
    intro m hm hM X
    by_cases h0 : m = 0
    · rw [h0, groups_zero]; rfl
    · rw [groups_step m h0, List.append_assoc, ih (m / 1000) (by omega) (by omega)]
      have hr : m % 1000 < 1000 := by omega
      show (if numL (Lib.trimPrefix (120 :: three (m % 1000)) [120]) < 0 ∨ _ ∨ _ then (-1 : Int) else foldN _ X) = _
      rw [trim_x, numL_three _ hr, if_neg (by omega)]
      congr 1
      omega
theorem foldN_index (i : Nat) (h : i ≤ 4611686018427387904) : foldN 0 (Lib.splitK [47] 0 (Lib.count (indexL i) [47]) (indexL i)) = i := by
  have hr : i % 1000 < 1000 := by omega
  rw [split_index, foldN_groups _ _ (Nat.le_refl _) (by omega)]
  show (if numL (Lib.trimPrefix (three (i % 1000)) [120]) < 0 ∨ _ ∨ _ then (-1 : Int) else foldN _ []) = _
  rw [trim_three _ hr, numL_three _ hr, if_neg (by omega)]
  show 1000 * ((i / 1000 : Nat) : Int) + ((i % 1000 : Nat) : Int) = _
  omega
theorem foldN_le (l : List (List UInt8)) : ∀ n, 0 ≤ n → n ≤ 4611686018427387904 → -1 ≤ foldN n l ∧ foldN n l ≤ 4611686018427387904 := by
  induction l with
  | nil => intro n h1 h2; exact ⟨by unfold foldN; omega, h2⟩
  | cons g l ih =>
    intro n h1 h2
    unfold foldN
    split
    · omega
    · exact ih _ (by omega) (by omega)
theorem splitB_len (sep : ByteArray) (h1 : 1 ≤ sep.size) (k : Nat) : ∀ s : ByteArray, Lib.countB s sep = k → (Lib.splitB sep 0 k s).length = k + 1 := by
  induction k with
  | zero => intro s _; rfl
  | succ k ih =>
    intro s h
    rcases Lib.indexB_cases s sep with hi | ⟨i, hi, _⟩
    · have := Lib.countB_miss s sep hi
      omega
    · have := Lib.countB_hit s sep i h1 hi
      rw [Lib.splitB_hit sep 0 k s i hi, List.length_cons, ih _ (by omega)]
end Go.Proofs.YtaaldkkfedinpaaDoor
