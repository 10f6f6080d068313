/- The numbers of a proof, as they are written: the plain part, and the walks of named, bare, numbers of both sides. -/
import Derived.Test.YtocjjiacmedjmaaCountLaw
import Derived.Test.YtocjjiacmedjmaaHashes
set_option maxRecDepth 100000
namespace Go.Proofs.Ytocjjiacmedjmaa
open Go Go.RowKit

/-- Is each field zero that the kind does not name? -/
def namedN (k a b : Int) (l : Nat) : Bool := if k = 1 ∨ k = 2 then decide (b = 0 ∧ l = 0) else if k = 3 then decide (l = 0) else decide (a = 0 ∧ b = 0)
/-- The gaps between places. -/
def gapL : Int → List Int → List Int
  | _, [] => []
  | last, x :: r => (x - last - 1) :: gapL x r
def lastOf (l : Int) (xs : List Int) (i : Nat) : Int := if i = 0 then l else xs.getD (i - 1) 0
theorem gapL_step : ∀ (xs : List Int) (l : Int) (i : Nat) (hi : i < xs.length), gapL l (xs.take (i + 1)) = gapL l (xs.take i) ++ [xs[i] - lastOf l xs i - 1] := by
  intro xs
  induction xs with
  | nil => intro l i hi; simp at hi
  | cons x r ih =>
    intro l i hi
    cases i with
    | zero => simp [gapL, lastOf]
    | succ i =>
      have hi' : i < r.length := by rw [List.length_cons] at hi; omega
      rw [List.take_succ_cons, List.take_succ_cons]
      simp only [gapL, List.cons_append]
      rw [ih x i hi']
      congr 2
      have e2 : ∀ (l : Int) (xs : List Int) (j : Nat), lastOf l xs (j + 1) = xs.getD j 0 := fun l xs j => by
        unfold lastOf; rw [if_neg (Nat.succ_ne_zero j)]; rfl
      have e : lastOf x r i = lastOf l (x :: r) (i + 1) := by
        rw [e2]
        cases i with
        | zero => rfl
        | succ j => rw [e2]; rfl
      rw [e]; rfl
/-- The numbers that are written. -/
def numsN (k a b n : Int) (xs : List Int) : List Int :=
  if k = 1 ∨ k = 2 then [a, n] else if k = 3 then [a, b, n] else ((xs.length : Int) :: gapL (-1) xs) ++ [n]
def flatN (l : List Int) : List UInt8 := l.flatMap fun x => putVar x.toNat
theorem flatN_step (l : List Int) (i : Nat) (hi : i < l.length) : flatN (l.take (i + 1)) = flatN (l.take i) ++ putVar l[i].toNat := by
  unfold flatN
  rw [List.take_succ_eq_append_getElem hi, List.flatMap_append, List.flatMap_cons, List.flatMap_nil, List.append_nil]
theorem flatN_append (l m : List Int) : flatN (l ++ m) = flatN l ++ flatN m := by unfold flatN; rw [List.flatMap_append]
/-- Numbers of at most 2 to the 62. -/
def Small (l : List Int) : Prop := ∀ x ∈ l, 0 ≤ x ∧ x ≤ 4611686018427387904
theorem flatN_len (l : List Int) (h : Small l) : (flatN l).length ≤ 10 * l.length := by
  induction l with
  | nil => simp [flatN]
  | cons x r ih =>
    have h1 := ih (fun y hy => h y (List.mem_cons_of_mem _ hy))
    have h2 := h x (List.mem_cons_self ..)
    have h3 := putVar_len 9 x.toNat (by omega)
    have e : flatN (x :: r) = putVar x.toNat ++ flatN r := rfl
    rw [e, List.length_append, List.length_cons]; omega
theorem gapL_length (xs : List Int) : ∀ l, (gapL l xs).length = xs.length := by
  induction xs with
  | nil => intro l; rfl
  | cons x r ih => intro l; simp [gapL, ih]
/-- What rises fast enough. -/
def Rise : Int → List Int → Prop
  | _, [] => True
  | last, x :: r => last < x ∧ x ≤ 4611686018427387904 ∧ Rise x r
theorem gapL_small (xs : List Int) : ∀ l, -1 ≤ l → Rise l xs → Small (gapL l xs) := by
  induction xs with
  | nil => intro l _ _ x hx; simp [gapL] at hx
  | cons y r ih =>
    intro l hl ⟨h1, h2, h3⟩ x hx
    simp only [gapL, List.mem_cons] at hx
    rcases hx with rfl | hx
    · omega
    · exact ih y (by omega) h3 x hx
theorem rise_of (n : Int) (hn : n ≤ 4611686018427387904) (xs : List Int) : ∀ (l : Int), (∀ i (h : i < xs.length), l < xs[i] ∧ xs[i] < n) → (∀ i j (hi : i < xs.length) (hj : j < xs.length), i < j → xs[i] < xs[j]) → Rise l xs := by
  induction xs with
  | nil => intro l _ _; trivial
  | cons x r ih =>
    intro l h1 h2
    have h0 := h1 0 (by simp)
    refine ⟨h0.1, by have := h0.2; simp at this; omega, ih x (fun i hi => ?_) (fun i j hi hj hij => ?_)⟩
    · have a1 := h2 0 (i + 1) (by simp) (by simpa using hi) (by omega)
      have a2 := h1 (i + 1) (by simpa using hi)
      simp at a1 a2
      exact ⟨a1, a2.2⟩
    · have := h2 (i + 1) (j + 1) (by simpa using hi) (by simpa using hj) (by omega)
      simpa using this
/-- What is known of a proof that Count takes. -/
structure Taken (k a b n : Int) (xs : List Int) : Prop where
  k1 : 1 ≤ k
  k4 : k ≤ 4
  n0 : 0 ≤ n
  n2 : n ≤ 4611686018427387904
  small : Small (numsN k a b n xs)
  few : k = 4 → xs.length ≤ 1024
  rise : k = 4 → Rise (-1) xs
  at_ : k = 4 → ∀ x ∈ xs, 0 ≤ x ∧ x ≤ 4611686018427387904
theorem taken_of (k a b n : Int) (xs : List Int) (h : (countN k a b n xs).2 = 0) : Taken k a b n xs := by
  unfold countN at h
  by_cases hk : k < 1 ∨ 4 < k
  · rw [if_pos hk] at h; simp at h
  rw [if_neg hk] at h
  by_cases hn : n < 0 ∨ 4611686018427387904 < n
  · rw [if_pos hn] at h; simp at h
  rw [if_neg hn] at h
  by_cases k1 : k = 1
  · subst k1
    rw [if_pos rfl] at h
    split at h
    · simp at h
    · rename_i h1
      refine ⟨by omega, by omega, by omega, by omega, ?_, by omega, by omega, by omega⟩
      intro x hx
      simp [numsN] at hx
      rcases hx with rfl | rfl <;> omega
  rw [if_neg k1] at h
  by_cases k2 : k = 2
  · subst k2
    rw [if_pos rfl] at h
    split at h
    · simp at h
    · rename_i h1
      refine ⟨by omega, by omega, by omega, by omega, ?_, by omega, by omega, by omega⟩
      intro x hx
      simp [numsN] at hx
      rcases hx with rfl | rfl <;> omega
  rw [if_neg k2] at h
  by_cases k3 : k = 3
  · subst k3
    rw [if_pos rfl] at h
    split at h
    · simp at h
    · rename_i h1
      refine ⟨by omega, by omega, by omega, by omega, ?_, by omega, by omega, by omega⟩
      intro x hx
      simp [numsN] at hx
      rcases hx with rfl | rfl | rfl <;> omega
  rw [if_neg k3] at h
  obtain rfl : k = 4 := by omega
  have hr : risingN xs n = 0 := by
    by_cases e : risingN xs n = 0
    · exact e
    · rw [if_neg e] at h; exact h
  have hR := rises_of xs n hr
  have hfew : xs.length ≤ 1024 := by
    unfold risingN at hr
    split at hr
    · simp at hr
    · split at hr
      · simp at hr
      · omega
  have hrise : Rise (-1) xs := rise_of n (by omega) xs (-1) (fun i hi => by have := hR.at_ i hi; omega) hR.up
  refine ⟨by omega, by omega, by omega, by omega, ?_, fun _ => hfew, fun _ => hrise, fun _ x hx => ?_⟩
  · intro x hx
    simp only [numsN] at hx
    rw [if_neg (by omega), if_neg (by omega)] at hx
    simp only [List.cons_append, List.mem_cons, List.mem_append, List.mem_nil_iff, or_false] at hx
    rcases hx with rfl | hx | rfl
    · omega
    · exact gapL_small xs (-1) (by omega) hrise x hx
    · omega
  · obtain ⟨i, hi, rfl⟩ := List.getElem_of_mem hx
    have := hR.at_ i hi
    omega
theorem numsN_length (k a b n : Int) (xs : List Int) (h : Taken k a b n xs) : (numsN k a b n xs).length ≤ 1026 := by
  unfold numsN
  split
  · simp
  · split
    · simp
    · have hf := h.few (by have := h.k1; have := h.k4; omega)
      simp [gapL_length]; omega

/-- A proof as it is handed over. -/
def proofV (k wd a b n : Int) (ao : Option Addr) (xs : List Int) (cap : Nat) (ho : Option Addr) (hs : List ByteArray) (hcap : Nat) : Value :=
  .agg #[.int .i64 k, .int .i64 wd, .int .i64 a, .int .i64 b, .int .i64 n, .slice ao xs.length cap, .slice ho hs.length hcap]

theorem len_beq (n : Nat) : ((n : Int) == 0) = decide (n = 0) := by
  by_cases h : n = 0
  · subst h; rfl
  · rw [beq_eq_false_iff_ne.2 (by omega : (n : Int) ≠ 0), decide_eq_false h]
theorem int_beq (n : Int) : (n == 0) = decide (n = 0) := by
  by_cases h : n = 0
  · subst h; rfl
  · rw [beq_eq_false_iff_ne.2 h, decide_eq_false h]
theorem named_two (k a b : Int) (l : Nat) (hk : k = 1 ∨ k = 2) : namedN k a b l = decide (b = 0 ∧ l = 0) := by unfold namedN; rw [if_pos hk]
theorem named_three (a b : Int) (l : Nat) : namedN 3 a b l = decide (l = 0) := by unfold namedN; rw [if_neg (by omega), if_pos rfl]
theorem named_other (k a b : Int) (l : Nat) (h1 : k ≠ 1) (h2 : k ≠ 2) (h3 : k ≠ 3) : namedN k a b l = decide (a = 0 ∧ b = 0) := by unfold namedN; rw [if_neg (by omega), if_neg h3]
set_option maxHeartbeats 1000000 in
theorem wire_named (k wd a b n : Int) (ao : Option Addr) (xs : List Int) (cap : Nat) (ho : Option Addr) (hs : List ByteArray) (hcap : Nat) (w : World) :
    Calls Try.prog 24 #[proofV k wd a b n ao xs cap ho hs hcap] w fun e w' => e = .returned (.bool (namedN k a b xs.length)) ∧ Below w.heap.size w w' := by
  unfold proofV
  rcases (show k = 1 ∨ k = 2 ∨ k = 3 ∨ (k ≠ 1 ∧ k ≠ 2 ∧ k ≠ 3) by omega) with rfl | rfl | rfl | ⟨h1, h2, h3⟩
  · rw [named_two 1 a b _ (.inl rfl)]
    go_enter Try.func24, Try.ntmps24
    go_wp2_with fail
    go_quiet (fail)
    go_wp2_with fail
    all_goals go_ret
    all_goals exact ⟨ret_bool (by simp [len_beq, *]), below_drewN ((Below.refl _ _).alloc (Nat.le_refl _) _) _⟩
  · rw [named_two 2 a b _ (.inr rfl)]
    go_enter Try.func24, Try.ntmps24
    go_wp2_with fail
    go_quiet (fail)
    go_wp2_with fail
    all_goals go_ret
    all_goals exact ⟨ret_bool (by simp [len_beq, *]), below_drewN ((Below.refl _ _).alloc (Nat.le_refl _) _) _⟩
  · rw [named_three]
    go_enter Try.func24, Try.ntmps24
    go_wp2_with fail
    go_quiet (fail)
    go_wp2_with fail
    all_goals go_ret
    all_goals exact ⟨ret_bool (by simp [len_beq]), below_drewN ((Below.refl _ _).alloc (Nat.le_refl _) _) _⟩
  · rw [named_other k a b _ h1 h2 h3]
    have k1 : (k == 1) = false := beq_eq_false_iff_ne.2 h1
    have k2 : (k == 2) = false := beq_eq_false_iff_ne.2 h2
    have k3 : (k == 3) = false := beq_eq_false_iff_ne.2 h3
    clear h1 h2 h3
    go_enter Try.func24, Try.ntmps24
    go_wp2_with fail
    go_quiet (fail)
    go_wp2_with fail
    all_goals go_ret
    all_goals exact ⟨ret_bool (by simp [int_beq, *]), below_drewN ((Below.refl _ _).alloc (Nat.le_refl _) _) _⟩
end Go.Proofs.Ytocjjiacmedjmaa
