/- Plain laws: how many hashes a proof has at most; one leaf as a range, as places, by itself. No program in sight. -/
import Derived.Test.YtocjjiacmedjmaaCountLaw
namespace Go.Proofs.Ytocjjiacmedjmaa

/-- One leaf: h tells nothing just of parts without it, all just of the leaf itself. -/
theorem out_one (h : Nat → Nat → Nat) (i : Nat) (h0 : ∀ a b, a < b → (h a b = 0 ↔ ¬ (a ≤ i ∧ i < b))) (h2 : ∀ a b, a < b → (h a b = 2 ↔ a = i ∧ b = i + 1)) (k : Nat) :
    ∀ a b, b - a ≤ k → a ≤ i → i < b → outN h a b = stepsN (i - a) (b - a) := by
  induction k with
  | zero => intro a b hk ha hb; omega
  | succ k ih =>
    intro a b hk ha hb
    have hne : h a b ≠ 0 := fun e => (h0 a b (by omega)).1 e ⟨ha, hb⟩
    by_cases o : 2 ≤ b - a
    · have hne2 : h a b ≠ 2 := fun e => by have := (h2 a b (by omega)).1 e; omega
      rw [outN_some h a b hne hne2 o]
      have hs := sp_lt (b - a) o
      have hp := sp_pos (b - a)
      by_cases hi : i < a + sp (b - a)
      · rw [ih a (a + sp (b - a)) (by omega) ha hi, outN_none h _ _ ((h0 _ _ (by omega)).2 (by omega)), stepsN_left _ _ o (by omega)]
        congr 2; omega
      · rw [outN_none h a _ ((h0 _ _ (by omega)).2 (by omega)), ih (a + sp (b - a)) b (by omega) (by omega) hb, stepsN_right _ _ o (by omega), Nat.add_comm]
        congr 2 <;> omega
    · rw [outN_all h a b ((h2 a b (by omega)).2 (by omega)), stepsN_small _ _ (by omega)]
theorem range_one (i n : Nat) (hi : i < n) : outN (hasB i (i + 1)) 0 n = stepsN i n := by
  have := out_one (hasB i (i + 1)) i (by intro a b hab; unfold hasB; split
                                         · omega
                                         · split <;> omega) (by intro a b hab; unfold hasB; split
                                                                · omega
                                                                · split <;> omega) n 0 n (by omega) (by omega) hi
  simpa using this
theorem rises_one (i n : Nat) (hi : i < n) : Rises [(i : Int)] n := by
  refine ⟨?_, ?_⟩
  · intro j hj
    match j, hj with
    | 0, _ => exact ⟨by simp, by simpa using hi⟩
  · intro j l hj hl hjl
    simp at hj hl; omega
theorem inside_singleton (i : Nat) (a b : Nat) : (inside [(i : Int)] a b).length = 0 ↔ ¬ (a ≤ i ∧ i < b) := by
  unfold inside
  by_cases h : a ≤ i ∧ i < b
  · simp [h]
  · rw [List.filter_eq_nil_iff.2 (by intro x hx; simp at hx; subst hx; simp; omega)]
    simp [h]
theorem multi_one (i n : Nat) (hi : i < n) : outN (hasA [(i : Int)]) 0 n = stepsN i n := by
  have h0 : ∀ a b, a < b → (hasA [(i : Int)] a b = 0 ↔ ¬ (a ≤ i ∧ i < b)) := fun a b _ => (hasA_nothing _ n (rises_one i n hi) a b).symm.trans (inside_singleton i a b)
  have := out_one (hasA [(i : Int)]) i h0 (by
    intro a b hab
    have hz := h0 a b hab
    unfold hasA at hz ⊢
    split at hz
    · rename_i hc
      rw [if_pos hc]
      simp at hz; omega
    · rename_i hc
      rw [if_neg hc]
      split at hz
      · simp at hz ⊢; omega
      · simp at hz ⊢; omega) n 0 n (by omega) (by omega) hi
  simpa using this
theorem rising_one (i n : Nat) (hi : i < n) : risingN [(i : Int)] n = 0 := by
  unfold risingN
  rw [if_neg (by simp), if_neg (by simp), risN_next _ _ _ (by simp) (by simp; omega) (by omega), risN_end _ _ _ (by simp)]

/-- A range that covers the part's left end. -/
theorem range_left (lo hi : Nat) (k : Nat) : ∀ a b, b - a ≤ k → a < b → lo ≤ a → a < hi → outN (hasB lo hi) a b ≤ ceilN (b - a) := by
  induction k with
  | zero => intro a b hk hab; omega
  | succ k ih =>
    intro a b hk hab h1 h2
    by_cases c : b ≤ hi
    · rw [outN_all _ _ _ (by unfold hasB; rw [if_neg (by omega), if_pos (by omega)])]; omega
    · have o : 2 ≤ b - a := by omega
      have e1 : hasB lo hi a b = 1 := by unfold hasB; rw [if_neg (by omega), if_neg (by omega)]
      rw [outN_some _ _ _ (by omega) (by omega) o]
      have hs := sp_lt (b - a) o
      have hp := sp_pos (b - a)
      have hc := ceil_sp (b - a) o
      have hr := ceil_rest (b - a) o
      by_cases d : hi ≤ a + sp (b - a)
      · have i1 := ih a (a + sp (b - a)) (by omega) (by omega) h1 h2
        rw [outN_none _ (a + sp (b - a)) b (by unfold hasB; rw [if_pos (by omega)])]
        rw [show a + sp (b - a) - a = sp (b - a) by omega] at i1
        omega
      · have i2 := ih (a + sp (b - a)) b (by omega) (by omega) (by omega) (by omega)
        rw [outN_all _ a (a + sp (b - a)) (by unfold hasB; rw [if_neg (by omega), if_pos (by omega)])]
        rw [show b - (a + sp (b - a)) = (b - a) - sp (b - a) by omega] at i2
        omega
/-- A range that covers the part's right end. -/
theorem range_right (lo hi : Nat) (k : Nat) : ∀ a b, b - a ≤ k → a < b → lo < b → b ≤ hi → outN (hasB lo hi) a b ≤ ceilN (b - a) := by
  induction k with
  | zero => intro a b hk hab; omega
  | succ k ih =>
    intro a b hk hab h1 h2
    by_cases c : lo ≤ a
    · rw [outN_all _ _ _ (by unfold hasB; rw [if_neg (by omega), if_pos (by omega)])]; omega
    · have o : 2 ≤ b - a := by omega
      have e1 : hasB lo hi a b = 1 := by unfold hasB; rw [if_neg (by omega), if_neg (by omega)]
      rw [outN_some _ _ _ (by omega) (by omega) o]
      have hs := sp_lt (b - a) o
      have hp := sp_pos (b - a)
      have hc := ceil_sp (b - a) o
      have hr := ceil_rest (b - a) o
      by_cases d : a + sp (b - a) ≤ lo
      · have i2 := ih (a + sp (b - a)) b (by omega) (by omega) h1 h2
        rw [outN_none _ a (a + sp (b - a)) (by unfold hasB; rw [if_pos (by omega)])]
        rw [show b - (a + sp (b - a)) = (b - a) - sp (b - a) by omega] at i2
        omega
      · have i1 := ih a (a + sp (b - a)) (by omega) (by omega) (by omega) (by omega)
        rw [outN_all _ (a + sp (b - a)) b (by unfold hasB; rw [if_neg (by omega), if_pos (by omega)])]
        rw [show a + sp (b - a) - a = sp (b - a) by omega] at i1
        omega
/-- A range within the part. -/
theorem range_within (lo hi : Nat) (h : lo < hi) (k : Nat) : ∀ a b, b - a ≤ k → a ≤ lo → hi ≤ b → outN (hasB lo hi) a b ≤ 2 * ceilN (b - a) := by
  induction k with
  | zero => intro a b hk h1 h2; omega
  | succ k ih =>
    intro a b hk h1 h2
    by_cases c : lo ≤ a ∧ b ≤ hi
    · rw [outN_all _ _ _ (by unfold hasB; rw [if_neg (by omega), if_pos (by omega)])]; omega
    · have o : 2 ≤ b - a := by omega
      have e1 : hasB lo hi a b = 1 := by unfold hasB; rw [if_neg (by omega), if_neg (by omega)]
      rw [outN_some _ _ _ (by omega) (by omega) o]
      have hs := sp_lt (b - a) o
      have hp := sp_pos (b - a)
      have hc := ceil_sp (b - a) o
      have hr := ceil_rest (b - a) o
      by_cases d : hi ≤ a + sp (b - a)
      · have i1 := ih a (a + sp (b - a)) (by omega) h1 d
        rw [outN_none _ (a + sp (b - a)) b (by unfold hasB; rw [if_pos (by omega)])]
        rw [show a + sp (b - a) - a = sp (b - a) by omega] at i1
        omega
      · by_cases d2 : a + sp (b - a) ≤ lo
        · have i2 := ih (a + sp (b - a)) b (by omega) d2 h2
          rw [outN_none _ a (a + sp (b - a)) (by unfold hasB; rw [if_pos (by omega)])]
          rw [show b - (a + sp (b - a)) = (b - a) - sp (b - a) by omega] at i2
          omega
        · have i1 := range_right lo hi _ a (a + sp (b - a)) (Nat.le_refl _) (by omega) (by omega) (by omega)
          have i2 := range_left lo hi _ (a + sp (b - a)) b (Nat.le_refl _) (by omega) (by omega) (by omega)
          rw [show a + sp (b - a) - a = sp (b - a) by omega] at i1
          rw [show b - (a + sp (b - a)) = (b - a) - sp (b - a) by omega] at i2
          omega

theorem inside_split (xs : List Int) (a m b : Int) (h1 : a ≤ m) (h2 : m ≤ b) : (inside xs a m).length + (inside xs m b).length = (inside xs a b).length := by
  unfold inside
  induction xs with
  | nil => rfl
  | cons x xs ih =>
    by_cases c1 : a ≤ x ∧ x < m
    · rw [List.filter_cons_of_pos (by simpa using c1), List.filter_cons_of_neg (by simp; omega), List.filter_cons_of_pos (by simp; omega), List.length_cons, List.length_cons]
      omega
    · by_cases c2 : m ≤ x ∧ x < b
      · rw [List.filter_cons_of_neg (by simp; omega), List.filter_cons_of_pos (by simpa using c2), List.filter_cons_of_pos (by simp; omega), List.length_cons, List.length_cons]
        omega
      · rw [List.filter_cons_of_neg (by simp; omega), List.filter_cons_of_neg (by simp; omega), List.filter_cons_of_neg (by simp; omega)]
        exact ih
/-- k places: at most k times Ceil. -/
theorem gaps_le (k : Nat) : ∀ (xs : List Int) (a b : Nat), b - a ≤ k → a < b → (inside xs a b).length ≠ 0 → gapsN (inside xs a b) a b ≤ (inside xs a b).length * ceilN (b - a) := by
  induction k with
  | zero => intro xs a b hk hab; omega
  | succ k ih =>
    intro xs a b hk hab z
    by_cases o : 2 ≤ b - a
    · rw [gapsN_some _ _ _ z o]
      have hs := sp_lt (b - a) o
      have hp := sp_pos (b - a)
      have hc := ceil_sp (b - a) o
      have hr := ceil_rest (b - a) o
      have hsplit := inside_split xs a (a + sp (b - a) : Nat) b (by omega) (by omega)
      rw [inside_inside _ _ _ _ _ (by omega) (by omega), inside_inside _ _ _ _ _ (by omega) (by omega)]
      have e1 : a + sp (b - a) - a = sp (b - a) := by omega
      have e2 : b - (a + sp (b - a)) = (b - a) - sp (b - a) := by omega
      have i1 := ih xs a (a + sp (b - a)) (by omega) (by omega)
      have i2 := ih xs (a + sp (b - a)) b (by omega) (by omega)
      rw [e1] at i1
      rw [e2] at i2
      generalize hL : inside xs a (a + sp (b - a) : Nat) = L at *
      generalize hR : inside xs (a + sp (b - a) : Nat) b = R at *
      generalize hX : inside xs a b = X at *
      generalize hC : ceilN (b - a) = C at *
      rw [← hsplit, Nat.add_mul]
      have m1 : L.length * ceilN (sp (b - a)) + L.length = L.length * C := by rw [← hc, Nat.mul_add, Nat.mul_one]
      have m2 : R.length * ceilN (b - a - sp (b - a)) + R.length ≤ R.length * C := by
        rw [← Nat.mul_succ]; exact Nat.mul_le_mul_left _ hr
      by_cases zl : L.length = 0
      · rw [gapsN_none L _ _ zl]
        have zr : R.length ≠ 0 := by omega
        have := i2 zr
        omega
      · by_cases zr : R.length = 0
        · rw [gapsN_none R _ _ zr]
          have := i1 zl
          omega
        · have := i1 zl
          have := i2 zr
          omega
    · rw [gapsN_one _ _ _ z (by omega)]; omega
theorem multi_le (xs : List Int) (n : Int) (h : risingN xs n = 0) : outN (hasA xs) 0 n.toNat ≤ xs.length * ceilN n.toNat := by
  have hx := rises_of xs n h
  have hp := risingN_pos xs n h
  have h1 := gaps_out xs n hx n.toNat 0 n.toNat (by omega) (by omega)
  have e : inside xs ((0 : Nat) : Int) ((n.toNat : Nat) : Int) = xs := by rw [show ((n.toNat : Nat) : Int) = n by omega]; exact inside_all xs n hx
  have hz : xs.length ≠ 0 := by
    intro z; unfold risingN at h; rw [if_pos z] at h; simp at h
  have h2 := gaps_le n.toNat xs 0 n.toNat (by omega) (by omega) (by rw [e]; exact hz)
  rw [e] at h1 h2
  rw [← h1]
  simpa using h2
end Go.Proofs.Ytocjjiacmedjmaa
