/- The plain law: the program's count is the reference's. No program in sight. -/
import Derived.Test.YtocjjiacmedjmaaRefCounts
namespace Go.Proofs.Ytocjjiacmedjmaa

/-- Rising places of a tree of n leaves. -/
structure Rises (xs : List Int) (n : Int) : Prop where
  at_ : ∀ i (h : i < xs.length), 0 ≤ xs[i] ∧ xs[i] < n
  up : ∀ i j (hi : i < xs.length) (hj : j < xs.length), i < j → xs[i] < xs[j]
theorem risN_facts (xs : List Int) (n : Int) (k : Nat) : ∀ i, xs.length - i ≤ k → risN xs n i = 0 →
    (∀ j (h : j < xs.length), i ≤ j → 0 ≤ xs[j] ∧ xs[j] < n) ∧ (∀ j (h : j < xs.length), i ≤ j → 0 < j → xs[j - 1]'(by omega) < xs[j]) := by
  induction k with
  | zero => intro i hk h; exact ⟨fun j hj hi => by omega, fun j hj hi => by omega⟩
  | succ k ih =>
    intro i hk h
    by_cases hi : i < xs.length
    · rw [risN, dif_pos hi] at h
      split at h
      · simp at h
      · rename_i h1
        split at h
        · simp at h
        · rename_i h2
          rw [getD_of xs i hi] at h1 h2
          obtain ⟨a, b⟩ := ih (i + 1) (by omega) h
          constructor
          · intro j hj hij
            rcases Nat.eq_or_lt_of_le hij with rfl | hlt
            · omega
            · exact a j hj hlt
          · intro j hj hij h0
            rcases Nat.eq_or_lt_of_le hij with rfl | hlt
            · rw [getD_of xs (i - 1) (by omega)] at h2; omega
            · exact b j hj hlt h0
    · exact ⟨fun j hj hi => by omega, fun j hj hi => by omega⟩
theorem rises_of (xs : List Int) (n : Int) (h : risingN xs n = 0) : Rises xs n := by
  unfold risingN at h
  split at h
  · simp at h
  · split at h
    · simp at h
    · obtain ⟨a, b⟩ := risN_facts xs n xs.length 0 (by omega) h
      refine ⟨fun i hi => a i hi (by omega), ?_⟩
      intro i j hi hj hij
      induction j with
      | zero => omega
      | succ j ihj =>
        have hb := b (j + 1) hj (by omega) (by omega)
        simp only [Nat.add_sub_cancel] at hb
        rcases Nat.eq_or_lt_of_le (Nat.le_of_lt_succ hij) with rfl | hlt
        · exact hb
        · have := ihj (by omega) hlt; omega

/-- Where a binary search over rising numbers ends. -/
theorem bsN_sorted (xs : List Int) (n t : Int) (hx : Rises xs n) (k : Nat) : ∀ i j, j - i ≤ k → i ≤ j → j ≤ xs.length →
    (∀ p (h : p < xs.length), p < i → xs[p] < t) → (∀ p (h : p < xs.length), j ≤ p → t ≤ xs[p]) →
    (∀ p (h : p < xs.length), p < bsN xs t i j → xs[p] < t) ∧ (∀ p (h : p < xs.length), bsN xs t i j ≤ p → t ≤ xs[p]) := by
  induction k with
  | zero =>
    intro i j hk hij hj h1 h2
    rw [bsN_end _ _ _ _ (by omega)]
    exact ⟨h1, fun p hp hip => h2 p hp (by omega)⟩
  | succ k ih =>
    intro i j hk hij hj h1 h2
    by_cases hlt : i < j
    · have hm : (i + j) / 2 < xs.length := by omega
      have hg := getD_of xs _ hm
      by_cases ht : xs.getD ((i + j) / 2) 0 < t
      · rw [bsN_up _ _ _ _ hlt ht]
        refine ih _ _ (by omega) (by omega) hj ?_ h2
        intro p hp hpi
        rw [hg] at ht
        rcases Nat.lt_or_ge p ((i + j) / 2) with h | h
        · have := hx.up p _ hp hm h; omega
        · obtain rfl : p = (i + j) / 2 := by omega
          exact ht
      · rw [bsN_down _ _ _ _ hlt ht]
        refine ih _ _ (by omega) (by omega) (by omega) h1 ?_
        intro p hp hpi
        rw [hg] at ht
        rcases Nat.eq_or_lt_of_le hpi with rfl | h
        · omega
        · have := hx.up _ p hm hp h; omega
    · rw [bsN_end _ _ _ _ hlt]
      exact ⟨h1, fun p hp hip => h2 p hp (by omega)⟩

theorem inside_empty (xs : List Int) (a b : Int) (h : ∀ i (hi : i < xs.length), ¬ (a ≤ xs[i] ∧ xs[i] < b)) : inside xs a b = [] := by
  unfold inside
  rw [List.filter_eq_nil_iff]
  intro x hx
  obtain ⟨i, hi, rfl⟩ := List.getElem_of_mem hx
  simpa using h i hi
theorem inside_some (xs : List Int) (a b : Int) (i : Nat) (hi : i < xs.length) (h : a ≤ xs[i] ∧ xs[i] < b) : (inside xs a b).length ≠ 0 := by
  have : xs[i] ∈ inside xs a b := by
    unfold inside
    rw [List.mem_filter]
    exact ⟨List.getElem_mem hi, by simpa using h⟩
  exact Nat.ne_of_gt (List.length_pos_of_mem this)
theorem inside_all (xs : List Int) (n : Int) (h : Rises xs n) : inside xs 0 n = xs := by
  unfold inside
  rw [List.filter_eq_self]
  intro x hx
  obtain ⟨i, hi, rfl⟩ := List.getElem_of_mem hx
  simpa using h.at_ i hi

theorem hasA_nothing (xs : List Int) (n : Int) (hx : Rises xs n) (a b : Nat) : (inside xs a b).length = 0 ↔ hasA xs a b = 0 := by
  obtain ⟨h1, h2⟩ := bsN_sorted xs n a hx xs.length 0 xs.length (by omega) (by omega) (by omega) (fun p hp hp0 => by omega) (fun p hp hp0 => by omega)
  have hle := (bsN_le xs a xs.length 0 xs.length (by omega) (by omega)).2
  obtain ⟨r, hr⟩ : ∃ r, r = bsN xs a 0 xs.length := ⟨_, rfl⟩
  rw [← hr] at h1 h2 hle
  have hd : hasA xs a b = if r = xs.length ∨ (b : Int) ≤ xs.getD r 0 then 0 else if b - a = 1 then 2 else 1 := by unfold hasA; rw [hr]
  by_cases hq : r < xs.length
  · rw [getD_of xs r hq] at hd
    by_cases hb : (b : Int) ≤ xs[r]
    · rw [if_pos (Or.inr hb)] at hd
      refine ⟨fun _ => hd, fun _ => ?_⟩
      rw [inside_empty]
      · rfl
      · intro i hi hc
        rcases Nat.lt_or_ge i r with h | h
        · have := h1 i hi h; omega
        · rcases Nat.eq_or_lt_of_le h with rfl | h
          · omega
          · have := hx.up r i hq hi h; omega
    · rw [if_neg (by omega)] at hd
      have := inside_some xs a b r hq ⟨h2 r hq (by omega), by omega⟩
      refine ⟨fun h => absurd h this, fun h => ?_⟩
      rw [hd] at h; split at h <;> omega
  · rw [if_pos (by omega)] at hd
    refine ⟨fun _ => hd, fun _ => ?_⟩
    rw [inside_empty]
    · rfl
    · intro i hi hc
      have := h1 i hi (by omega); omega

theorem gaps_out (xs : List Int) (n : Int) (hx : Rises xs n) (k : Nat) : ∀ a b : Nat, b - a ≤ k → a < b → gapsN (inside xs a b) a b = outN (hasA xs) a b := by
  induction k with
  | zero => intro a b hk hab; omega
  | succ k ih =>
    intro a b hk hab
    by_cases z : (inside xs a b).length = 0
    · rw [gapsN_none _ _ _ z, outN_none _ _ _ ((hasA_nothing xs n hx a b).1 z)]
    · have hne : hasA xs a b ≠ 0 := fun h => z ((hasA_nothing xs n hx a b).2 h)
      by_cases o : 2 ≤ b - a
      · have h1 : hasA xs a b ≠ 2 := by
          unfold hasA at hne ⊢
          split
          · omega
          · rw [if_neg (by omega)]; omega
        rw [gapsN_some _ _ _ z o, outN_some _ _ _ hne h1 o]
        have hs := sp_lt (b - a) o
        have hp := sp_pos (b - a)
        rw [inside_inside _ _ _ _ _ (by omega) (by omega), inside_inside _ _ _ _ _ (by omega) (by omega), ih _ _ (by omega) (by omega), ih _ _ (by omega) (by omega)]
      · have h2 : hasA xs a b = 2 := by
          unfold hasA at hne ⊢
          split
          · rename_i h; rw [if_pos h] at hne; omega
          · rw [if_pos (by omega)]
        rw [gapsN_one _ _ _ z (by omega), outN_all _ _ _ h2]

/-- The program's count is the reference's. -/
theorem count_same (kind a b n : Int) (xs : List Int) : countN kind a b n xs = refCountN kind a b n xs := by
  unfold countN refCountN shapeN
  by_cases hk : kind < 1 ∨ 4 < kind
  · rw [if_pos hk, if_pos hk]
  rw [if_neg hk, if_neg hk]
  by_cases hn : n < 0 ∨ 4611686018427387904 < n
  · rw [if_pos hn, if_pos hn]
  rw [if_neg hn, if_neg hn]
  by_cases k1 : kind = 1
  · simp only [if_pos k1]
    by_cases c : a < 0 ∨ n ≤ a
    · simp [if_pos c]
    · simp [if_neg c]
  simp only [if_neg k1]
  by_cases k2 : kind = 2
  · simp only [if_pos k2]
    by_cases c : a < 0 ∨ n < a
    · simp [if_pos c]
    · simp only [if_neg c, if_true]
      by_cases c0 : a = 0
      · rw [if_pos (Or.inl c0), if_pos c0]
      · rw [if_neg c0]
        by_cases cn : a = n
        · rw [if_pos (Or.inr cn), cn, oldN_eq]; rfl
        · rw [if_neg (by omega)]
  simp only [if_neg k2]
  by_cases k3 : kind = 3
  · simp only [if_pos k3]
    by_cases c : a < 0 ∨ b ≤ a ∨ n < b
    · simp [if_pos c]
    · simp [if_neg c]
  simp only [if_neg k3]
  by_cases z : risingN xs n = 0
  · simp only [if_pos z]
    have hx := rises_of xs n z
    have hp := risingN_pos xs n z
    have h := gaps_out xs n hx n.toNat 0 n.toNat (by omega) (by omega)
    rw [show ((n.toNat : Nat) : Int) = n by omega, show ((0 : Nat) : Int) = 0 from rfl, inside_all xs n hx] at h
    rw [h]
  · simp only [if_neg z]
end Go.Proofs.Ytocjjiacmedjmaa
