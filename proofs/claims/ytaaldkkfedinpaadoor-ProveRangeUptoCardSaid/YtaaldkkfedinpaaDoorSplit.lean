/- Plain arithmetic, no program in sight: the greatest power of two below n, and how many parts a proof has. -/
namespace Go.Proofs.YtaaldkkfedinpaaDoor

/-- How many binary digits n has. -/
def bits (n : Nat) : Nat := if h : n = 0 then 0 else bits (n / 2) + 1
theorem bits_zero : bits 0 = 0 := by simp [bits]
theorem bits_step (n : Nat) (h : 0 < n) : bits n = bits (n / 2) + 1 := by rw [bits]; simp; omega
theorem bits_le (n k : Nat) (h : n < 2 ^ k) : bits n ≤ k := by
  induction k generalizing n with
  | zero => have : n = 0 := by simpa using h
            subst this; simp [bits_zero]
  | succ k ih =>
    by_cases h0 : n = 0
    · subst h0; simp [bits_zero]
    · rw [bits_step n (by omega)]
      have := ih (n / 2) (by rw [Nat.pow_succ] at h; omega)
      omega
theorem lt_bits (n : Nat) : n < 2 ^ bits n := by
  induction n using Nat.strongRecOn with
  | ind n ih =>
    by_cases h0 : n = 0
    · subst h0; simp [bits_zero]
    · rw [bits_step n (by omega), Nat.pow_succ]
      have := ih (n / 2) (by omega)
      omega
theorem bits_ge (n : Nat) (h : 0 < n) : 2 ^ (bits n - 1) ≤ n := by
  induction n using Nat.strongRecOn with
  | ind n ih =>
    rw [bits_step n h]
    by_cases h1 : n / 2 = 0
    · rw [h1, bits_zero]; simp; omega
    · have := ih (n / 2) (by omega) (by omega)
      have hp : 0 < bits (n / 2) := by rw [bits_step (n/2) (by omega)]; omega
      have e : bits (n / 2) + 1 - 1 = (bits (n / 2) - 1) + 1 := by omega
      rw [e, Nat.pow_succ]; omega
theorem bits_pos (n : Nat) (h : 0 < n) : 0 < bits n := by rw [bits_step n h]; omega
theorem bits_unique (n k : Nat) (h1 : 2 ^ k ≤ n) (h2 : n < 2 ^ (k + 1)) : bits n = k + 1 := by
  have a := bits_le n (k + 1) h2
  have b := lt_bits n
  rcases Nat.lt_or_ge (bits n) (k + 1) with h | h
  · have : 2 ^ bits n ≤ 2 ^ k := Nat.pow_le_pow_right (by omega) (by omega)
    omega
  · omega

/-- The greatest power of two below n; 1 for n below 2. -/
def sp (n : Nat) : Nat := if n ≤ 1 then 1 else 2 ^ (bits (n - 1) - 1)
theorem sp_small (n : Nat) (h : n ≤ 1) : sp n = 1 := by simp [sp, h]
theorem sp_pos (n : Nat) : 0 < sp n := by
  unfold sp; split
  · omega
  · exact Nat.pow_pos (by omega)
theorem sp_lt (n : Nat) (h : 2 ≤ n) : sp n < n := by
  unfold sp; rw [if_neg (by omega)]
  have := bits_ge (n - 1) (by omega)
  omega
theorem sp_two (n : Nat) : n ≤ 2 * sp n ∨ n = 0 := by
  unfold sp; split
  · omega
  · have := lt_bits (n - 1)
    have hp := bits_pos (n - 1) (by omega)
    have e : bits (n - 1) = (bits (n - 1) - 1) + 1 := by omega
    rw [e, Nat.pow_succ] at this
    left; omega
theorem sp_le (n : Nat) (h : 1 ≤ n) : sp n ≤ n := by
  rcases Nat.lt_or_ge n 2 with h2 | h2
  · rw [sp_small n (by omega)]; omega
  · exact Nat.le_of_lt (sp_lt n h2)
theorem sp_unique (n k : Nat) (h1 : 2 ^ k < n) (h2 : n ≤ 2 * 2 ^ k) : sp n = 2 ^ k := by
  have hp : 0 < 2 ^ k := Nat.pow_pos (by omega)
  unfold sp; rw [if_neg (by omega), bits_unique (n - 1) k (by omega) (by rw [Nat.pow_succ]; omega)]
  simp
theorem sp_pow (n : Nat) : ∃ k, sp n = 2 ^ k := by
  unfold sp; split
  · exact ⟨0, rfl⟩
  · exact ⟨_, rfl⟩

/-- How many halves are not gone into on the way to leaf i of n. -/
def stepsN (i n : Nat) : Nat :=
  if h : n ≤ 1 then 0 else if i < sp n then stepsN i (sp n) + 1 else stepsN (i - sp n) (n - sp n) + 1
termination_by n
decreasing_by
  · exact sp_lt n (by omega)
  · have := sp_pos n; omega
theorem stepsN_small (i n : Nat) (h : n ≤ 1) : stepsN i n = 0 := by rw [stepsN]; simp [h]
theorem stepsN_left (i n : Nat) (h : 2 ≤ n) (hi : i < sp n) : stepsN i n = stepsN i (sp n) + 1 := by rw [stepsN, dif_neg (by omega), if_pos hi]
theorem stepsN_right (i n : Nat) (h : 2 ≤ n) (hi : ¬ i < sp n) : stepsN i n = stepsN (i - sp n) (n - sp n) + 1 := by rw [stepsN, dif_neg (by omega), if_neg hi]

/-- Ceil: the least k with 2 to the k not below n. -/
def ceilN (n : Nat) : Nat := if n ≤ 1 then 0 else bits (n - 1)
theorem ceil_small (n : Nat) (h : n ≤ 1) : ceilN n = 0 := by simp [ceilN, h]
theorem le_ceil (n : Nat) : n ≤ 2 ^ ceilN n := by
  unfold ceilN; split
  · simp; omega
  · have := lt_bits (n - 1); omega
theorem ceil_le (n k : Nat) (h : n ≤ 2 ^ k) : ceilN n ≤ k := by
  unfold ceilN; split
  · omega
  · exact bits_le _ _ (by have : 0 < 2 ^ k := Nat.pow_pos (by omega)
                          omega)
theorem ceil_sp (n : Nat) (h : 2 ≤ n) : ceilN (sp n) + 1 = ceilN n := by
  have hb := bits_pos (n - 1) (by omega)
  have e : sp n = 2 ^ (bits (n - 1) - 1) := by unfold sp; rw [if_neg (by omega)]
  have e2 : ceilN n = bits (n - 1) := by unfold ceilN; rw [if_neg (by omega)]
  have h1 : ceilN (2 ^ (bits (n - 1) - 1)) ≤ bits (n - 1) - 1 := ceil_le _ _ (Nat.le_refl _)
  have h2 := le_ceil (2 ^ (bits (n - 1) - 1))
  have h3 : bits (n - 1) - 1 ≤ ceilN (2 ^ (bits (n - 1) - 1)) := (Nat.pow_le_pow_iff_right (by omega)).1 h2
  rw [e, e2]; omega
theorem ceil_mono (m n : Nat) (h : m ≤ n) : ceilN m ≤ ceilN n := ceil_le _ _ (Nat.le_trans h (le_ceil n))
theorem ceil_rest (n : Nat) (h : 2 ≤ n) : ceilN (n - sp n) + 1 ≤ ceilN n := by
  have h1 := sp_two n
  have h2 := ceil_mono (n - sp n) (sp n) (by omega)
  have := ceil_sp n h
  omega
theorem stepsN_le (i n : Nat) : stepsN i n ≤ ceilN n := by
  induction n using Nat.strongRecOn generalizing i with
  | ind n ih =>
    by_cases h : n ≤ 1
    · rw [stepsN_small i n h]; omega
    · have hs := sp_lt n (by omega)
      have hp := sp_pos n
      by_cases hi : i < sp n
      · rw [stepsN_left i n (by omega) hi]
        have := ih (sp n) hs i
        have := ceil_sp n (by omega)
        omega
      · rw [stepsN_right i n (by omega) hi]
        have := ih (n - sp n) (by omega) (i - sp n)
        have := ceil_rest n (by omega)
        omega

/-- How many hashes prove that the first m leaves of n are old. -/
def oldN (m n : Nat) (whole : Bool) : Nat :=
  if m = n then (if whole then 0 else 1) else if h : n ≤ 1 then 0 else
  if m ≤ sp n then oldN m (sp n) whole + 1 else oldN (m - sp n) (n - sp n) false + 1
termination_by n
decreasing_by
  · exact sp_lt n (by omega)
  · have := sp_pos n; omega
theorem oldN_eq (n : Nat) (whole : Bool) : oldN n n whole = if whole then 0 else 1 := by rw [oldN]; simp
theorem oldN_left (m n : Nat) (whole : Bool) (h : m < n) (h2 : 2 ≤ n) (hi : m ≤ sp n) : oldN m n whole = oldN m (sp n) whole + 1 := by
  rw [oldN, if_neg (by omega), dif_neg (by omega), if_pos hi]
theorem oldN_right (m n : Nat) (whole : Bool) (h : m < n) (h2 : 2 ≤ n) (hi : ¬ m ≤ sp n) : oldN m n whole = oldN (m - sp n) (n - sp n) false + 1 := by
  rw [oldN, if_neg (by omega), dif_neg (by omega), if_neg hi]
theorem oldN_le (m n : Nat) (whole : Bool) (h0 : 1 ≤ m) (h : m ≤ n) : oldN m n whole ≤ ceilN n + 1 := by
  induction n using Nat.strongRecOn generalizing m whole with
  | ind n ih =>
    by_cases e : m = n
    · subst e; rw [oldN_eq]; split <;> omega
    · have hs := sp_lt n (by omega)
      have hp := sp_pos n
      by_cases hi : m ≤ sp n
      · rw [oldN_left m n whole (by omega) (by omega) hi]
        have := ih (sp n) hs m whole h0 hi
        have := ceil_sp n (by omega)
        omega
      · rw [oldN_right m n whole (by omega) (by omega) hi]
        have := ih (n - sp n) (by omega) (m - sp n) false (by omega) (by omega)
        have := ceil_rest n (by omega)
        omega

/-- How many parts of [a, b) have nothing that is wanted; h tells of a part: 0 nothing, 1 some, 2 all. -/
def outN (h : Nat → Nat → Nat) (a b : Nat) : Nat :=
  if h a b = 0 then 1 else if h a b = 2 then 0 else if _hn : b - a ≤ 1 then 0 else
  outN h a (a + sp (b - a)) + outN h (a + sp (b - a)) b
termination_by b - a
decreasing_by
  · have := sp_lt (b - a) (by omega); omega
  · have := sp_pos (b - a); have := sp_lt (b - a) (by omega); omega
theorem outN_none (h : Nat → Nat → Nat) (a b : Nat) (e : h a b = 0) : outN h a b = 1 := by rw [outN, if_pos e]
theorem outN_all (h : Nat → Nat → Nat) (a b : Nat) (e : h a b = 2) : outN h a b = 0 := by rw [outN, if_neg (by omega), if_pos e]
theorem outN_some (h : Nat → Nat → Nat) (a b : Nat) (e : h a b ≠ 0) (e2 : h a b ≠ 2) (hn : 2 ≤ b - a) :
    outN h a b = outN h a (a + sp (b - a)) + outN h (a + sp (b - a)) b := by rw [outN, if_neg e, if_neg e2, dif_neg (by omega)]
theorem outN_le (h : Nat → Nat → Nat) (k : Nat) : ∀ (a b : Nat), b - a ≤ k → a < b → outN h a b ≤ b - a := by
  induction k with
  | zero => intro a b hk hab; omega
  | succ k ih =>
    intro a b hk hab
    by_cases e : h a b = 0
    · rw [outN_none h a b e]; omega
    · by_cases e2 : h a b = 2
      · rw [outN_all h a b e2]; omega
      · by_cases hn : 2 ≤ b - a
        · rw [outN_some h a b e e2 hn]
          have hs := sp_lt (b - a) hn
          have hp := sp_pos (b - a)
          have h1 := ih a (a + sp (b - a)) (by omega) (by omega)
          have h2 := ih (a + sp (b - a)) b (by omega) (by omega)
          omega
        · rw [outN, if_neg e, if_neg e2, dif_pos (by omega)]; omega
end Go.Proofs.YtaaldkkfedinpaaDoor
