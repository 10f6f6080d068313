/- No bytes of a thing begin another's: numbers, rows, proofs. The plain part. -/
import Derived.Test.YtocjjiacmedjmaaNumsOf
set_option maxRecDepth 100000
namespace Go.Proofs.Ytocjjiacmedjmaa
open Go Go.RowKit

theorem byte_eq {a b : Nat} (ha : a < 256) (hb : b < 256) (h : UInt8.ofNat a = UInt8.ofNat b) : a = b := by
  have := congrArg UInt8.toNat h
  rw [byte_ofNat a ha, byte_ofNat b hb] at this
  exact this
theorem putVar_cancel (k : Nat) : ∀ (a b : Nat) (r s : List UInt8), a ≤ k → putVar a ++ r = putVar b ++ s → a = b ∧ r = s := by
  induction k with
  | zero =>
    intro a b r s ha h
    obtain rfl : a = 0 := by omega
    rw [putVar_small 0 (by omega)] at h
    by_cases hb : b ≤ 127
    · rw [putVar_small b hb] at h
      simp only [List.cons_append, List.nil_append, List.cons.injEq] at h
      exact ⟨byte_eq (by omega) (by omega) h.1, h.2⟩
    · rw [putVar_more b hb] at h
      simp only [List.cons_append, List.nil_append, List.cons.injEq] at h
      have := byte_eq (by omega) (by omega) h.1
      omega
  | succ k ih =>
    intro a b r s ha h
    by_cases h1 : a ≤ 127
    · rw [putVar_small a h1] at h
      by_cases hb : b ≤ 127
      · rw [putVar_small b hb] at h
        simp only [List.cons_append, List.nil_append, List.cons.injEq] at h
        exact ⟨byte_eq (by omega) (by omega) h.1, h.2⟩
      · rw [putVar_more b hb] at h
        simp only [List.cons_append, List.nil_append, List.cons.injEq] at h
        have := byte_eq (by omega) (by omega) h.1
        omega
    · rw [putVar_more a h1] at h
      by_cases hb : b ≤ 127
      · rw [putVar_small b hb] at h
        simp only [List.cons_append, List.nil_append, List.cons.injEq] at h
        have := byte_eq (by omega) (by omega) h.1
        omega
      · rw [putVar_more b hb] at h
        simp only [List.cons_append, List.cons.injEq] at h
        have e1 := byte_eq (by omega) (by omega) h.1
        obtain ⟨e2, e3⟩ := ih (a / 128) (b / 128) r s (by omega) h.2
        exact ⟨by omega, e3⟩
theorem flatN_cancel : ∀ (l m : List Int) (r s : List UInt8), l.length = m.length → (∀ x ∈ l, 0 ≤ x) → (∀ x ∈ m, 0 ≤ x) → flatN l ++ r = flatN m ++ s → l = m ∧ r = s := by
  intro l
  induction l with
  | nil =>
    intro m r s hl _ _ h
    obtain rfl : m = [] := List.length_eq_zero_iff.1 hl.symm
    exact ⟨rfl, h⟩
  | cons x l ih =>
    intro m r s hl h1 h2 h
    cases m with
    | nil => simp at hl
    | cons y m =>
      have e : ∀ (z : Int) (t : List Int), flatN (z :: t) = putVar z.toNat ++ flatN t := fun z t => rfl
      rw [e, e, List.append_assoc, List.append_assoc] at h
      obtain ⟨e1, e2⟩ := putVar_cancel _ _ _ _ _ (Nat.le_refl _) h
      have a1 := h1 x (List.mem_cons_self ..)
      have a2 := h2 y (List.mem_cons_self ..)
      obtain ⟨e3, e4⟩ := ih m r s (by simpa using hl) (fun z hz => h1 z (List.mem_cons_of_mem _ hz)) (fun z hz => h2 z (List.mem_cons_of_mem _ hz)) e2
      exact ⟨by rw [show x = y by omega, e3], e4⟩
theorem flatS_cancel (w : Nat) : ∀ (l m : List ByteArray) (r s : List UInt8), l.length = m.length → (∀ x ∈ l, x.size = w) → (∀ x ∈ m, x.size = w) → flatS l ++ r = flatS m ++ s → l = m ∧ r = s := by
  intro l
  induction l with
  | nil =>
    intro m r s hl _ _ h
    obtain rfl : m = [] := List.length_eq_zero_iff.1 hl.symm
    exact ⟨rfl, h⟩
  | cons x l ih =>
    intro m r s hl h1 h2 h
    cases m with
    | nil => simp at hl
    | cons y m =>
      have e : ∀ (z : ByteArray) (t : List ByteArray), flatS (z :: t) = z.data.toList ++ flatS t := fun z t => rfl
      rw [e, e, List.append_assoc, List.append_assoc] at h
      have a1 := h1 x (List.mem_cons_self ..)
      have a2 := h2 y (List.mem_cons_self ..)
      have hlen : x.data.toList.length = y.data.toList.length := by rw [Array.length_toList, Array.length_toList]; exact a1.trans a2.symm
      obtain ⟨e1, e2⟩ := List.append_inj h hlen
      obtain ⟨e3, e4⟩ := ih m r s (by simpa using hl) (fun z hz => h1 z (List.mem_cons_of_mem _ hz)) (fun z hz => h2 z (List.mem_cons_of_mem _ hz)) e2
      have e5 : x = y := by cases x; cases y; simp only at e1; rw [Array.toList_inj.1 e1]
      exact ⟨by rw [e5, e3], e4⟩
theorem gapL_inj : ∀ (xs ys : List Int) (l : Int), gapL l xs = gapL l ys → xs = ys := by
  intro xs
  induction xs with
  | nil =>
    intro ys l h
    cases ys with
    | nil => rfl
    | cons y ys => simp [gapL] at h
  | cons x xs ih =>
    intro ys l h
    cases ys with
    | nil => simp [gapL] at h
    | cons y ys =>
      simp only [gapL, List.cons.injEq] at h
      obtain rfl : x = y := by omega
      rw [ih ys x h.2]
/-- A proof that may be: what fitted makes. -/
structure Fit (k wd a b n : Int) (xs : List Int) (hs : List ByteArray) : Prop where
  k1 : 1 ≤ k
  k4 : k ≤ 4
  w1 : 1 ≤ wd
  w32 : wd ≤ 32
  named : namedN k a b xs.length = true
  cnt : countN k a b n xs = ((hs.length : Int), 0)
  size : ∀ x ∈ hs, (x.size : Int) = wd
theorem numsN_eq {k a b n a' b' n' : Int} {xs ys : List Int} (k1 : 1 ≤ k) (k4 : k ≤ 4) (h1 : namedN k a b xs.length = true) (h2 : namedN k a' b' ys.length = true) (h : numsN k a b n xs = numsN k a' b' n' ys) : a = a' ∧ b = b' ∧ n = n' ∧ xs = ys := by
  unfold namedN at h1 h2
  unfold numsN at h
  by_cases e1 : k = 1 ∨ k = 2
  · rw [if_pos e1] at h1 h2
    rw [if_pos e1, if_pos e1] at h
    simp only [decide_eq_true_eq] at h1 h2
    simp only [List.cons.injEq, and_true] at h
    exact ⟨h.1, h1.1.trans h2.1.symm, h.2, by rw [List.length_eq_zero_iff.1 h1.2, List.length_eq_zero_iff.1 h2.2]⟩
  · rw [if_neg e1] at h1 h2
    rw [if_neg e1, if_neg e1] at h
    by_cases e2 : k = 3
    · rw [if_pos e2] at h1 h2
      rw [if_pos e2, if_pos e2] at h
      simp only [decide_eq_true_eq] at h1 h2
      simp only [List.cons.injEq, and_true] at h
      exact ⟨h.1, h.2.1, h.2.2, by rw [List.length_eq_zero_iff.1 h1, List.length_eq_zero_iff.1 h2]⟩
    · rw [if_neg e2] at h1 h2
      rw [if_neg e2, if_neg e2] at h
      simp only [decide_eq_true_eq] at h1 h2
      simp only [List.cons_append, List.cons.injEq] at h
      have hl : xs.length = ys.length := by omega
      obtain ⟨e3, e4⟩ := List.append_inj h.2 (by rw [gapL_length, gapL_length, hl])
      simp only [List.cons.injEq, and_true] at e4
      exact ⟨h1.1.trans h2.1.symm, h1.2.trans h2.2.symm, e4, gapL_inj _ _ _ e3⟩
def proofBy (k wd a b n : Int) (xs : List Int) (hs : List ByteArray) : List UInt8 := [80, UInt8.ofNat wd.toNat] ++ putVar k.toNat ++ flatN (numsN k a b n xs) ++ flatS hs
/-- Where two proofs' bytes begin alike, the proofs are the same. -/
theorem proof_cancel {k wd a b n k' wd' a' b' n' : Int} {xs xs' : List Int} {hs hs' : List ByteArray} (x : Fit k wd a b n xs hs) (y : Fit k' wd' a' b' n' xs' hs') (r s : List UInt8)
    (h : proofBy k wd a b n xs hs ++ r = proofBy k' wd' a' b' n' xs' hs' ++ s) : (k = k' ∧ wd = wd' ∧ a = a' ∧ b = b' ∧ n = n' ∧ xs = xs' ∧ hs = hs') ∧ r = s := by
  unfold proofBy at h
  simp only [List.append_assoc, List.cons_append, List.nil_append, List.cons.injEq, true_and] at h
  have hw := byte_eq (by have := x.w32; have := x.w1; omega) (by have := y.w32; have := y.w1; omega) h.1
  have hx := taken_of k a b n xs (by rw [x.cnt])
  have hy := taken_of k' a' b' n' xs' (by rw [y.cnt])
  have x1 := x.k1; have x2 := x.w1; have y1 := y.k1; have y2 := y.w1
  obtain ⟨e1, e2⟩ := putVar_cancel _ _ _ _ _ (Nat.le_refl _) h.2
  obtain rfl : k = k' := by omega
  obtain rfl : wd = wd' := by omega
  have hlen : (numsN k a b n xs).length = (numsN k a' b' n' xs').length := by
    by_cases e3 : k = 4
    · subst e3
      unfold numsN at e2 ⊢
      rw [if_neg (by omega), if_neg (by omega), if_neg (by omega), if_neg (by omega)] at e2 ⊢
      have e : ∀ (z : Int) (t u : List Int), flatN ((z :: t) ++ u) = putVar z.toNat ++ flatN (t ++ u) := fun z t u => rfl
      rw [e, e, List.append_assoc, List.append_assoc] at e2
      obtain ⟨e4, _⟩ := putVar_cancel _ _ _ _ _ (Nat.le_refl _) e2
      simp only [List.length_append, List.length_cons, gapL_length, List.length_nil]
      omega
    · unfold numsN
      split
      · rfl
      · split
        · rfl
        · have := x.k4; omega
  obtain ⟨e3, e4⟩ := flatN_cancel _ _ _ _ hlen (fun z hz => (hx.small z hz).1) (fun z hz => (hy.small z hz).1) e2
  obtain ⟨rfl, rfl, rfl, rfl⟩ := numsN_eq x1 x.k4 x.named y.named e3
  have hc : (hs.length : Int) = hs'.length := congrArg Prod.fst (x.cnt.symm.trans y.cnt)
  obtain ⟨e5, e6⟩ := flatS_cancel wd.toNat hs hs' r s (by omega) (fun z hz => by have := x.size z hz; omega) (fun z hz => by have := y.size z hz; omega) e4
  exact ⟨⟨rfl, rfl, rfl, rfl, rfl, rfl, e5⟩, e6⟩
/-- a is how b begins. -/
def beginsB (a b : ByteArray) : Bool := if a.size ≤ b.size then decide (b.extract 0 a.size = a) else false
theorem begins_iff (a b : ByteArray) : beginsB a b = true ↔ ∃ r, b.data.toList = a.data.toList ++ r := by
  unfold beginsB
  have hsz : ∀ (c : ByteArray), c.data.toList.length = c.size := fun c => by rw [Array.length_toList]; rfl
  split
  · rename_i h
    simp only [decide_eq_true_eq]
    constructor
    · intro e
      refine ⟨b.data.toList.drop a.size, ?_⟩
      have e2 : a.data.toList = b.data.toList.take a.size := by
        rw [← e]
        simp [ByteArray.data_extract]
      rw [e2, List.take_append_drop]
    · rintro ⟨r, e⟩
      apply ByteArray.ext
      apply Array.toList_inj.1
      have h3 := hsz a
      have h4 : (b.extract 0 a.size).data.toList = b.data.toList.take a.size := by simp [ByteArray.data_extract]
      rw [h4, e, ← h3, List.take_left]
  · rename_i h
    constructor
    · intro e; simp at e
    · rintro ⟨r, e⟩
      have := congrArg List.length e
      rw [List.length_append, hsz, hsz] at this
      omega
end Go.Proofs.Ytocjjiacmedjmaa
