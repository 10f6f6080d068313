/- What fitted makes: the plain part, and the box that it fills. -/
import Derived.Test.YtocjjiacmedjmaaFitted
import Derived.Test.YtocjjiacmedjmaaUnProof
set_option maxRecDepth 100000
namespace Go.Proofs.Ytocjjiacmedjmaa
open Go Go.RowKit

/-- Places that rise below n. -/
structure Asc (n : Int) (xs : List Int) : Prop where
  at_ : ∀ j, j < xs.length → 0 ≤ xs.getD j 0 ∧ xs.getD j 0 < n
  up : ∀ j, 0 < j → j < xs.length → xs.getD (j - 1) 0 < xs.getD j 0
theorem Asc.nil (n : Int) : Asc n [] := ⟨fun j h => by simp at h, fun j _ h => by simp at h⟩
theorem getD_front (xs : List Int) (x : Int) (j : Nat) (h : j < xs.length) : (xs ++ [x]).getD j 0 = xs.getD j 0 := by
  rw [getD_of _ j (by simp; omega), getD_of _ j h, List.getElem_append_left h]
theorem getD_last (xs : List Int) (x : Int) : (xs ++ [x]).getD xs.length 0 = x := by
  rw [getD_of _ _ (by simp), List.getElem_concat_length]; rfl
theorem Asc.push {n : Int} {xs : List Int} (h : Asc n xs) (x : Int) (h0 : 0 ≤ x) (h1 : x < n) (h2 : 0 < xs.length → xs.getD (xs.length - 1) 0 < x) : Asc n (xs ++ [x]) := by
  refine ⟨fun j hj => ?_, fun j hj hl => ?_⟩
  · rw [List.length_append, List.length_singleton] at hj
    by_cases e : j < xs.length
    · rw [getD_front _ _ _ e]; exact h.at_ j e
    · obtain rfl : j = xs.length := by omega
      rw [getD_last]; exact ⟨h0, h1⟩
  · rw [List.length_append, List.length_singleton] at hl
    rw [getD_front _ _ _ (show j - 1 < xs.length by omega)]
    by_cases e : j < xs.length
    · rw [getD_front _ _ _ e]; exact h.up j hj e
    · obtain rfl : j = xs.length := by omega
      rw [getD_last]; exact h2 hj
theorem risN_asc {n : Int} {xs : List Int} (h : Asc n xs) (k : Nat) : ∀ i, xs.length - i ≤ k → risN xs n i = 0 := by
  induction k with
  | zero => intro i hi; exact risN_end _ _ _ (by omega)
  | succ k ih =>
    intro i hi
    by_cases hl : i < xs.length
    · have h1 := h.at_ i hl
      have h2 := fun h0 => h.up i h0 hl
      rw [risN, dif_pos hl, if_neg (by omega), if_neg (by intro e; have := h2 e.1; omega)]
      exact ih (i + 1) (by omega)
    · exact risN_end _ _ _ hl
theorem rising_asc {n : Int} {xs : List Int} (h : Asc n xs) (h0 : xs ≠ []) (hm : xs.length ≤ 1024) : risingN xs n = 0 := by
  unfold risingN
  rw [if_neg (fun e => h0 (List.length_eq_zero_iff.1 e)), if_neg (by omega)]
  exact risN_asc h _ 0 (Nat.le_refl _)
/-- The count of a proof whose numbers go. -/
theorem cnt_ok {k a b n : Int} {xs : List Int} (k1 : 1 ≤ k) (k4 : k ≤ 4) (n1 : 1 ≤ n) (n2 : n ≤ 4611686018427387904) (h1 : k ≤ 2 → 0 ≤ a ∧ a < n) (h3 : k = 3 → 0 ≤ a ∧ a < b ∧ b ≤ n) (h4 : k = 4 → risingN xs n = 0) :
    ∃ c : Nat, countN k a b n xs = ((c : Int), 0) ∧ c ≤ 65536 := by
  have e0 : (countN k a b n xs).2 = 0 := by
    unfold countN
    rw [if_neg (by omega), if_neg (by omega)]
    by_cases e1 : k = 1
    · have := h1 (by omega)
      rw [if_pos e1, if_neg (by omega)]
    · rw [if_neg e1]
      by_cases e2 : k = 2
      · have := h1 (by omega)
        rw [if_pos e2, if_neg (by omega)]
        split <;> rfl
      · rw [if_neg e2]
        by_cases e3 : k = 3
        · have := h3 e3
          rw [if_pos e3, if_neg (by omega)]
        · rw [if_neg e3, if_pos (h4 (by omega))]
  have hb := count_le k a b n xs (c := (countN k a b n xs).1) (by rw [← e0])
  have hn : 0 ≤ (countN k a b n xs).1 := by
    unfold countN
    split
    · simp
    · split
      · simp
      · split
        · split
          · simp
          · simp
        · split
          · split
            · simp
            · split
              · simp
              · simp
          · split
            · split
              · simp
              · simp
            · split
              · simp
              · simp
  refine ⟨(countN k a b n xs).1.toNat, Prod.ext ?_ e0, by omega⟩
  show (countN k a b n xs).1 = _
  omega
/-- The box that fitted fills; the places that it has so far. -/
structure FS (h : Nat) (W3 w : World) (K WD A B N : Int) (v : Value) (ys : List Int) : Prop where
  gr : Below (h + 2) W3 w
  c0 : w.cell? ⟨h + 2, 0, none⟩ = some (.int .i64 K)
  c1 : w.cell? ⟨h + 2, 1, none⟩ = some (.int .i64 WD)
  c2 : w.cell? ⟨h + 2, 2, none⟩ = some (.int .i64 A)
  c3 : w.cell? ⟨h + 2, 3, none⟩ = some (.int .i64 B)
  c4 : w.cell? ⟨h + 2, 4, none⟩ = some (.int .i64 N)
  c5 : w.cell? ⟨h + 2, 5, none⟩ = some v
  c6 : w.cell? ⟨h + 2, 6, none⟩ = some (.slice none 0 0)
  fz : ∀ i, w.frozen? ⟨h + 2, i, none⟩ = false
  row : w.ownsRow (h + 3) 3 1 v (ints ys).length (ints ys)
section
variable {h : Nat} {W3 w w' : World} {K WD A B N : Int} {v : Value} {ys : List Int}
theorem FS.lt (F : FS h W3 w K WD A B N v ys) : h + 2 < w.heap.size := World.block_lt_of_cell? _ _ F.c0
theorem FS.below (F : FS h W3 w K WD A B N v ys) (hb : Below w.heap.size w w') : FS h W3 w' K WD A B N v ys := by
  have hl := F.lt
  have hc : ∀ i, w'.cell? ⟨h + 2, i, none⟩ = w.cell? ⟨h + 2, i, none⟩ := fun i => hb.cell (p := ⟨h + 2, i, none⟩) hl
  exact ⟨F.gr.trans (hb.mono (Nat.le_of_lt hl)), by rw [hc]; exact F.c0, by rw [hc]; exact F.c1, by rw [hc]; exact F.c2, by rw [hc]; exact F.c3, by rw [hc]; exact F.c4, by rw [hc]; exact F.c5, by rw [hc]; exact F.c6,
    fun i => (hb.frozen (p := ⟨h + 2, i, none⟩) hl).trans (F.fz i), F.row.kept (grownBy_of_below hb none) (by cases v.ownBlock <;> simp)⟩
theorem FS.row_set (F : FS h W3 w K WD A B N v ys) (i : Nat) (u : Value) : (w.setCell ⟨h + 2, i, none⟩ u).ownsRow (h + 3) 3 1 v (ints ys).length (ints ys) :=
  F.row.kept (grownBy_set _ _ _ _) (by
    cases hb : v.ownBlock with
    | none => exact .inl rfl
    | some k => exact .inr (fun e => by have e2 := Option.some.inj e; have := (F.row.lt k hb).1; omega))
theorem FS.setA (F : FS h W3 w K WD A B N v ys) (A' : Int) : FS h W3 (w.setCell ⟨h + 2, 2, none⟩ (.int .i64 A')) K WD A' B N v ys := by
  have far : ∀ i, i ≠ 2 → (w.setCell ⟨h + 2, 2, none⟩ (.int .i64 A')).cell? ⟨h + 2, i, none⟩ = w.cell? ⟨h + 2, i, none⟩ := fun i hi => World.cell?_setCell_other _ _ _ _ (by intro e; cases e; exact hi rfl)
  exact ⟨F.gr.setCell (Nat.le_refl _) _, by rw [far 0 (by omega)]; exact F.c0, by rw [far 1 (by omega)]; exact F.c1, World.cell?_setCell_same _ _ _ F.c2, by rw [far 3 (by omega)]; exact F.c3, by rw [far 4 (by omega)]; exact F.c4,
    by rw [far 5 (by omega)]; exact F.c5, by rw [far 6 (by omega)]; exact F.c6, fun i => by simpa using F.fz i, F.row_set _ _⟩
theorem FS.setB (F : FS h W3 w K WD A B N v ys) (B' : Int) : FS h W3 (w.setCell ⟨h + 2, 3, none⟩ (.int .i64 B')) K WD A B' N v ys := by
  have far : ∀ i, i ≠ 3 → (w.setCell ⟨h + 2, 3, none⟩ (.int .i64 B')).cell? ⟨h + 2, i, none⟩ = w.cell? ⟨h + 2, i, none⟩ := fun i hi => World.cell?_setCell_other _ _ _ _ (by intro e; cases e; exact hi rfl)
  exact ⟨F.gr.setCell (Nat.le_refl _) _, by rw [far 0 (by omega)]; exact F.c0, by rw [far 1 (by omega)]; exact F.c1, by rw [far 2 (by omega)]; exact F.c2, World.cell?_setCell_same _ _ _ F.c3, by rw [far 4 (by omega)]; exact F.c4,
    by rw [far 5 (by omega)]; exact F.c5, by rw [far 6 (by omega)]; exact F.c6, fun i => by simpa using F.fz i, F.row_set _ _⟩
/-- The places have grown, and lie in the box. -/
theorem FS.app (F : FS h W3 w K WD A B N v ys) (hb : Below (h + 3) w w') {v' : Value} {ys' : List Int} (ho : w'.ownsRow (h + 3) 3 1 v' (ints ys').length (ints ys')) : FS h W3 (w'.setCell ⟨h + 2, 5, none⟩ v') K WD A B N v' ys' := by
  have hc : ∀ i, w'.cell? ⟨h + 2, i, none⟩ = w.cell? ⟨h + 2, i, none⟩ := fun i => hb.cell (p := ⟨h + 2, i, none⟩) (Nat.lt_succ_self _)
  have hf : ∀ i, w'.frozen? ⟨h + 2, i, none⟩ = w.frozen? ⟨h + 2, i, none⟩ := fun i => hb.frozen (p := ⟨h + 2, i, none⟩) (Nat.lt_succ_self _)
  have far : ∀ i, i ≠ 5 → (w'.setCell ⟨h + 2, 5, none⟩ v').cell? ⟨h + 2, i, none⟩ = w.cell? ⟨h + 2, i, none⟩ := fun i hi => (World.cell?_setCell_other _ _ _ _ (by intro e; cases e; exact hi rfl)).trans (hc i)
  refine ⟨(F.gr.trans (hb.mono (Nat.le_succ _))).setCell (Nat.le_refl _) _, by rw [far 0 (by omega)]; exact F.c0, by rw [far 1 (by omega)]; exact F.c1, by rw [far 2 (by omega)]; exact F.c2, by rw [far 3 (by omega)]; exact F.c3, by rw [far 4 (by omega)]; exact F.c4,
    World.cell?_setCell_same _ _ _ ((hc 5).trans F.c5), by rw [far 6 (by omega)]; exact F.c6, fun i => ?_, ?_⟩
  · have := F.fz i; rw [← hf i] at this; simpa using this
  · refine ho.kept (grownBy_set _ _ _ _) ?_
    cases hb2 : v'.ownBlock with
    | none => exact .inl rfl
    | some k => exact .inr (fun e => by have e2 := Option.some.inj e; have := (ho.lt k hb2).1; omega)
theorem FS.new (W2 : World) (h : Nat) (hh : W2.heap.size = h + 2) (K WD N : Int) : FS h (W2.alloc (.cells #[.int .i64 K, .int .i64 WD, .int .i64 0, .int .i64 0, .int .i64 N, .slice none 0 0, .slice none 0 0] 25)) (W2.alloc (.cells #[.int .i64 K, .int .i64 WD, .int .i64 0, .int .i64 0, .int .i64 N, .slice none 0 0, .slice none 0 0] 25)) K WD 0 0 N (.slice none 0 0) [] := by
  have e : ∀ (o : Obj) (i : Nat), (W2.alloc o).cell? ⟨h + 2, i, none⟩ = (W2.alloc o).cell? ⟨W2.heap.size, i, none⟩ := fun o i => by rw [hh]
  have f : ∀ (o : Obj) (i : Nat), (W2.alloc o).frozen? ⟨h + 2, i, none⟩ = (W2.alloc o).frozen? ⟨W2.heap.size, i, none⟩ := fun o i => by rw [hh]
  exact ⟨Below.refl _ _, by rw [e]; simp [go_sem], by rw [e]; simp [go_sem], by rw [e]; simp [go_sem], by rw [e]; simp [go_sem], by rw [e]; simp [go_sem], by rw [e]; simp [go_sem], by rw [e]; simp [go_sem], fun i => by rw [f]; simp [go_sem], World.ownsRow_nil _ _ _ _⟩
end
end Go.Proofs.Ytocjjiacmedjmaa
