/- A tree gone through from left to right: the parts that are wanted. Plain; rows joined. -/
import Derived.Test.YtaaldkkfedinpaaDoorToldR
import Derived.Maps.AppendAt
import Derived.Laws.AppendOwnNone
set_option maxRecDepth 100000
namespace Go.Proofs.YtaaldkkfedinpaaDoor
open Go Go.RowKit

/-- The parts that are wanted, from left to right. -/
def outP (wt it : Nat → Nat → Bool) : Nat → Nat → Nat → List (Nat × Nat)
  | 0, _, _ => []
  | f + 1, a, b => if wt a b = true then [(a, b)] else if it a b = false then [] else outP wt it f a (a + sp (b - a)) ++ outP wt it f (a + sp (b - a)) b
theorem outP_in (wt it : Nat → Nat → Bool) (hs : ∀ a b, a < b → wt a b = false → it a b = true → a + 2 ≤ b) (f : Nat) : ∀ a b, a < b → ∀ q ∈ outP wt it f a b, q.1 ≤ q.2 ∧ q.2 ≤ b := by
  induction f with
  | zero => intro a b _ q hq; cases hq
  | succ f ih =>
    intro a b hab q hq
    unfold outP at hq
    split at hq
    · rw [List.mem_singleton.1 hq]; simp only; omega
    · rename_i hw
      split at hq
      · cases hq
      · rename_i hi
        have h2 := hs a b hab (by simpa using hw) (by simpa using hi)
        have h3 := sp_pos (b - a)
        have h4 := sp_lt (b - a) (by omega)
        rcases List.mem_append.1 hq with hq | hq
        · have := ih a (a + sp (b - a)) (by omega) q hq; omega
        · have := ih (a + sp (b - a)) b (by omega) q hq; omega
/-- A range's: what is wanted, what is gone into. -/
def wtR (lo hi a b : Nat) : Bool := decide (b ≤ lo ∨ hi ≤ a)
def itR (lo hi a b : Nat) : Bool := decide (a < lo ∨ hi < b)
theorem range_split (lo hi : Nat) (a b : Nat) (_ : a < b) (h1 : wtR lo hi a b = false) (h2 : itR lo hi a b = true) : a + 2 ≤ b := by
  unfold wtR at h1
  unfold itR at h2
  have h1 := of_decide_eq_false h1
  have h2 := of_decide_eq_true h2
  omega
theorem outR_left (lo hi f : Nat) : ∀ a b, a < b → lo ≤ a → (outP (wtR lo hi) (itR lo hi) f a b).length ≤ f := by
  induction f with
  | zero => intro a b _ _; exact Nat.le_refl _
  | succ f ih =>
    intro a b hab hla
    unfold outP
    by_cases hw : wtR lo hi a b = true
    · rw [if_pos hw]; simp
    · rw [if_neg hw]
      by_cases hi2 : itR lo hi a b = false
      · rw [if_pos hi2]; simp
      · rw [if_neg hi2, List.length_append]
        have hw' : wtR lo hi a b = false := by simpa using hw
        have hi' : itR lo hi a b = true := by simpa using hi2
        have h2 := range_split lo hi a b hab hw' hi'
        have h3 := sp_pos (b - a)
        have h4 := sp_lt (b - a) (by omega)
        have e1 := of_decide_eq_false hw'
        have e2 := of_decide_eq_true hi'
        obtain ⟨c, hc⟩ : ∃ c, c = a + sp (b - a) := ⟨_, rfl⟩
        rw [← hc]
        by_cases hch : hi ≤ c
        · have hr : (outP (wtR lo hi) (itR lo hi) f c b).length ≤ 1 := by
            cases f with
            | zero => simp [outP]
            | succ f => unfold outP; rw [if_pos (show wtR lo hi c b = true from decide_eq_true (.inr hch))]; simp
          have := ih a c (by omega) hla
          omega
        · have hl : (outP (wtR lo hi) (itR lo hi) f a c).length = 0 := by
            cases f with
            | zero => rfl
            | succ f => unfold outP; rw [if_neg (by rw [show wtR lo hi a c = false from decide_eq_false (by omega)]; simp), if_pos (show itR lo hi a c = false from decide_eq_false (by omega))]; rfl
          have := ih c b (by omega) (by omega)
          omega
theorem outR_right (lo hi f : Nat) : ∀ a b, a < b → b ≤ hi → (outP (wtR lo hi) (itR lo hi) f a b).length ≤ f := by
  induction f with
  | zero => intro a b _ _; exact Nat.le_refl _
  | succ f ih =>
    intro a b hab hbh
    unfold outP
    by_cases hw : wtR lo hi a b = true
    · rw [if_pos hw]; simp
    · rw [if_neg hw]
      by_cases hi2 : itR lo hi a b = false
      · rw [if_pos hi2]; simp
      · rw [if_neg hi2, List.length_append]
        have hw' : wtR lo hi a b = false := by simpa using hw
        have hi' : itR lo hi a b = true := by simpa using hi2
        have h2 := range_split lo hi a b hab hw' hi'
        have h3 := sp_pos (b - a)
        have h4 := sp_lt (b - a) (by omega)
        have e1 := of_decide_eq_false hw'
        have e2 := of_decide_eq_true hi'
        obtain ⟨c, hc⟩ : ∃ c, c = a + sp (b - a) := ⟨_, rfl⟩
        rw [← hc]
        by_cases hch : c ≤ lo
        · have hr : (outP (wtR lo hi) (itR lo hi) f a c).length ≤ 1 := by
            cases f with
            | zero => simp [outP]
            | succ f => unfold outP; rw [if_pos (show wtR lo hi a c = true from decide_eq_true (.inl hch))]; simp
          have := ih c b (by omega) hbh
          omega
        · have hl : (outP (wtR lo hi) (itR lo hi) f c b).length = 0 := by
            cases f with
            | zero => rfl
            | succ f => unfold outP; rw [if_neg (by rw [show wtR lo hi c b = false from decide_eq_false (by omega)]; simp), if_pos (show itR lo hi c b = false from decide_eq_false (by omega))]; rfl
          have := ih a c (by omega) (by omega)
          omega
theorem outR_len (lo hi f : Nat) : ∀ a b, a < b → (outP (wtR lo hi) (itR lo hi) f a b).length ≤ 2 * f := by
  induction f with
  | zero => intro a b _; exact Nat.le_refl _
  | succ f ih =>
    intro a b hab
    unfold outP
    by_cases hw : wtR lo hi a b = true
    · rw [if_pos hw]; simp; omega
    · rw [if_neg hw]
      by_cases hi2 : itR lo hi a b = false
      · rw [if_pos hi2]; simp
      · rw [if_neg hi2, List.length_append]
        have h2 := range_split lo hi a b hab (by simpa using hw) (by simpa using hi2)
        have h3 := sp_pos (b - a)
        have h4 := sp_lt (b - a) (by omega)
        obtain ⟨c, hc⟩ : ∃ c, c = a + sp (b - a) := ⟨_, rfl⟩
        rw [← hc]
        by_cases hcl : c ≤ lo
        · have hr : (outP (wtR lo hi) (itR lo hi) f a c).length ≤ 1 := by
            cases f with
            | zero => simp [outP]
            | succ f => unfold outP; rw [if_pos (show wtR lo hi a c = true from decide_eq_true (.inl hcl))]; simp
          have := ih c b (by omega)
          omega
        · by_cases hch : hi ≤ c
          · have hr : (outP (wtR lo hi) (itR lo hi) f c b).length ≤ 1 := by
              cases f with
              | zero => simp [outP]
              | succ f => unfold outP; rw [if_pos (show wtR lo hi c b = true from decide_eq_true (.inr hch))]; simp
            have := ih a c (by omega)
            omega
          · have h5 := outR_right lo hi f a c (by omega) (by omega)
            have h6 := outR_left lo hi f c b (by omega) (by omega)
            omega
section
variable {P : Program} {ops : Array Oper} {rest : List Oper} {o : Oper} {a : Act} {K : Act → World → Prop} {Q : Exit → Act → World → Prop} {E : Prop}
/-- v = append(v, x...), both rows of the call's own. -/
theorem op_append_rows {W : World} (base base2 : Nat) (s x : Operand) (t e : TypeId) (z : Value) (size bytes : Nat)
    (ho : o.op = .call { callee := .builtin .append, args := #[s, x], argTypes := #[t, t] })
    (ht : P.underlying t = some (.slice e)) (hinfo : (P.info? e).map (fun i => (i.zero, i.size, i.bytes)) = some (some z, size, bytes)) (hz : z.cells.size = size) (hs0 : 0 < size) (hb0 : 0 < bytes)
    (v v2 : Value) (n m : Nat) (xs ys : List Value) (hs : a.eval s = v) (hx : a.eval x = v2) (h1 : ∀ u ∈ ys, u.oneCell' = true)
    (HO : W.ownsRow base e size v n xs) (HO2 : W.ownsRow base2 e size v2 m ys) (hbase : base ≤ W.heap.size) (hl : (n + m) * bytes ≤ 140737488355328)
    (h : ∀ v1 w1, w1.ownsRow base e size v1 (n + m) (xs ++ ys) → W.grownBy w1 v.ownBlock → K (a.put o.dst v1) w1) : o.wp P a W K Q := by
  obtain ⟨i0, hi, hz0, hz1, hz2⟩ := info_parts hinfo
  have hlen : n + m ≤ 140737488355328 := Nat.le_trans (Nat.le_mul_of_pos_right _ hb0) hl
  have key : ∃ v1 w1, (Builtin.append_ #[t, t] o.type #[v, v2]).run P W = .ok v1 w1 ∧ w1.ownsRow base e size v1 (n + m) (xs ++ ys) ∧ W.grownBy w1 v.ownBlock := by
    rcases HO2.2 with ⟨rfl, rfl⟩ | ⟨g, cap, cur, rfl, _, hg, _⟩
    · obtain rfl : ys = [] := List.eq_nil_of_length_eq_zero (by have := HO2.1; omega)
      exact ⟨v, W, run_append_owned_none (P := P) (w := W) base t o.type e i0 size ht hi v n xs HO, by simpa using HO, ⟨rfl, rfl, rfl, Nat.le_refl _, fun _ _ _ => rfl⟩⟩
    · obtain ⟨v', w', hr, h2, h3, _, _⟩ := run_append_own_at (P := P) W base t o.type e i0 z size bytes ht hi hz0 hz1 hz2 hz hs0 v n xs HO ⟨g, 0, none⟩ m cap ys HO2.1 (fun j u hu => HO2.cells (g := g) rfl j u hu) h1 (by unfold maxLen; omega) hl hbase
      exact ⟨v', w', hr, h2, h3⟩
  obtain ⟨v1, w1, hr, h2, h3⟩ := key
  unfold Oper.wp execOp
  simp only [ho, resolve, invoke, builtin, Sem.run_bind, Sem.run_pure, Result.andThen_ok, List.map_toArray, List.map_cons, List.map_nil, hs, hx, hr]
  exact h v1 w1 h2 h3
theorem wp_append_rows {W : World} (base base2 : Nat) (hgd : o.guard = none) (s x : Operand) (t e : TypeId) (z : Value) (size bytes : Nat)
    (ho : o.op = .call { callee := .builtin .append, args := #[s, x], argTypes := #[t, t] })
    (ht : P.underlying t = some (.slice e)) (hinfo : (P.info? e).map (fun i => (i.zero, i.size, i.bytes)) = some (some z, size, bytes)) (hz : z.cells.size = size) (hs0 : 0 < size) (hb0 : 0 < bytes)
    (v v2 : Value) (n m : Nat) (xs ys : List Value) (hs : a.eval s = v) (hx : a.eval x = v2) (h1 : ∀ u ∈ ys, u.oneCell' = true)
    (HO : W.ownsRow base e size v n xs) (HO2 : W.ownsRow base2 e size v2 m ys) (hbase : base ≤ W.heap.size) (hl : (n + m) * bytes ≤ 140737488355328)
    (h : ∀ v1 w1, w1.ownsRow base e size v1 (n + m) (xs ++ ys) → W.grownBy w1 v.ownBlock → wpList P ops Q rest (a.put o.dst v1) w1) : wpList P ops Q (o :: rest) a W :=
  wpList_plain hgd fun _ hK => op_append_rows base base2 s x t e z size bytes ho ht hinfo hz hs0 hb0 v v2 n m xs ys hs hx h1 HO HO2 hbase hl fun v1 w1 h2 h3 => hK _ _ (h v1 w1 h2 h3)
theorem step_append_rows {W : World} (base base2 : Nat) (hgd : o.guard = none) (s x : Operand) (t e : TypeId) (z : Value) (size bytes : Nat)
    (ho : o.op = .call { callee := .builtin .append, args := #[s, x], argTypes := #[t, t] })
    (ht : P.underlying t = some (.slice e)) (hinfo : (P.info? e).map (fun i => (i.zero, i.size, i.bytes)) = some (some z, size, bytes)) (hz : z.cells.size = size) (hs0 : 0 < size) (hb0 : 0 < bytes)
    (v v2 : Value) (n m : Nat) (xs ys : List Value) (hs : a.eval s = v) (hx : a.eval x = v2) (h1 : ∀ u ∈ ys, u.oneCell' = true)
    (HO : W.ownsRow base e size v n xs) (HO2 : W.ownsRow base2 e size v2 m ys) (hbase : base ≤ W.heap.size) (hl : (n + m) * bytes ≤ 140737488355328)
    (h : ∀ v1 w1, w1.ownsRow base e size v1 (n + m) (xs ++ ys) → W.grownBy w1 v.ownBlock → K (a.put o.dst v1) w1) :
    if Region.wanted o (yielded ops a.tmps) = true then Oper.wp P o a W K Q else E := by
  have hw : Region.wanted o (yielded ops a.tmps) = true := by simp [Region.wanted, hgd]
  rw [if_pos hw]
  exact op_append_rows base base2 s x t e z size bytes ho ht hinfo hz hs0 hb0 v v2 n m xs ys hs hx h1 HO HO2 hbase hl h
end
theorem partsV_one (l : List (Nat × Nat)) : ∀ u ∈ partsV l, u.oneCell' = true := by
  intro u hu
  unfold partsV at hu
  obtain ⟨p, _, hp⟩ := List.mem_flatMap.1 hu
  simp only [partV, List.mem_cons, List.not_mem_nil, or_false] at hp
  rcases hp with rfl | rfl <;> rfl
theorem partsV_append (l r : List (Nat × Nat)) : partsV (l ++ r) = partsV l ++ partsV r := by simp [partsV]
/-- A new row of one part. -/
theorem own_one (W : World) (base : Nat) (hB : base ≤ W.heap.size) (t : TypeId) (a b : Nat) : (W.alloc (.cells #[.int .i64 a, .int .i64 b] t)).ownsRow base t 2 (.slice (some ⟨W.heap.size, 0, none⟩) 1 1) 1 (partsV [(a, b)]) :=
  ⟨rfl, .inr ⟨W.heap.size, 1, #[.int .i64 a, .int .i64 b], rfl, hB, World.alloc_heap_new W _, Nat.le_refl _, by unfold maxLen; omega, rfl, rfl⟩⟩
end Go.Proofs.YtaaldkkfedinpaaDoor
