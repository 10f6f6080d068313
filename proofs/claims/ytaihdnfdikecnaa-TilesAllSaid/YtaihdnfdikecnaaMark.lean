/- A row that the call made and then writes over and puts things behind: what stays as it was. -/
import Derived.Test.YtaihdnfdikecnaaOwnS
import Derived.Lib.SmallJoins
import Derived.Lib.BufferOwn
set_option maxRecDepth 100000
namespace Go.Proofs.Ytaihdnfdikecnaa
open Go Go.RowKit

/-- Since w0 only block g0 (if any) is changed; v is a row of n that lies there, or in newer memory. -/
structure Mk (w0 : World) (g0 : Option Nat) (base : Nat) (e : TypeId) (size : Nat) (v : Value) (n : Nat) (w : World) : Prop where
  own : ∃ xs, w.ownsRow base e size v n xs
  kept : w0.grownBy w g0
  at_ : ∀ k, v.ownBlock = some k → g0 = some k ∨ w0.heap.size ≤ k
theorem grownBy_refl (w : World) (r : Option Nat) : w.grownBy w r := ⟨rfl, rfl, rfl, Nat.le_refl _, fun _ _ _ => rfl⟩
theorem Mk.start {w : World} {base n : Nat} {e : TypeId} {size : Nat} {v : Value} {xs : List Value} (h : w.ownsRow base e size v n xs) : Mk w v.ownBlock base e size v n w :=
  ⟨⟨xs, h⟩, grownBy_refl _ _, fun _ hk => .inl hk⟩
theorem own_set {w : World} {base n g : Nat} {e : TypeId} {size : Nat} {v : Value} {xs : List Value} (h : w.ownsRow base e size v n xs) (hv : v.ownBlock = some g) (i : Nat) (u : Value) : ∃ ys, (w.setCell ⟨g, i, none⟩ u).ownsRow base e size v n ys := by
  rcases h.2 with ⟨rfl, _⟩ | ⟨g', cap, cur, rfl, hb, hg, hn, hm, hs, hx⟩
  · simp [Value.ownBlock] at hv
  · obtain rfl : g' = g := by simpa [Value.ownBlock] using hv
    refine ⟨((cur.setIfInBounds i u).toList.take (n * size)), ?_, .inr ⟨g', cap, cur.setIfInBounds i u, rfl, hb, Go.Joins.block_setCell hg u, hn, hm, by simpa using hs, rfl⟩⟩
    rw [List.length_take]
    have : (cur.setIfInBounds i u).toList.length = cap * size := by simpa using hs
    have : n * size ≤ cap * size := Nat.mul_le_mul_right _ hn
    omega
theorem Mk.set {w0 w : World} {g0 base n : Nat} {e : TypeId} {size : Nat} {v : Value} (h : Mk w0 (some g0) base e size v n w) (hv : v.ownBlock = some g0) (i : Nat) (u : Value) : Mk w0 (some g0) base e size v n (w.setCell ⟨g0, i, none⟩ u) := by
  obtain ⟨xs, ho⟩ := h.own
  exact ⟨own_set ho hv i u, Go.Lib.grownBy_trans h.kept ⟨rfl, rfl, rfl, by simp, fun k _ hk => Below.heap_setCell w ⟨g0, i, none⟩ u k (fun e => hk (by rw [e]))⟩, h.at_⟩
theorem Mk.keeps {w0 w : World} {g0 : Option Nat} {base n : Nat} {e : TypeId} {size : Nat} {v : Value} (h : Mk w0 g0 base e size v n w) {base' n' : Nat} {e' : TypeId} {size' : Nat} {v' : Value} {xs' : List Value}
    (ho : w0.ownsRow base' e' size' v' n' xs') (hb : ∀ g, g0 = some g → g < base') : w.ownsRow base' e' size' v' n' xs' := by
  refine ho.kept h.kept ?_
  cases hv : v'.ownBlock with
  | none => exact .inl rfl
  | some k => exact .inr (fun e => by have := (ho.lt k hv).1; have := hb k e.symm; omega)
section
variable {P : Program} {ops : Array Oper} {rest : List Oper} {o : Oper} {a : Act} {Q : Exit → Act → World → Prop}
/-- v = append(v, y), v such a row: behind 'at_builtin'. -/
theorem wp_append_mk {w0 W : World} (g0 : Option Nat) (base : Nat) (hgd : o.guard = none) (s x : Operand) (t e : TypeId) (z : Value) (size bytes : Nat)
    (ho : o.op = .call { callee := .builtin .append, args := #[s, x], argTypes := #[t, t] })
    (ht : P.underlying t = some (.slice e)) (hinfo : (P.info? e).map (fun i => (i.zero, i.size, i.bytes)) = some (some z, size, bytes)) (hz : z.cells.size = size) (hs0 : 0 < size) (hb0 : 0 < bytes)
    (v : Value) (n : Nat) (ys : List Value) (hs : a.eval s = v) (H : Nat) (hH : W.heap.size = H) (hx : a.eval x = .slice (some ⟨H, 0, none⟩) 1 1) (hys : ys.length = size) (h1 : ∀ u ∈ ys, u.oneCell' = true)
    (HM : Mk w0 g0 base e size v n W) (hbase : base ≤ W.heap.size) (hl : (n + 1) * bytes ≤ 140737488355328)
    (h : ∀ g cap w1, Mk w0 g0 base e size (.slice (some ⟨g, 0, none⟩) (n + 1) cap) (n + 1) w1 → W.heap.size ≤ w1.heap.size → wpList P ops Q rest (a.put o.dst (.slice (some ⟨g, 0, none⟩) (n + 1) cap)) w1) :
    wpList P ops Q (o :: rest) a (W.alloc (.cells ys.toArray e)) := by
  subst hH
  obtain ⟨i0, hi, hz0, hz1, hz2⟩ := info_parts hinfo
  obtain ⟨xs, HO⟩ := HM.own
  have hlen : n + 1 ≤ 140737488355328 := Nat.le_trans (Nat.le_mul_of_pos_right _ hb0) hl
  refine wpList_append_lies (W.alloc (.cells ys.toArray e)) hgd s x t ho base e i0 z size bytes ht hi hz0 hz1 hz2 hz hs0 v n xs hs (HO.alloc _) ⟨W.heap.size, 0, none⟩ 1 1 ys hx (by omega)
    news_alloc h1 (by omega) (by unfold maxLen; omega) hl (by simp; omega) _ rfl ?_
  intro g cap w1 hown hg hat hlt
  have hsz : w0.heap.size ≤ W.heap.size := HM.kept.size
  have hsz1 : W.heap.size ≤ w1.heap.size := by have := hg.size; simp at this; omega
  refine h g cap w1 ⟨⟨_, hown⟩, ⟨hg.os.trans HM.kept.os, hg.tape.trans HM.kept.tape, hg.output.trans HM.kept.output, by omega, ?_⟩, ?_⟩ hsz1
  · intro k hk hne
    have h2 : w1.heap[k]? = (W.alloc (.cells ys.toArray e)).heap[k]? := by
      refine hg.block k (by simp; omega) ?_
      intro e
      rcases HM.at_ k e.symm with h3 | h3
      · exact hne h3.symm
      · omega
    rw [h2]
    have h3 : (W.alloc (.cells ys.toArray e)).heap[k]? = W.heap[k]? := ((Below.refl W.heap.size W).alloc (Nat.le_refl _) _).block k (by omega)
    rw [h3]
    exact HM.kept.block k hk hne
  · intro k hk
    obtain rfl : g = k := by simpa [Value.ownBlock] using hk
    rcases hat with h4 | h4
    · exact HM.at_ g h4
    · right; rw [h4]; simp; omega
end
end Go.Proofs.Ytaihdnfdikecnaa
