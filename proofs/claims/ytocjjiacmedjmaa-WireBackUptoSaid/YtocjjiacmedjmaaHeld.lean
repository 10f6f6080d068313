/- Rows that the call made, all together: each keeps its place, none shows in another one. -/
import Derived.Test.YtocjjiacmedjmaaGrew
set_option maxRecDepth 100000
namespace Go.Proofs.Ytocjjiacmedjmaa
open Go Go.RowKit

/-- v is a row of n in blocks from lo up to hi, with the cells xs. -/
structure Held (w : World) (lo hi : Nat) (e : TypeId) (size : Nat) (v : Value) (n : Nat) (xs : List Value) : Prop where
  own : w.ownsRow lo e size v n xs
  lt : ∀ k, v.ownBlock = some k → k < hi
  le : hi ≤ w.heap.size
section
variable {w w' : World} {lo hi lo2 hi2 : Nat} {e e2 : TypeId} {size size2 n n2 : Nat} {v v2 : Value} {xs xs2 : List Value}
theorem Held.new (h : w.ownsRow lo e size v n xs) : Held w lo w.heap.size e size v n xs := ⟨h, fun k hk => (h.lt k hk).2, Nat.le_refl _⟩
theorem Held.below (h : Held w lo hi e size v n xs) (hb : Below w.heap.size w w') : Held w' lo hi e size v n xs :=
  ⟨h.own.kept (grownBy_of_below hb none) (by cases v.ownBlock <;> simp), h.lt, Nat.le_trans h.le hb.size⟩
theorem Held.apart (h : Held w lo hi e size v n xs) (h2 : Held w lo2 hi2 e2 size2 v2 n2 xs2) (hg : w.grownBy w' v2.ownBlock) (hd : hi ≤ lo2 ∨ hi2 ≤ lo) : Held w' lo hi e size v n xs := by
  refine ⟨h.own.kept hg ?_, h.lt, Nat.le_trans h.le hg.size⟩
  cases hv : v.ownBlock with
  | none => exact .inl rfl
  | some k =>
    right
    intro e
    have a1 := (h.own.lt k hv).1
    have a2 := h.lt k hv
    have b1 := (h2.own.lt k e.symm).1
    have b2 := h2.lt k e.symm
    omega
theorem Held.val (h : Held w lo hi e size v n xs) : ∃ ao cap, v = .slice ao n cap := own_val h.own
theorem Held.grown (h : Held w lo hi e size v n xs) (ho : w'.ownsRow lo e size v n xs2) (hs : w.heap.size ≤ w'.heap.size) : Held w' lo hi e size v n xs2 := ⟨ho, h.lt, Nat.le_trans h.le hs⟩
end
theorem Held.rowAt {w : World} {lo hi n cap : Nat} {e : TypeId} {size : Nat} {ao : Option Addr} {xs : List Value} (h : Held w lo hi e size (.slice ao n cap) n xs) : RowAt w ao xs := by
  have hl := h.own.1
  rcases h.own.2 with ⟨hv, h0⟩ | ⟨g, cap', cur, hv, _⟩
  · exact .inl (List.eq_nil_of_length_eq_zero (by rw [hl, h0, Nat.zero_mul]))
  · cases hv
    refine .inr ⟨g, 0, rfl, fun i hi => ?_⟩
    have := h.own.cells (g := g) rfl i xs[i] (List.getElem?_eq_getElem hi)
    have ha : (⟨g, 0, none⟩ : Addr).add i = ⟨g, 0 + i, none⟩ := by unfold Addr.add; split <;> simp_all
    rwa [ha] at this

/-- One such row. -/
structure Rowd where
  lo : Nat
  hi : Nat
  e : TypeId
  size : Nat
  v : Value
  n : Nat
  xs : List Value
def Rowd.In (r : Rowd) (w : World) : Prop := Held w r.lo r.hi r.e r.size r.v r.n r.xs
/-- All these rows, the newest first. -/
structure Held' (w : World) (l : List Rowd) : Prop where
  each : ∀ r ∈ l, r.In w
  apart : l.Pairwise (fun a b => b.hi ≤ a.lo)
theorem Held'.nil (w : World) : Held' w [] := ⟨(fun _ h => by cases h), List.Pairwise.nil⟩
theorem Held'.below {w w' : World} {l : List Rowd} (h : Held' w l) (hb : Below w.heap.size w w') : Held' w' l := ⟨fun r hr => (h.each r hr).below hb, h.apart⟩
theorem Held'.drewN {w : World} {l : List Rowd} (h : Held' w l) (n : Nat) : Held' (w.drewN n) l := h.below (below_drewN (Below.refl _ _) n)
theorem Held'.push {w w' : World} {l : List Rowd} (h : Held' w l) (hb : Below w.heap.size w w') {e : TypeId} {size n : Nat} {v : Value} {xs : List Value} (ho : w'.ownsRow w.heap.size e size v n xs) :
    Held' w' (⟨w.heap.size, w'.heap.size, e, size, v, n, xs⟩ :: l) := by
  refine ⟨fun r hr => ?_, List.Pairwise.cons (fun r hr => (h.each r hr).le) h.apart⟩
  rcases List.mem_cons.1 hr with rfl | hr
  · exact Held.new ho
  · exact (h.each r hr).below hb
theorem Held'.get {w : World} {l : List Rowd} (h : Held' w l) {i : Nat} {r : Rowd} (hi : l[i]? = some r) : r.In w := h.each r (List.mem_of_getElem? hi)
/-- Row i is written over; it may be changed in its own block, and nothing else is. -/
theorem Held'.write {w w' : World} {l : List Rowd} (h : Held' w l) (i : Nat) {r : Rowd} (hi : l[i]? = some r) {xs : List Value} (hn : Held w' r.lo r.hi r.e r.size r.v r.n xs) (hg : w.grownBy w' r.v.ownBlock) :
    Held' w' (l.set i { r with xs := xs }) := by
  obtain ⟨hil, hir⟩ := List.getElem?_eq_some_iff.1 hi
  have hap := List.pairwise_iff_getElem.1 h.apart
  have hget : ∀ j (hj : j < l.length), (l.set i { r with xs := xs })[j]'(by simpa using hj) = if i = j then { r with xs := xs } else l[j] := fun j hj => by rw [List.getElem_set]
  have hlo : ∀ j (hj : j < l.length), ((l.set i { r with xs := xs })[j]'(by simpa using hj)).lo = l[j].lo ∧ ((l.set i { r with xs := xs })[j]'(by simpa using hj)).hi = l[j].hi := fun j hj => by
    rw [hget j hj]
    by_cases e : i = j
    · subst e; simp [hir]
    · simp [e]
  refine ⟨fun q hq => ?_, List.pairwise_iff_getElem.2 (fun a b ha hb hab => ?_)⟩
  · obtain ⟨j, hj, rfl⟩ := List.getElem_of_mem hq
    have hj' : j < l.length := by simpa using hj
    rw [hget j hj']
    by_cases e : i = j
    · subst e; rw [if_pos rfl]; exact hn
    · rw [if_neg e]
      have h1 := h.each l[j] (List.getElem_mem hj')
      have h2 := h.each r (List.mem_of_getElem? hi)
      refine Held.apart h1 h2 hg ?_
      rcases Nat.lt_or_ge i j with hlt | hge
      · left; rw [← hir]; exact hap i j hil hj' hlt
      · right; rw [← hir]; exact hap j i hj' hil (by omega)
  · have ha' : a < l.length := by simpa using ha
    have hb' : b < l.length := by simpa using hb
    rw [(hlo a ha').1, (hlo b hb').2]
    exact hap a b ha' hb' hab
theorem Held'.size4 {w : World} {l : List Rowd} (h : Held' w l) {i : Nat} {r : Rowd} (hi : l[i]? = some r) (hr : r.lo ≤ r.hi) : r.lo ≤ w.heap.size := Nat.le_trans hr (h.get hi).le
/-- What becomes of a row that is written over: the new cells, and nothing else. -/
def WrPost (lo hi : Nat) (e : TypeId) (size : Nat) (v : Value) (n : Nat) (xs : List Value) (r : Value) (w : World) (en : Ending) (w' : World) : Prop :=
  en = .returned r ∧ Held w' lo hi e size v n xs ∧ w.grownBy w' v.ownBlock
theorem Held'.below_write {B : Nat} {w w' : World} {l : List Rowd} (h : Held' w l) {i : Nat} {r : Rowd} (hi : l[i]? = some r) (hg : w.grownBy w' r.v.ownBlock) (hB : B ≤ r.lo) (hs : B ≤ w.heap.size) : Below B w w' :=
  below_of_grown hg hs (fun k hk => by have := ((h.get hi).own.lt k hk).1; omega)
end Go.Proofs.Ytocjjiacmedjmaa
