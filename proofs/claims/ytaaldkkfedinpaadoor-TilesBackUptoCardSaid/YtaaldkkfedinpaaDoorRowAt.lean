/- Slices that are read: their cells. -/
import Derived.Test.YtaaldkkfedinpaaDoorKit
set_option maxRecDepth 100000
namespace Go.Proofs.YtaaldkkfedinpaaDoor
open Go Go.RowKit

/-- The cells cs lie from ao on (of no cells nothing is said). -/
def RowAt (w : World) (ao : Option Addr) (cs : List Value) : Prop :=
  cs = [] ∨ ∃ b off, ao = some ⟨b, off, none⟩ ∧ ∀ i (h : i < cs.length), w.cell? ⟨b, off + i, none⟩ = some cs[i]
theorem RowAt.nil (w : World) (ao : Option Addr) : RowAt w ao [] := .inl rfl
theorem RowAt.get {w : World} {ao : Option Addr} {cs : List Value} (h : RowAt w ao cs) {k : Nat} (hk : k < cs.length) :
    ∃ b off, ao = some ⟨b, off, none⟩ ∧ ∀ i (h : i < cs.length), w.cell? ⟨b, off + i, none⟩ = some cs[i] := by
  rcases h with rfl | h
  · simp at hk
  · exact h
theorem RowAt.block_lt {w : World} {b off : Nat} {cs : List Value} (h : ∀ i (h : i < cs.length), w.cell? ⟨b, off + i, none⟩ = some cs[i]) {k : Nat} (hk : k < cs.length) : b < w.heap.size :=
  World.block_lt_of_cell? w _ (h k hk)
/-- What lies there lies there later. -/
theorem RowAt.below {w w' : World} {ao : Option Addr} {cs : List Value} (h : RowAt w ao cs) (hb : Below w.heap.size w w') : RowAt w' ao cs := by
  rcases h with rfl | ⟨b, off, rfl, h⟩
  · exact .inl rfl
  · exact .inr ⟨b, off, rfl, fun i hi => (hb.cell (World.block_lt_of_cell? w _ (h i hi))).trans (h i hi)⟩

def ints (xs : List Int) : List Value := xs.map (.int .i64)
theorem ints_length (xs : List Int) : (ints xs).length = xs.length := by simp [ints]
theorem ints_get (xs : List Int) (k : Nat) (h : k < xs.length) : (ints xs)[k]'(by simpa [ints] using h) = .int .i64 xs[k] := by simp [ints]
theorem RowAt.int {w : World} {ao : Option Addr} {xs : List Int} (h : RowAt w ao (ints xs)) {k : Nat} (hk : k < xs.length) :
    ∃ b off, ao = some ⟨b, off, none⟩ ∧ ∀ i (h : i < xs.length), w.cell? ⟨b, off + i, none⟩ = some (.int .i64 xs[i]) := by
  obtain ⟨b, off, e, hc⟩ := h.get (k := k) (by simpa [ints] using hk)
  exact ⟨b, off, e, fun i hi => by rw [hc i (by simpa [ints] using hi), ints_get]⟩
end Go.Proofs.YtaaldkkfedinpaaDoor
