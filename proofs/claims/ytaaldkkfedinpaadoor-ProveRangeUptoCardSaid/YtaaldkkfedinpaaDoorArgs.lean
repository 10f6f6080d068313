/- Arguments that came in, opened: whole numbers, slices of whole numbers and of strings, with the reach that the row gives. -/
import Derived.Test.YtaaldkkfedinpaaDoorKit
import Derived.ProofKit
import Derived.SizedLaws
import Derived.SliceStrings
import Derived.ChangeOld
set_option maxRecDepth 100000
namespace Go.Proofs.YtaaldkkfedinpaaDoor
open Go Go.RowKit

/-- The cells cs lie from ao on (of no cells nothing is said). -/
def RowAt (w : World) (ao : Option Addr) (cs : List Value) : Prop :=
  cs = [] ∨ ∃ b off, ao = some ⟨b, off, none⟩ ∧ ∀ i (h : i < cs.length), w.cell? ⟨b, off + i, none⟩ = some cs[i]
theorem RowAt.nil (w : World) (ao : Option Addr) : RowAt w ao [] := .inl rfl
theorem RowAt.get {w : World} {ao : Option Addr} {cs : List Value} (h : RowAt w ao cs) {k : Nat} (hk : k < cs.length) :
    ∃ b off, ao = some ⟨b, off, none⟩ ∧ ∀ i (h : i < cs.length), w.cell? ⟨b, off + i, none⟩ = some cs[i] := by
  rcases h with rfl | h
  · simp at hk
  · exact h
theorem RowAt.block_lt {w : World} {b off : Nat} {cs : List Value} (h : ∀ i (h : i < cs.length), w.cell? ⟨b, off + i, none⟩ = some cs[i]) {k : Nat} (hk : k < cs.length) : b < w.heap.size :=
  World.block_lt_of_cell? w _ (h k hk)
/-- What lies there lies there later. -/
theorem RowAt.below {w w' : World} {ao : Option Addr} {cs : List Value} (h : RowAt w ao cs) (hb : Below w.heap.size w w') : RowAt w' ao cs := by
  rcases h with rfl | ⟨b, off, rfl, h⟩
  · exact .inl rfl
  · exact .inr ⟨b, off, rfl, fun i hi => (hb.cell (World.block_lt_of_cell? w _ (h i hi))).trans (h i hi)⟩

def ints (xs : List Int) : List Value := xs.map (.int .i64)
theorem ints_length (xs : List Int) : (ints xs).length = xs.length := by simp [ints]
theorem ints_get (xs : List Int) (k : Nat) (h : k < xs.length) : (ints xs)[k]'(by simpa [ints] using h) = .int .i64 xs[k] := by simp [ints]
theorem RowAt.int {w : World} {ao : Option Addr} {xs : List Int} (h : RowAt w ao (ints xs)) {k : Nat} (hk : k < xs.length) :
    ∃ b off, ao = some ⟨b, off, none⟩ ∧ ∀ i (h : i < xs.length), w.cell? ⟨b, off + i, none⟩ = some (.int .i64 xs[i]) := by
  obtain ⟨b, off, e, hc⟩ := h.get (k := k) (by simpa [ints] using hk)
  exact ⟨b, off, e, fun i hi => by rw [hc i (by simpa [ints] using hi), ints_get]⟩
end Go.Proofs.YtaaldkkfedinpaaDoor
namespace Go.Proofs.YtaaldkkfedinpaaDoor
open Go Go.ChangeShapes Go.WideShapes Go.ChangeAt Go.RowKit

def strs' (xs : List ByteArray) : List Value := xs.map .string
theorem strs'_length (xs : List ByteArray) : (strs' xs).length = xs.length := by simp [strs']

theorem int_bounds {x : Int} (h : (Lit.int .i64 x).wf = true) : -9223372036854775808 ≤ x ∧ x ≤ 9223372036854775807 := by
  simp [Lit.wf, IntKind.min, IntKind.max, IntKind.signed, IntKind.bits] at h
  omega

theorem row_of {w : World} {a : Addr} {n : Nat} {cs : List Value} (hn : cs.length = n) (h : ∀ i (hi : i < cs.length), w.cell? (a.add i) = some cs[i]) : RowAt w (some a) cs := by
  rcases Nat.eq_zero_or_pos n with h0 | h0
  · exact .inl (List.eq_nil_of_length_eq_zero (by omega))
  · obtain ⟨b, off, spot⟩ := a
    have hspot : spot = none := by
      have := h 0 (by omega)
      simpa [Addr.add] using World.cell?_spot this
    subst hspot
    refine .inr ⟨b, off, rfl, fun i hi => ?_⟩
    have ha : (⟨b, off, none⟩ : Addr).add i = ⟨b, off + i, none⟩ := by unfold Addr.add; split <;> simp_all
    rw [← ha]; exact h i hi

section
variable {H : Type} {enc : TypeId × Value → H} {P : Program} {W : World} {t e : TypeId} {v : Value} {d : DataW H} {ps : List MemPlace}
/-- A slice of ints that came in. -/
theorem arg_ints (ht : P.underlying t = some (.slice e)) (he : P.underlying e = some (.int .i64)) (hc : P.cellsOf e = 1) (hb : P.bytesOf e = 8) {r : Reach} {b0 : Nat} (hval : Value.okWide P W r b0 t v)
    (h : DataW.Trod enc P W 0 (fun _ => true) true t v d ps) :
    ∃ ao xs cap, v = .slice ao xs.length cap ∧ RowAt W ao (ints xs) ∧ (ao = none → xs.length = 0 ∧ cap = 0) ∧ (∀ x ∈ xs, (Lit.int .i64 x).wf = true) ∧
      ∀ (ts : List TypeId) (ds : List (DataW H)) (j : Nat), (DataW.weightsEach P ts ds).all (· ≤ reachBytes) = true → ts[j]? = some t → ds[j]? = some d → xs.length * 8 ≤ 140737488351232 := by
  obtain ⟨a, len, cap, rfl⟩ := okWide_slice ht hval
  obtain ⟨fuel, hf⟩ := h
  rcases open_ints ht he hc hf with ⟨hcs, _⟩ | ⟨x, l, c, zs, hcs, _, hl, hm, hz, hx, hcell, hwz⟩
  · simp [Value.cells] at hcs
    obtain ⟨rfl, rfl, rfl⟩ := hcs
    exact ⟨none, [], 0, rfl, .inl rfl, fun _ => ⟨rfl, rfl⟩, by simp, fun _ _ _ _ _ _ => by simp⟩
  · simp [Value.cells] at hcs
    obtain ⟨rfl, rfl, rfl⟩ := hcs
    simp only [if_true] at hz
    have hlen : (zs.take len).length = len := by rw [List.length_take]; omega
    refine ⟨some x, zs.take len, cap, by rw [hlen], ?_, fun h => (by cases h), fun y hy => hwz y (List.mem_of_mem_take hy), ?_⟩
    · refine row_of (n := len) (by rw [ints_length, hlen]) (fun i hi => ?_)
      rw [ints_length, hlen] at hi
      rw [hcell i (by omega), ints_get _ _ (by rw [hlen]; exact hi), List.getElem_take, List.getD_eq_getElem?_getD, List.getElem?_eq_getElem (by omega), Option.getD_some]
    · intro ts ds j hs h1 h2
      simp only [Prod.mk.injEq] at hx
      rw [hx.1] at h2
      have := sized_slice hs h1 h2 ht
      rw [hb] at this
      simp only [lits, List.length_map, List.length_take, List.length_drop, reachBytes] at this
      rw [hlen]; omega
/-- A slice of strings that came in. -/
theorem arg_strs (ht : P.underlying t = some (.slice e)) (he : P.underlying e = some .string) (hc : P.cellsOf e = 1) (hb : P.bytesOf e = 16) {r : Reach} {b0 : Nat} (hval : Value.okWide P W r b0 t v)
    (h : DataW.Trod enc P W 0 (fun _ => true) true t v d ps) :
    ∃ ao xs cap, v = .slice ao xs.length cap ∧ RowAt W ao (strs' xs) ∧ (ao = none → xs.length = 0 ∧ cap = 0) ∧ (∀ x ∈ xs, x.size ≤ 9223372036854775807) ∧
      ∀ (ts : List TypeId) (ds : List (DataW H)) (j : Nat), (DataW.weightsEach P ts ds).all (· ≤ reachBytes) = true → ts[j]? = some t → ds[j]? = some d → xs.length * 16 ≤ 140737488351232 := by
  obtain ⟨a, len, cap, rfl⟩ := okWide_slice ht hval
  obtain ⟨fuel, hf⟩ := h
  rcases open_strings ht he hc hf with ⟨hcs, _⟩ | ⟨x, l, c, zs, hcs, _, hl, hm, hz, hx, hcell, hwz⟩
  · simp [Value.cells] at hcs
    obtain ⟨rfl, rfl, rfl⟩ := hcs
    exact ⟨none, [], 0, rfl, .inl rfl, fun _ => ⟨rfl, rfl⟩, by simp, fun _ _ _ _ _ _ => by simp⟩
  · simp [Value.cells] at hcs
    obtain ⟨rfl, rfl, rfl⟩ := hcs
    simp only [if_true] at hz
    have hlen : (zs.take len).length = len := by rw [List.length_take]; omega
    refine ⟨some x, zs.take len, cap, by rw [hlen], ?_, fun h => (by cases h), fun y hy => hwz y (List.mem_of_mem_take hy), ?_⟩
    · refine row_of (n := len) (by rw [strs'_length, hlen]) (fun i hi => ?_)
      rw [strs'_length, hlen] at hi
      rw [hcell i (by omega)]
      simp only [strs', List.getElem_map, List.getElem_take]
      rw [List.getD_eq_getElem?_getD, List.getElem?_eq_getElem (by omega)]; rfl
    · intro ts ds j hs h1 h2
      simp only [Prod.mk.injEq] at hx
      rw [hx.1] at h2
      have := sized_slice hs h1 h2 ht
      rw [hb] at this
      simp only [strs, List.length_map, List.length_take, List.length_drop, reachBytes] at this
      rw [hlen]; omega
end
end Go.Proofs.YtaaldkkfedinpaaDoor
