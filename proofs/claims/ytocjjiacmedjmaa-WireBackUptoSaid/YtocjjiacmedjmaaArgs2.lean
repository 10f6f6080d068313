/- A slice of strings that came in, opened with the reach of each string. -/
import Derived.Test.YtocjjiacmedjmaaArgs
namespace Go.Proofs.Ytocjjiacmedjmaa
open Go Go.ChangeShapes Go.WideShapes Go.ChangeAt Go.RowKit
section
variable {H : Type} {enc : TypeId × Value → H} {P : Program} {W : World} {t e : TypeId} {v : Value} {d : DataW H} {ps : List MemPlace}
theorem weightsAll_strs (x : ByteArray) : ∀ l : List ByteArray, x ∈ l → x.size ∈ DataW.weightsAll (H := H) P e (strs l) := by
  intro l
  induction l with
  | nil => intro h; cases h
  | cons y l ih =>
    intro h
    show x.size ∈ DataW.weights P e (.lit (.string y.data.toList)) ++ DataW.weightsAll P e (strs l)
    rw [List.mem_append]
    rcases List.mem_cons.1 h with rfl | h
    · left; show x.size ∈ [x.data.toList.length]; simp
    · right; exact ih h
theorem arg_strsW (ht : P.underlying t = some (.slice e)) (he : P.underlying e = some .string) (hc : P.cellsOf e = 1) (hb : P.bytesOf e = 16) {r : Reach} {b0 : Nat} (hval : Value.okWide P W r b0 t v)
    (h : DataW.Trod enc P W 0 (fun _ => true) true t v d ps) :
    ∃ ao xs cap, v = .slice ao xs.length cap ∧ RowAt W ao (strs' xs) ∧ (ao = none → xs.length = 0 ∧ cap = 0) ∧ xs.length ≤ cap ∧
      ∀ (ts : List TypeId) (ds : List (DataW H)) (j : Nat), (DataW.weightsEach P ts ds).all (· ≤ reachBytes) = true → ts[j]? = some t → ds[j]? = some d → xs.length * 16 ≤ 140737488351232 ∧ ∀ x ∈ xs, x.size ≤ 140737488351232 := by
  obtain ⟨a, len, cap, rfl⟩ := okWide_slice ht hval
  obtain ⟨fuel, hf⟩ := h
  rcases open_strings ht he hc hf with ⟨hcs, _⟩ | ⟨x, l, c, zs, hcs, _, hl, hm, hz, hx, hcell, hwz⟩
  · simp [Value.cells] at hcs
    obtain ⟨rfl, rfl, rfl⟩ := hcs
    exact ⟨none, [], 0, rfl, .inl rfl, fun _ => ⟨rfl, rfl⟩, Nat.le_refl _, fun _ _ _ _ _ _ => by simp⟩
  · simp [Value.cells] at hcs
    obtain ⟨rfl, rfl, rfl⟩ := hcs
    simp only [if_true] at hz
    have hlen : (zs.take len).length = len := by rw [List.length_take]; omega
    refine ⟨some x, zs.take len, cap, by rw [hlen], ?_, fun h => (by cases h), by rw [hlen]; exact hl, ?_⟩
    · refine row_of (n := len) (by rw [strs'_length, hlen]) (fun i hi => ?_)
      rw [strs'_length, hlen] at hi
      rw [hcell i (by omega)]
      simp only [strs', List.getElem_map, List.getElem_take]
      rw [List.getD_eq_getElem?_getD, List.getElem?_eq_getElem (by omega)]; rfl
    · intro ts ds j hs h1 h2
      simp only [Prod.mk.injEq] at hx
      rw [hx.1] at h2
      refine ⟨?_, fun y hy => ?_⟩
      · have := sized_slice hs h1 h2 ht
        rw [hb] at this
        simp only [strs, List.length_map, List.length_take, List.length_drop, reachBytes] at this
        rw [hlen]; omega
      · have hmem := DataW.weights_mem_each (P := P) h1 h2 y.size (by
          simp only [DataW.weights, ht, List.mem_cons, List.mem_append]
          exact .inr (.inl (weightsAll_strs y _ hy)))
        have := List.all_eq_true.1 hs _ hmem
        unfold reachBytes at this
        exact of_decide_eq_true this
end
end Go.Proofs.Ytocjjiacmedjmaa
