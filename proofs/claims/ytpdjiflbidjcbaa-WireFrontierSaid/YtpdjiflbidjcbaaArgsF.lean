/- A compact range that came in by value, opened. -/
import Derived.Test.YtpdjiflbidjcbaaArgs2
import Derived.Lib.SmallJoins
import Derived.Deep.Fields
set_option maxRecDepth 100000
namespace Go.Proofs.Ytpdjiflbidjcbaa
open Go Go.Joins Go.ChangeShapes Go.WideShapes Go.ChangeAt Go.RowKit Go.Deep
section
variable {H : Type} {enc : TypeId × Value → H} {P : Program} {w : World} {base : Nat} {spare : Nat → Bool} {held : Bool}
theorem sized_struct {ts : List TypeId} {ds : List (DataW H)} (h : (DataW.weightsEach P ts ds).all (· ≤ reachBytes) = true) {j : Nat} {t : TypeId} {fs : Array Field} {parts : List (DataW H)} (ht : ts[j]? = some t) (hd : ds[j]? = some (.agg parts)) (hu : P.underlying t = some (.struct fs)) :
    (DataW.weightsEach P (fs.toList.map (·.type)) parts).all (· ≤ reachBytes) = true := by
  rw [List.all_eq_true] at h ⊢
  intro n hn
  refine h n (DataW.weights_mem_each ht hd n ?_)
  simp only [DataW.weights, hu]
  exact hn
end
section
variable {H : Type} {enc : TypeId × Value → H} {P : Program} {W : World} {t e : TypeId} {v : Value} {n : Nat} {y : DataW H × List MemPlace}
theorem fld_int (ht : P.underlying t = some (.int .i64)) (h : DataW.trod enc P W 0 (fun _ => true) true n t [v] = some y) : ∃ x : Int, v = .int .i64 x ∧ -9223372036854775808 ≤ x ∧ x ≤ 9223372036854775807 := by
  obtain ⟨x, hx, _, hw⟩ := DataW.trod_int ht h
  simp at hx
  exact ⟨x, hx, int_bounds hw⟩
theorem fld_strs (ht : P.underlying t = some (.slice e)) (he : P.underlying e = some .string) (hc : P.cellsOf e = 1) (hb : P.bytesOf e = 16)
    (hf : DataW.trod enc P W 0 (fun _ => true) true n t [v] = some y) :
    ∃ ao xs cap, v = .slice ao xs.length cap ∧ RowAt W ao (strs' xs) ∧ (ao = none → xs.length = 0 ∧ cap = 0) ∧ xs.length ≤ cap ∧
      ∀ (ts : List TypeId) (ds : List (DataW H)) (j : Nat), (DataW.weightsEach P ts ds).all (· ≤ reachBytes) = true → ts[j]? = some t → ds[j]? = some y.1 → xs.length * 16 ≤ 140737488351232 ∧ ∀ x ∈ xs, x.size ≤ 140737488351232 := by
  rcases open_strings ht he hc hf with ⟨hcs, _⟩ | ⟨x, len, cap, zs, hcs, _, hl, hm, hz, hx, hcell, hwz⟩
  · simp at hcs
    subst hcs
    exact ⟨none, [], 0, rfl, .inl rfl, fun _ => ⟨rfl, rfl⟩, Nat.le_refl _, fun _ _ _ _ _ _ => by simp⟩
  · simp at hcs
    subst hcs
    simp only [if_true] at hz
    have hlen : (zs.take len).length = len := by rw [List.length_take]; omega
    refine ⟨some x, zs.take len, cap, by rw [hlen], ?_, fun h => (by cases h), by rw [hlen]; exact hl, ?_⟩
    · refine row_of (n := len) (by rw [strs'_length, hlen]) (fun i hi => ?_)
      rw [strs'_length, hlen] at hi
      rw [hcell i (by omega)]
      simp only [strs', List.getElem_map, List.getElem_take]
      rw [List.getD_eq_getElem?_getD, List.getElem?_eq_getElem (by omega)]; rfl
    · intro ts ds j hs h1 h2
      rw [hx] at h2
      refine ⟨?_, fun z hz2 => ?_⟩
      · have := sized_slice hs h1 h2 ht
        rw [hb] at this
        simp only [strs, List.length_map, List.length_take, List.length_drop, reachBytes] at this
        rw [hlen]; omega
      · have hmem := DataW.weights_mem_each (P := P) h1 h2 z.size (by
          simp only [DataW.weights, ht, List.mem_cons, List.mem_append]
          exact .inr (.inl (weightsAll_strs z _ hz2)))
        have := List.all_eq_true.1 hs _ hmem
        unfold reachBytes at this
        exact of_decide_eq_true this
end
section
variable {H : Type} {enc : TypeId × Value → H} {W : World} {v : Value} {d : DataW H} {ps : List MemPlace}
theorem arg_frontier {r : Reach} {b0 : Nat} (hv : Value.okWide Try.prog W r b0 24 v) (h : DataW.Trod enc Try.prog W 0 (fun _ => true) true 24 v d ps) :
    ∃ (lo hi : Int) (ho : Option Addr) (hs : List ByteArray) (hcap : Nat),
      v = .agg #[.int .i64 lo, .int .i64 hi, .slice ho hs.length hcap] ∧
      RowAt W ho (strs' hs) ∧ (ho = none → hs.length = 0 ∧ hcap = 0) ∧ hs.length ≤ hcap ∧ (-9223372036854775808 ≤ lo ∧ lo ≤ 9223372036854775807) ∧ (-9223372036854775808 ≤ hi ∧ hi ≤ 9223372036854775807) ∧
      ∀ (ts : List TypeId) (ds : List (DataW H)) (j : Nat), (DataW.weightsEach Try.prog ts ds).all (· ≤ reachBytes) = true → ts[j]? = some 24 → ds[j]? = some d → hs.length * 16 ≤ 140737488351232 ∧ ∀ x ∈ hs, x.size ≤ 140737488351232 := by
  obtain ⟨v0, v1, v2, y0, y1, y2, n, rfl, rfl, _, t0, t1, t2⟩ := open_agg3 Try.underlying24 (by kernel_rfl) (by kernel_rfl) hv h
  obtain ⟨lo, rfl, bl⟩ := fld_int Try.underlying3 t0
  obtain ⟨hi, rfl, bh⟩ := fld_int Try.underlying3 t1
  obtain ⟨ho, hs, hcap, rfl, r6, n6, c6, z6⟩ := fld_strs Try.underlying22 Try.underlying9 (by kernel_rfl) (by kernel_rfl) t2
  refine ⟨lo, hi, ho, hs, hcap, rfl, r6, n6, c6, bl, bh, fun ts ds j hs1 h1 h2 => ?_⟩
  have hst := sized_struct hs1 h1 h2 Try.underlying24
  exact z6 _ _ 2 hst rfl rfl
end
end Go.Proofs.Ytpdjiflbidjcbaa
