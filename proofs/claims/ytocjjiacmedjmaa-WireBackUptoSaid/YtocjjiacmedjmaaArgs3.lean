/- Structs that came in by value, opened: a proof; a compact range. -/
import Derived.Test.YtocjjiacmedjmaaArgs2
import Derived.Lib.SmallJoins
import Derived.Deep.Fields
set_option maxRecDepth 100000
namespace Go.Proofs.Ytocjjiacmedjmaa
open Go Go.Joins Go.ChangeShapes Go.WideShapes Go.ChangeAt Go.RowKit Go.Deep
section
variable {H : Type} {enc : TypeId × Value → H} {P : Program} {w : World} {base : Nat} {spare : Nat → Bool} {held : Bool}
theorem open_agg7 {r : Reach} {b0 : Nat} {t : TypeId} {f0 f1 f2 f3 f4 f5 f6 : Field} {v : Value} {d : DataW H} {p : List MemPlace} (hs : P.underlying t = some (.struct #[f0, f1, f2, f3, f4, f5, f6])) (hone : oneCellFields P #[f0, f1, f2, f3, f4, f5, f6] = true) (hC : P.cellsOf t = 7)
    (hv : Value.okWide P w r b0 t v) (h : DataW.Trod enc P w base spare held t v d p) :
    ∃ (v0 v1 v2 v3 v4 v5 v6 : Value) (y0 y1 y2 y3 y4 y5 y6 : DataW H × List MemPlace) (n : Nat), v = .agg #[v0, v1, v2, v3, v4, v5, v6] ∧ d = .agg [y0.1, y1.1, y2.1, y3.1, y4.1, y5.1, y6.1] ∧
      DataW.trod enc P w base spare held n f0.type [v0] = some y0 ∧ DataW.trod enc P w base spare held n f1.type [v1] = some y1 ∧ DataW.trod enc P w base spare held n f2.type [v2] = some y2 ∧ DataW.trod enc P w base spare held n f3.type [v3] = some y3 ∧ DataW.trod enc P w base spare held n f4.type [v4] = some y4 ∧ DataW.trod enc P w base spare held n f5.type [v5] = some y5 ∧ DataW.trod enc P w base spare held n f6.type [v6] = some y6 := by
  obtain ⟨cs, rfl, hsz⟩ := okWide_struct hs hv
  obtain ⟨l⟩ := cs
  match l, hsz.trans hC with
  | [c0, c1, c2, c3, c4, c5, c6], _ =>
    obtain ⟨fuel, hf⟩ := h
    obtain ⟨xs, n, _, hx, _, hlen, hg⟩ := DataW.trod_struct hs hf
    obtain ⟨o0, k0⟩ := hone_of hone 0 f0 rfl
    obtain ⟨o1, k1⟩ := hone_of hone 1 f1 rfl
    obtain ⟨o2, k2⟩ := hone_of hone 2 f2 rfl
    obtain ⟨o3, k3⟩ := hone_of hone 3 f3 rfl
    obtain ⟨o4, k4⟩ := hone_of hone 4 f4 rfl
    obtain ⟨o5, k5⟩ := hone_of hone 5 f5 rfl
    obtain ⟨o6, k6⟩ := hone_of hone 6 f6 rfl
    match xs, hlen with
    | [y0, y1, y2, y3, y4, y5, y6], _ =>
      simp only [Prod.mk.injEq] at hx
      exact ⟨c0, c1, c2, c3, c4, c5, c6, y0, y1, y2, y3, y4, y5, y6, n, rfl, by simpa using hx.1, by simpa [Value.cells, o0, k0] using hg 0 f0 rfl, by simpa [Value.cells, o1, k1] using hg 1 f1 rfl, by simpa [Value.cells, o2, k2] using hg 2 f2 rfl, by simpa [Value.cells, o3, k3] using hg 3 f3 rfl, by simpa [Value.cells, o4, k4] using hg 4 f4 rfl, by simpa [Value.cells, o5, k5] using hg 5 f5 rfl, by simpa [Value.cells, o6, k6] using hg 6 f6 rfl⟩
theorem open_agg3' {r : Reach} {b0 : Nat} {t : TypeId} {f0 f1 f2 : Field} {v : Value} {d : DataW H} {p : List MemPlace} (hs : P.underlying t = some (.struct #[f0, f1, f2])) (hone : oneCellFields P #[f0, f1, f2] = true) (hC : P.cellsOf t = 3)
    (hv : Value.okWide P w r b0 t v) (h : DataW.Trod enc P w base spare held t v d p) :
    ∃ (v0 v1 v2 : Value) (y0 y1 y2 : DataW H × List MemPlace) (n : Nat), v = .agg #[v0, v1, v2] ∧ d = .agg [y0.1, y1.1, y2.1] ∧
      DataW.trod enc P w base spare held n f0.type [v0] = some y0 ∧ DataW.trod enc P w base spare held n f1.type [v1] = some y1 ∧ DataW.trod enc P w base spare held n f2.type [v2] = some y2 := by
  obtain ⟨v0, v1, v2, y0, y1, y2, n, hv', hd', _, h0, h1, h2⟩ := open_agg3 hs hone hC hv h
  exact ⟨v0, v1, v2, y0, y1, y2, n, hv', hd', h0, h1, h2⟩
theorem sized_struct {ts : List TypeId} {ds : List (DataW H)} (h : (DataW.weightsEach P ts ds).all (· ≤ reachBytes) = true) {j : Nat} {t : TypeId} {fs : Array Field} {parts : List (DataW H)} (ht : ts[j]? = some t) (hd : ds[j]? = some (.agg parts)) (hu : P.underlying t = some (.struct fs)) :
    (DataW.weightsEach P (fs.toList.map (·.type)) parts).all (· ≤ reachBytes) = true := by
  rw [List.all_eq_true] at h ⊢
  intro n hn
  refine h n (DataW.weights_mem_each ht hd n ?_)
  simp only [DataW.weights, hu]
  exact hn
end
section
variable {H : Type} {enc : TypeId × Value → H} {P : Program} {W : World} {t e : TypeId} {v : Value} {n : Nat} {y : DataW H × List MemPlace}
theorem fld_int (ht : P.underlying t = some (.int .i64)) (h : DataW.trod enc P W 0 (fun _ => true) true n t [v] = some y) : ∃ x : Int, v = .int .i64 x ∧ -9223372036854775808 ≤ x ∧ x ≤ 9223372036854775807 := by
  obtain ⟨x, hx, _, hw⟩ := DataW.trod_int ht h
  simp at hx
  exact ⟨x, hx, int_bounds hw⟩
theorem fld_ints (ht : P.underlying t = some (.slice e)) (he : P.underlying e = some (.int .i64)) (hc : P.cellsOf e = 1) (hb : P.bytesOf e = 8)
    (hf : DataW.trod enc P W 0 (fun _ => true) true n t [v] = some y) :
    ∃ ao xs cap, v = .slice ao xs.length cap ∧ RowAt W ao (ints xs) ∧ (ao = none → xs.length = 0 ∧ cap = 0) ∧ xs.length ≤ cap ∧ (∀ x ∈ xs, -9223372036854775808 ≤ x ∧ x ≤ 9223372036854775807) ∧
      ∀ (ts : List TypeId) (ds : List (DataW H)) (j : Nat), (DataW.weightsEach P ts ds).all (· ≤ reachBytes) = true → ts[j]? = some t → ds[j]? = some y.1 → xs.length * 8 ≤ 140737488351232 := by
  rcases open_ints ht he hc hf with ⟨hcs, _⟩ | ⟨x, len, cap, zs, hcs, _, hl, hm, hz, hx, hcell, hwz⟩
  · simp at hcs
    subst hcs
    exact ⟨none, [], 0, rfl, .inl rfl, fun _ => ⟨rfl, rfl⟩, Nat.le_refl _, by simp, fun _ _ _ _ _ _ => by simp⟩
  · simp at hcs
    subst hcs
    simp only [if_true] at hz
    have hlen : (zs.take len).length = len := by rw [List.length_take]; omega
    refine ⟨some x, zs.take len, cap, by rw [hlen], ?_, fun h => (by cases h), by rw [hlen]; exact hl, fun y hy => int_bounds (hwz y (List.mem_of_mem_take hy)), ?_⟩
    · refine row_of (n := len) (by rw [ints_length, hlen]) (fun i hi => ?_)
      rw [ints_length, hlen] at hi
      rw [hcell i (by omega), ints_get _ _ (by rw [hlen]; exact hi), List.getElem_take, List.getD_eq_getElem?_getD, List.getElem?_eq_getElem (by omega), Option.getD_some]
    · intro ts ds j hs h1 h2
      rw [hx] at h2
      have := sized_slice hs h1 h2 ht
      rw [hb] at this
      simp only [lits, List.length_map, List.length_take, List.length_drop, reachBytes] at this
      rw [hlen]; omega
theorem fld_strs (ht : P.underlying t = some (.slice e)) (he : P.underlying e = some .string) (hc : P.cellsOf e = 1) (hb : P.bytesOf e = 16)
    (hf : DataW.trod enc P W 0 (fun _ => true) true n t [v] = some y) :
    ∃ ao xs cap, v = .slice ao xs.length cap ∧ RowAt W ao (strs' xs) ∧ (ao = none → xs.length = 0 ∧ cap = 0) ∧ xs.length ≤ cap ∧
      ∀ (ts : List TypeId) (ds : List (DataW H)) (j : Nat), (DataW.weightsEach P ts ds).all (· ≤ reachBytes) = true → ts[j]? = some t → ds[j]? = some y.1 → xs.length * 16 ≤ 140737488351232 ∧ ∀ x ∈ xs, x.size ≤ 140737488351232 := by
  rcases open_strings ht he hc hf with ⟨hcs, _⟩ | ⟨x, len, cap, zs, hcs, _, hl, hm, hz, hx, hcell, hwz⟩
  · simp at hcs
    subst hcs
    exact ⟨none, [], 0, rfl, .inl rfl, fun _ => ⟨rfl, rfl⟩, Nat.le_refl _, fun _ _ _ _ _ _ => by simp⟩
  · simp at hcs
    subst hcs
    simp only [if_true] at hz
    have hlen : (zs.take len).length = len := by rw [List.length_take]; omega
    refine ⟨some x, zs.take len, cap, by rw [hlen], ?_, fun h => (by cases h), by rw [hlen]; exact hl, ?_⟩
    · refine row_of (n := len) (by rw [strs'_length, hlen]) (fun i hi => ?_)
      rw [strs'_length, hlen] at hi
      rw [hcell i (by omega)]
      simp only [strs', List.getElem_map, List.getElem_take]
      rw [List.getD_eq_getElem?_getD, List.getElem?_eq_getElem (by omega)]; rfl
    · intro ts ds j hs h1 h2
      rw [hx] at h2
      refine ⟨?_, fun z hz2 => ?_⟩
      · have := sized_slice hs h1 h2 ht
        rw [hb] at this
        simp only [strs, List.length_map, List.length_take, List.length_drop, reachBytes] at this
        rw [hlen]; omega
      · have hmem := DataW.weights_mem_each (P := P) h1 h2 z.size (by
          simp only [DataW.weights, ht, List.mem_cons, List.mem_append]
          exact .inr (.inl (weightsAll_strs z _ hz2)))
        have := List.all_eq_true.1 hs _ hmem
        unfold reachBytes at this
        exact of_decide_eq_true this
end
section
variable {H : Type} {enc : TypeId × Value → H} {W : World} {v : Value} {d : DataW H} {ps : List MemPlace}
/-- A proof that came in by value. -/
theorem arg_proof {r : Reach} {b0 : Nat} (hv : Value.okWide Try.prog W r b0 25 v) (h : DataW.Trod enc Try.prog W 0 (fun _ => true) true 25 v d ps) :
    ∃ (k wd a b n : Int) (ao : Option Addr) (xs : List Int) (cap : Nat) (ho : Option Addr) (hs : List ByteArray) (hcap : Nat),
      v = .agg #[.int .i64 k, .int .i64 wd, .int .i64 a, .int .i64 b, .int .i64 n, .slice ao xs.length cap, .slice ho hs.length hcap] ∧
      RowAt W ao (ints xs) ∧ (ao = none → xs.length = 0 ∧ cap = 0) ∧ RowAt W ho (strs' hs) ∧ (ho = none → hs.length = 0 ∧ hcap = 0) ∧ hs.length ≤ hcap ∧
      ((-9223372036854775808 ≤ k ∧ k ≤ 9223372036854775807) ∧ (-9223372036854775808 ≤ wd ∧ wd ≤ 9223372036854775807) ∧ (-9223372036854775808 ≤ a ∧ a ≤ 9223372036854775807) ∧ (-9223372036854775808 ≤ b ∧ b ≤ 9223372036854775807) ∧ (-9223372036854775808 ≤ n ∧ n ≤ 9223372036854775807)) ∧
      (∀ x ∈ xs, -9223372036854775808 ≤ x ∧ x ≤ 9223372036854775807) ∧
      ∀ (ts : List TypeId) (ds : List (DataW H)) (j : Nat), (DataW.weightsEach Try.prog ts ds).all (· ≤ reachBytes) = true → ts[j]? = some 25 → ds[j]? = some d → xs.length * 8 ≤ 140737488351232 ∧ hs.length * 16 ≤ 140737488351232 ∧ ∀ x ∈ hs, x.size ≤ 140737488351232 := by
  obtain ⟨v0, v1, v2, v3, v4, v5, v6, y0, y1, y2, y3, y4, y5, y6, n, rfl, rfl, t0, t1, t2, t3, t4, t5, t6⟩ := open_agg7 Try.underlying25 (by kernel_rfl) (by kernel_rfl) hv h
  obtain ⟨k, rfl, bk⟩ := fld_int Try.underlying3 t0
  obtain ⟨wd, rfl, bwd⟩ := fld_int Try.underlying3 t1
  obtain ⟨a, rfl, ba⟩ := fld_int Try.underlying3 t2
  obtain ⟨b, rfl, bb⟩ := fld_int Try.underlying3 t3
  obtain ⟨m, rfl, bm⟩ := fld_int Try.underlying3 t4
  obtain ⟨ao, xs, cap, rfl, r5, n5, c5, w5, z5⟩ := fld_ints Try.underlying22 Try.underlying3 (by kernel_rfl) (by kernel_rfl) t5
  obtain ⟨ho, hs, hcap, rfl, r6, n6, c6, z6⟩ := fld_strs Try.underlying23 Try.underlying9 (by kernel_rfl) (by kernel_rfl) t6
  refine ⟨k, wd, a, b, m, ao, xs, cap, ho, hs, hcap, rfl, r5, n5, r6, n6, c6, ⟨bk, bwd, ba, bb, bm⟩, w5, fun ts ds j hs1 h1 h2 => ?_⟩
  have hst := sized_struct hs1 h1 h2 Try.underlying25
  exact ⟨z5 _ _ 5 hst rfl rfl, z6 _ _ 6 hst rfl rfl⟩
end
end Go.Proofs.Ytocjjiacmedjmaa
