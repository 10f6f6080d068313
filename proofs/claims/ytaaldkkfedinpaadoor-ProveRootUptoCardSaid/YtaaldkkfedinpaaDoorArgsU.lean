/- Arguments of small bulk, opened: an address, a list of texts. -/
import Derived.Test.YtaaldkkfedinpaaDoorArgs
import Derived.Test.YtaaldkkfedinpaaDoorRows
import Derived.Lib.SmallJoins
import Derived.Deep.Fields
set_option maxRecDepth 100000
namespace Go.Proofs.YtaaldkkfedinpaaDoor
open Go Go.Joins Go.ChangeShapes Go.WideShapes Go.ChangeAt Go.RowKit Go.Deep
section
variable {H : Type} {enc : TypeId × Value → H} {P : Program} {W : World} {t : TypeId} {v : Value} {n : Nat} {y : DataW H × List MemPlace}
theorem fld_int (ht : P.underlying t = some (.int .i64)) (h : DataW.trod enc P W 0 (fun _ => true) true n t [v] = some y) : ∃ x : Int, v = .int .i64 x ∧ -9223372036854775808 ≤ x ∧ x ≤ 9223372036854775807 := by
  obtain ⟨x, hx, _, hw⟩ := DataW.trod_int ht h
  simp at hx
  exact ⟨x, hx, int_bounds hw⟩
end
section
variable {H : Type} {enc : TypeId × Value → H} {W : World} {v : Value} {d : DataW H} {ps : List MemPlace}
theorem arg_addr {r : Reach} {b0 : Nat} (hv : Value.okWide Tryd.prog W r b0 84 v) (h : DataW.Trod enc Tryd.prog W 0 (fun _ => true) true 84 v d ps) :
    ∃ (a b : Int), v = .agg #[.int .i64 a, .int .i64 b] ∧ (-9223372036854775808 ≤ a ∧ a ≤ 9223372036854775807) ∧ (-9223372036854775808 ≤ b ∧ b ≤ 9223372036854775807) := by
  obtain ⟨v0, v1, y0, y1, n, rfl, rfl, _, t0, t1⟩ := open_agg2 Tryd.underlying84 (by kernel_rfl) (by kernel_rfl) hv h
  obtain ⟨a, rfl, ba⟩ := fld_int Tryd.underlying3 t0
  obtain ⟨b, rfl, bb⟩ := fld_int Tryd.underlying3 t1
  exact ⟨a, b, rfl, ba, bb⟩
theorem bulk_strs (l : List ByteArray) : l.length ≤ Rows.uptoBulkAll (H := H) (strs l) ∧ ∀ x ∈ l, x.size ≤ Rows.uptoBulkAll (H := H) (strs l) := by
  induction l with
  | nil => simp
  | cons y l ih =>
    have e : Rows.uptoBulkAll (H := H) (strs (y :: l)) = (y.data.toList.length + 1) + Rows.uptoBulkAll (H := H) (strs l) := by
      show Rows.uptoBulkAll (.lit (.string y.data.toList) :: strs l) = _
      simp only [Rows.uptoBulkAll, Rows.uptoBulk]
    have hy : y.data.toList.length = y.size := Array.length_toList
    rw [e]
    refine ⟨by simp only [List.length_cons]; omega, fun x hx => ?_⟩
    rcases List.mem_cons.1 hx with rfl | hx
    · omega
    · have := ih.2 x hx; omega
theorem bulk_at {ds : List (DataW H)} {j : Nat} {d : DataW H} (h : ds[j]? = some d) : Rows.uptoBulk d ≤ Rows.uptoBulkAll ds := by
  induction ds generalizing j with
  | nil => simp at h
  | cons a ds ih =>
    simp only [Rows.uptoBulkAll]
    cases j with
    | zero => simp at h; subst h; omega
    | succ j => have := ih (j := j) (by simpa using h); omega
theorem bulk_of {ds : List (DataW H)} {j : Nat} {d : DataW H} (h : Rows.uptoSmall H ds = true) (hj : ds[j]? = some d) : Rows.uptoBulk d ≤ 1048576 := by
  have h1 := bulk_at hj
  unfold Rows.uptoSmall at h
  have := of_decide_eq_true h
  omega
theorem arg_strsU {P : Program} {t e : TypeId} (ht : P.underlying t = some (.slice e)) (he : P.underlying e = some .string) (hc : P.cellsOf e = 1) {r : Reach} {b0 : Nat} (hval : Value.okWide P W r b0 t v)
    (h : DataW.Trod enc P W 0 (fun _ => true) true t v d ps) :
    ∃ ao xs cap, v = .slice ao xs.length cap ∧ RowAt W ao (strs' xs) ∧ (ao = none → xs.length = 0 ∧ cap = 0) ∧ xs.length ≤ cap ∧ xs.length ≤ Rows.uptoBulk d ∧ ∀ x ∈ xs, x.size ≤ Rows.uptoBulk d := by
  obtain ⟨a, len, cap, rfl⟩ := okWide_slice ht hval
  obtain ⟨fuel, hf⟩ := h
  rcases open_strings ht he hc hf with ⟨hcs, _⟩ | ⟨x, l, c, zs, hcs, _, hl, hm, hz, hx, hcell, hwz⟩
  · simp [Value.cells] at hcs
    obtain ⟨rfl, rfl, rfl⟩ := hcs
    exact ⟨none, [], 0, rfl, .inl rfl, fun _ => ⟨rfl, rfl⟩, Nat.le_refl _, by simp, by simp⟩
  · simp [Value.cells] at hcs
    obtain ⟨rfl, rfl, rfl⟩ := hcs
    simp only [if_true] at hz
    have hlen : (zs.take len).length = len := by rw [List.length_take]; omega
    have hb : Rows.uptoBulkAll (H := H) (strs (zs.take len)) ≤ Rows.uptoBulk d := by
      simp only [Prod.mk.injEq] at hx
      rw [hx.1]
      simp only [Rows.uptoBulk]
      omega
    have hs := bulk_strs (H := H) (zs.take len)
    refine ⟨some x, zs.take len, cap, by rw [hlen], ?_, fun h => (by cases h), by rw [hlen]; exact hl, Nat.le_trans hs.1 hb, fun z hz2 => Nat.le_trans (hs.2 z hz2) hb⟩
    refine row_of (n := len) (by rw [strs'_length, hlen]) (fun i hi => ?_)
    rw [strs'_length, hlen] at hi
    rw [hcell i (by omega)]
    simp only [strs', List.getElem_map, List.getElem_take]
    rw [List.getD_eq_getElem?_getD, List.getElem?_eq_getElem (by omega)]; rfl
end
end Go.Proofs.YtaaldkkfedinpaaDoor
