/- A source that came in by value, of small bulk, opened. -/
import Derived.Test.YtaaldkkfedinpaaDoorArgs
import Derived.Test.YtaaldkkfedinpaaDoorRows
import Derived.Lib.SmallJoins
import Derived.Deep.Fields
set_option maxRecDepth 100000
namespace Go.Proofs.YtaaldkkfedinpaaDoor
open Go Go.Joins Go.ChangeShapes Go.WideShapes Go.ChangeAt Go.RowKit Go.Deep
section
variable {H : Type} {enc : TypeId × Value → H} {P : Program} {W : World} {t : TypeId} {v : Value} {n : Nat} {y : DataW H × List MemPlace}
theorem fld_int (ht : P.underlying t = some (.int .i64)) (h : DataW.trod enc P W 0 (fun _ => true) true n t [v] = some y) : ∃ x : Int, v = .int .i64 x ∧ -9223372036854775808 ≤ x ∧ x ≤ 9223372036854775807 := by
  obtain ⟨x, hx, _, hw⟩ := DataW.trod_int ht h
  simp at hx
  exact ⟨x, hx, int_bounds hw⟩
end
section
variable {H : Type} {enc : TypeId × Value → H} {W : World} {v : Value} {d : DataW H} {ps : List MemPlace}
theorem arg_addr {r : Reach} {b0 : Nat} (hv : Value.okWide Tryd.prog W r b0 84 v) (h : DataW.Trod enc Tryd.prog W 0 (fun _ => true) true 84 v d ps) :
    ∃ (a b : Int), v = .agg #[.int .i64 a, .int .i64 b] ∧ (-9223372036854775808 ≤ a ∧ a ≤ 9223372036854775807) ∧ (-9223372036854775808 ≤ b ∧ b ≤ 9223372036854775807) := by
  obtain ⟨v0, v1, y0, y1, n, rfl, rfl, _, t0, t1⟩ := open_agg2 Tryd.underlying84 (by kernel_rfl) (by kernel_rfl) hv h
  obtain ⟨a, rfl, ba⟩ := fld_int Tryd.underlying3 t0
  obtain ⟨b, rfl, bb⟩ := fld_int Tryd.underlying3 t1
  exact ⟨a, b, rfl, ba, bb⟩
theorem bulk_strs (l : List ByteArray) : l.length ≤ Rows.uptoBulkAll (H := H) (strs l) ∧ ∀ x ∈ l, x.size ≤ Rows.uptoBulkAll (H := H) (strs l) := by
  induction l with
  | nil => simp
  | cons y l ih =>
    have e : Rows.uptoBulkAll (H := H) (strs (y :: l)) = (y.data.toList.length + 1) + Rows.uptoBulkAll (H := H) (strs l) := by
      show Rows.uptoBulkAll (.lit (.string y.data.toList) :: strs l) = _
      simp only [Rows.uptoBulkAll, Rows.uptoBulk]
    have hy : y.data.toList.length = y.size := Array.length_toList
    rw [e]
    refine ⟨by simp only [List.length_cons]; omega, fun x hx => ?_⟩
    rcases List.mem_cons.1 hx with rfl | hx
    · omega
    · have := ih.2 x hx; omega
theorem bulk_at {ds : List (DataW H)} {j : Nat} {d : DataW H} (h : ds[j]? = some d) : Rows.uptoBulk d ≤ Rows.uptoBulkAll ds := by
  induction ds generalizing j with
  | nil => simp at h
  | cons a ds ih =>
    simp only [Rows.uptoBulkAll]
    cases j with
    | zero => simp at h; subst h; omega
    | succ j => have := ih (j := j) (by simpa using h); omega
theorem bulk_of {ds : List (DataW H)} {j : Nat} {d : DataW H} (h : Rows.uptoSmall H ds = true) (hj : ds[j]? = some d) : Rows.uptoBulk d ≤ 1048576 := by
  have h1 := bulk_at hj
  unfold Rows.uptoSmall at h
  have := of_decide_eq_true h
  omega
theorem arg_strsU {P : Program} {t e : TypeId} (ht : P.underlying t = some (.slice e)) (he : P.underlying e = some .string) (hc : P.cellsOf e = 1) {r : Reach} {b0 : Nat} (hval : Value.okWide P W r b0 t v)
    (h : DataW.Trod enc P W 0 (fun _ => true) true t v d ps) :
    ∃ ao xs cap, v = .slice ao xs.length cap ∧ RowAt W ao (strs' xs) ∧ (ao = none → xs.length = 0 ∧ cap = 0) ∧ xs.length ≤ cap ∧ xs.length ≤ Rows.uptoBulk d ∧ ∀ x ∈ xs, x.size ≤ Rows.uptoBulk d := by
  obtain ⟨a, len, cap, rfl⟩ := okWide_slice ht hval
  obtain ⟨fuel, hf⟩ := h
  rcases open_strings ht he hc hf with ⟨hcs, _⟩ | ⟨x, l, c, zs, hcs, _, hl, hm, hz, hx, hcell, hwz⟩
  · simp [Value.cells] at hcs
    obtain ⟨rfl, rfl, rfl⟩ := hcs
    exact ⟨none, [], 0, rfl, .inl rfl, fun _ => ⟨rfl, rfl⟩, Nat.le_refl _, by simp, by simp⟩
  · simp [Value.cells] at hcs
    obtain ⟨rfl, rfl, rfl⟩ := hcs
    simp only [if_true] at hz
    have hlen : (zs.take len).length = len := by rw [List.length_take]; omega
    have hb : Rows.uptoBulkAll (H := H) (strs (zs.take len)) ≤ Rows.uptoBulk d := by
      simp only [Prod.mk.injEq] at hx
      rw [hx.1]
      simp only [Rows.uptoBulk]
      omega
    have hs := bulk_strs (H := H) (zs.take len)
    refine ⟨some x, zs.take len, cap, by rw [hlen], ?_, fun h => (by cases h), by rw [hlen]; exact hl, Nat.le_trans hs.1 hb, fun z hz2 => Nat.le_trans (hs.2 z hz2) hb⟩
    refine row_of (n := len) (by rw [strs'_length, hlen]) (fun i hi => ?_)
    rw [strs'_length, hlen] at hi
    rw [hcell i (by omega)]
    simp only [strs', List.getElem_map, List.getElem_take]
    rw [List.getD_eq_getElem?_getD, List.getElem?_eq_getElem (by omega)]; rfl
end
end Go.Proofs.YtaaldkkfedinpaaDoor
set_option maxRecDepth 100000
namespace Go.Proofs.YtaaldkkfedinpaaDoor
open Go Go.Joins Go.ChangeShapes Go.WideShapes Go.ChangeAt Go.RowKit Go.Deep
section
variable {H : Type} {enc : TypeId × Value → H} {P : Program} {w : World} {base : Nat} {spare : Nat → Bool} {held : Bool}
theorem open_agg7 {r : Reach} {b0 : Nat} {t : TypeId} {f0 f1 f2 f3 f4 f5 f6 : Field} {v : Value} {d : DataW H} {p : List MemPlace} (hs : P.underlying t = some (.struct #[f0, f1, f2, f3, f4, f5, f6])) (hone : oneCellFields P #[f0, f1, f2, f3, f4, f5, f6] = true) (hC : P.cellsOf t = 7)
    (hv : Value.okWide P w r b0 t v) (h : DataW.Trod enc P w base spare held t v d p) :
    ∃ (v0 v1 v2 v3 v4 v5 v6 : Value) (y0 y1 y2 y3 y4 y5 y6 : DataW H × List MemPlace) (n : Nat), v = .agg #[v0, v1, v2, v3, v4, v5, v6] ∧ d = .agg [y0.1, y1.1, y2.1, y3.1, y4.1, y5.1, y6.1] ∧
      DataW.trod enc P w base spare held n f0.type [v0] = some y0 ∧ DataW.trod enc P w base spare held n f1.type [v1] = some y1 ∧ DataW.trod enc P w base spare held n f2.type [v2] = some y2 ∧ DataW.trod enc P w base spare held n f3.type [v3] = some y3 ∧ DataW.trod enc P w base spare held n f4.type [v4] = some y4 ∧ DataW.trod enc P w base spare held n f5.type [v5] = some y5 ∧ DataW.trod enc P w base spare held n f6.type [v6] = some y6 := by
  obtain ⟨cs, rfl, hsz⟩ := okWide_struct hs hv
  obtain ⟨l⟩ := cs
  match l, hsz.trans hC with
  | [c0, c1, c2, c3, c4, c5, c6], _ =>
    obtain ⟨fuel, hf⟩ := h
    obtain ⟨xs, n, _, hx, _, hlen, hg⟩ := DataW.trod_struct hs hf
    obtain ⟨o0, k0⟩ := hone_of hone 0 f0 rfl
    obtain ⟨o1, k1⟩ := hone_of hone 1 f1 rfl
    obtain ⟨o2, k2⟩ := hone_of hone 2 f2 rfl
    obtain ⟨o3, k3⟩ := hone_of hone 3 f3 rfl
    obtain ⟨o4, k4⟩ := hone_of hone 4 f4 rfl
    obtain ⟨o5, k5⟩ := hone_of hone 5 f5 rfl
    obtain ⟨o6, k6⟩ := hone_of hone 6 f6 rfl
    match xs, hlen with
    | [y0, y1, y2, y3, y4, y5, y6], _ =>
      simp only [Prod.mk.injEq] at hx
      exact ⟨c0, c1, c2, c3, c4, c5, c6, y0, y1, y2, y3, y4, y5, y6, n, rfl, by simpa using hx.1, by simpa [Value.cells, o0, k0] using hg 0 f0 rfl, by simpa [Value.cells, o1, k1] using hg 1 f1 rfl, by simpa [Value.cells, o2, k2] using hg 2 f2 rfl, by simpa [Value.cells, o3, k3] using hg 3 f3 rfl, by simpa [Value.cells, o4, k4] using hg 4 f4 rfl, by simpa [Value.cells, o5, k5] using hg 5 f5 rfl, by simpa [Value.cells, o6, k6] using hg 6 f6 rfl⟩
end
section
variable {H : Type} {enc : TypeId × Value → H} {P : Program} {W : World} {t e : TypeId} {v : Value} {n : Nat} {y : DataW H × List MemPlace}
theorem fld_bool (ht : P.underlying t = some .bool) (h : DataW.trod enc P W 0 (fun _ => true) true n t [v] = some y) : ∃ b : Bool, v = .bool b := by
  obtain ⟨b, hx, _⟩ := DataW.trod_bool ht h
  simp at hx
  exact ⟨b, hx⟩
theorem fld_slice (ht : P.underlying t = some (.slice e)) (h : DataW.trod enc P W 0 (fun _ => true) true n t [v] = some y) : ∃ ao len cap, v = .slice ao len cap := by
  rcases DataW.trod_slice ht h with h0 | ⟨a, len, cap, elems, rest, n, _, hcs, _⟩
  · obtain ⟨h1, _⟩ := h0
    simp at h1
    exact ⟨_, _, _, h1⟩
  · simp at hcs
    exact ⟨_, _, _, hcs⟩
theorem fld_strsU (ht : P.underlying t = some (.slice e)) (he : P.underlying e = some .string) (hc : P.cellsOf e = 1) (hf : DataW.trod enc P W 0 (fun _ => true) true n t [v] = some y) :
    ∃ ao xs cap, v = .slice ao xs.length cap ∧ RowAt W ao (strs' xs) ∧ (ao = none → xs.length = 0 ∧ cap = 0) ∧ xs.length ≤ Rows.uptoBulk y.1 ∧ ∀ x ∈ xs, x.size ≤ Rows.uptoBulk y.1 := by
  rcases open_strings ht he hc hf with ⟨hcs, _⟩ | ⟨x, len, cap, zs, hcs, _, hl, hm, hz, hx, hcell, hwz⟩
  · simp at hcs
    subst hcs
    exact ⟨none, [], 0, rfl, .inl rfl, fun _ => ⟨rfl, rfl⟩, by simp, by simp⟩
  · simp at hcs
    subst hcs
    simp only [if_true] at hz
    have hlen : (zs.take len).length = len := by rw [List.length_take]; omega
    have hb : Rows.uptoBulkAll (H := H) (strs (zs.take len)) ≤ Rows.uptoBulk y.1 := by
      rw [hx]
      simp only [Rows.uptoBulk]
      omega
    have hs := bulk_strs (H := H) (zs.take len)
    refine ⟨some x, zs.take len, cap, by rw [hlen], ?_, fun h => (by cases h), Nat.le_trans hs.1 hb, fun z hz2 => Nat.le_trans (hs.2 z hz2) hb⟩
    refine row_of (n := len) (by rw [strs'_length, hlen]) (fun i hi => ?_)
    rw [strs'_length, hlen] at hi
    rw [hcell i (by omega)]
    simp only [strs', List.getElem_map, List.getElem_take]
    rw [List.getD_eq_getElem?_getD, List.getElem?_eq_getElem (by omega)]; rfl
end
section
variable {H : Type} {enc : TypeId × Value → H} {W : World} {v : Value} {d : DataW H} {ps : List MemPlace}
theorem arg_source {r : Reach} {b0 : Nat} (hv : Value.okWide Tryd.prog W r b0 39 v) (h : DataW.Trod enc Tryd.prog W 0 (fun _ => true) true 39 v d ps) :
    ∃ (k size : Int) (ao : Option Addr) (hs : List ByteArray) (cap : Nat) (made : Bool) (fails code : Int) (qo : Option Addr) (qn qc : Nat),
      v = .agg #[.int .i64 k, .int .i64 size, .slice ao hs.length cap, .bool made, .int .i64 fails, .int .i64 code, .slice qo qn qc] ∧ RowAt W ao (strs' hs) ∧ (ao = none → hs.length = 0 ∧ cap = 0) ∧ hs.length ≤ Rows.uptoBulk d ∧ ∀ x ∈ hs, x.size ≤ Rows.uptoBulk d := by
  obtain ⟨v0, v1, v2, v3, v4, v5, v6, y0, y1, y2, y3, y4, y5, y6, n, rfl, rfl, t0, t1, t2, t3, t4, t5, t6⟩ := open_agg7 Tryd.underlying39 (by kernel_rfl) (by kernel_rfl) hv h
  obtain ⟨k, rfl, _⟩ := fld_int Tryd.underlying3 t0
  obtain ⟨size, rfl, _⟩ := fld_int Tryd.underlying3 t1
  obtain ⟨ao, hs, cap, rfl, r2, n2, l2, z2⟩ := fld_strsU Tryd.underlying36 Tryd.underlying9 (by kernel_rfl) t2
  obtain ⟨made, rfl⟩ := fld_bool Tryd.underlying4 t3
  obtain ⟨fails, rfl, _⟩ := fld_int Tryd.underlying3 t4
  obtain ⟨code, rfl, _⟩ := fld_int Tryd.underlying3 t5
  obtain ⟨qo, qn, qc, rfl⟩ := fld_slice Tryd.underlying37 t6
  have hb : Rows.uptoBulk y2.1 ≤ Rows.uptoBulk (.agg [y0.1, y1.1, y2.1, y3.1, y4.1, y5.1, y6.1]) := by
    simp only [Rows.uptoBulk, Rows.uptoBulkAll]
    omega
  exact ⟨k, size, ao, hs, cap, made, fails, code, qo, qn, qc, rfl, r2, n2, Nat.le_trans l2 hb, fun x hx => Nat.le_trans (z2 x hx) hb⟩
theorem arg_tile {r : Reach} {b0 : Nat} (hv : Value.okWide Tryd.prog W r b0 23 v) (h : DataW.Trod enc Tryd.prog W 0 (fun _ => true) true 23 v d ps) :
    ∃ (a b c e : Int), v = .agg #[.int .i64 a, .int .i64 b, .int .i64 c, .int .i64 e] ∧
      (-9223372036854775808 ≤ a ∧ a ≤ 9223372036854775807) ∧ (-9223372036854775808 ≤ b ∧ b ≤ 9223372036854775807) ∧ (-9223372036854775808 ≤ c ∧ c ≤ 9223372036854775807) ∧ (-9223372036854775808 ≤ e ∧ e ≤ 9223372036854775807) := by
  obtain ⟨v0, v1, v2, v3, y0, y1, y2, y3, n, rfl, rfl, _, t0, t1, t2, t3⟩ := open_agg4 Tryd.underlying23 (by kernel_rfl) (by kernel_rfl) hv h
  obtain ⟨a, rfl, ba⟩ := fld_int Tryd.underlying3 t0
  obtain ⟨b, rfl, bb⟩ := fld_int Tryd.underlying3 t1
  obtain ⟨c, rfl, bc⟩ := fld_int Tryd.underlying3 t2
  obtain ⟨e, rfl, be⟩ := fld_int Tryd.underlying3 t3
  exact ⟨a, b, c, e, rfl, ba, bb, bc, be⟩
end
end Go.Proofs.YtaaldkkfedinpaaDoor
