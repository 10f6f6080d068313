/- An append behind which what was appended to is still read; what a path of any hashes leads to. -/
import Derived.Test.YtcgfeeommhljgaaDoorIncl2
import Derived.Test.YtcgfeeommhljgaaDoorCeil
set_option maxRecDepth 100000
namespace Go.Proofs.YtcgfeeommhljgaaDoor
open Go Go.RowKit

theorem own_base {w : World} {base base' e size n : Nat} {v : Value} {xs : List Value} (h : w.ownsRow base' e size v n xs) (hb : base ≤ base') : w.ownsRow base e size v n xs := by
  refine ⟨h.1, ?_⟩
  rcases h.2 with h0 | ⟨g, cap, cur, h1, h2, h3⟩
  · exact .inl h0
  · exact .inr ⟨g, cap, cur, h1, by omega, h3⟩
section
variable {P : Program} {ops : Array Oper} {rest : List Oper} {o : Oper} {a : Act} {Q : Exit → Act → World → Prop}
theorem wp_append1_keep {W : World} (base : Nat) (hgd : o.guard = none) (s x : Operand) (t e : TypeId) (z : Value) (bytes : Nat)
    (ho : o.op = .call { callee := .builtin .append, args := #[s, x], argTypes := #[t, t] })
    (ht : P.underlying t = some (.slice e)) (hinfo : (P.info? e).map (fun i => (i.zero, i.size, i.bytes)) = some (some z, 1, bytes)) (hz : z.cells.size = 1) (hb0 : 0 < bytes)
    (v : Value) (xs : List Value) (y : Value) (hs : a.eval s = v) (hx : a.eval x = .slice (some ⟨W.heap.size, 0, none⟩) 1 1) (h1 : y.oneCell' = true)
    (HO : W.ownsRow base e 1 v xs.length xs) (hbase : base ≤ W.heap.size) (hl : (xs.length + 1) * bytes ≤ 140737488355328)
    (h : ∀ v1 w1, (∀ ao n c, v = .slice ao n c → RowAt w1 ao xs) → w1.ownsRow base e 1 v1 (xs ++ [y]).length (xs ++ [y]) → Below base W w1 → wpList P ops Q rest (a.put o.dst v1) w1) :
    wpList P ops Q (o :: rest) a (W.alloc (.cells #[y] e)) := by
  by_cases h0 : xs = []
  · subst h0
    exact wp_append1 base hgd s x t e z bytes ho ht hinfo hz hb0 v [] y hs hx h1 HO hbase hl fun v1 w1 h2 h3 => h v1 w1 (fun _ _ _ _ => .inl rfl) h2 h3
  · have hpos : 0 < xs.length := List.length_pos_iff.2 h0
    obtain ⟨i0, hi, hz0, hz1, hz2⟩ := info_parts hinfo
    have hlen : xs.length + 1 ≤ 140737488355328 := Nat.le_trans (Nat.le_mul_of_pos_right _ hb0) hl
    obtain ⟨g, cap, rfl, hb, hle, _, hlt, _, hc⟩ := own_form HO hpos
    have hnew : ∀ j u, ([y] : List Value)[j]? = some u → (W.alloc (.cells #[y] e)).cell? ((⟨W.heap.size, 0, none⟩ : Addr).add j) = some u := by
      intro j u hj
      match j, hj with
      | 0, hj => simp at hj; subst hj; simp [Addr.add, go_sem]
    have hbl := (Below.refl base W).alloc hbase (.cells #[y] e)
    have hbW := (Below.refl W.heap.size W).alloc (Nat.le_refl _) (.cells #[y] e)
    by_cases hr : xs.length + 1 ≤ cap
    · refine wpList_append_fits (W.alloc (.cells #[y] e)) hgd s x t ho base e i0 1 ht hi hz1 g xs.length cap xs hs (HO.alloc _) ⟨W.heap.size, 0, none⟩ 1 1 [y] hx rfl hnew (by simpa using h1) hr ?_
      intro w' h2 h3
      refine h (.slice (some ⟨g, 0, none⟩) (xs.length + 1) cap) w' ?_ (by simpa using h2) (hbl.grown h3 (by simp; omega) (fun k hk => by cases hk; exact hb))
      intro ao n c he
      cases he
      obtain ⟨g', cap', hv, _, _, _, _, _, hc'⟩ := own_form h2 (by simp)
      have hg' : g = g' := by simp at hv; exact hv.1
      subst hg'
      refine .inr ⟨g, 0, rfl, fun i hi => ?_⟩
      rw [Nat.zero_add, hc' i (by simp; omega), List.getElem_append_left hi]
    · refine wpList_append_grows (W.alloc (.cells #[y] e)) hgd s x t ho e i0 z 1 bytes ht hi hz0 hz1 hz2 hz (by omega) (some ⟨g, 0, none⟩) xs.length cap xs hs (by simp) (by simp) ?_ ⟨W.heap.size, 0, none⟩ 1 1 [y] hx rfl hnew (by simpa using h1) (by omega) (by unfold maxLen; omega) hl ?_
      · intro b hbe j u hj
        cases hbe
        obtain ⟨hj1, rfl⟩ := List.getElem?_eq_some_iff.1 hj
        have ha : (⟨g, 0, none⟩ : Addr).add j = ⟨g, j, none⟩ := by unfold Addr.add; split <;> simp_all
        rw [ha, hbW.cell hlt]; exact hc j hj1
      · intro v' w' h2 h3
        refine h v' w' ?_ (own_base (base' := (W.alloc (.cells #[y] e)).heap.size) (by rw [List.length_append]; exact h2) (by simp; omega)) (hbl.grown h3 (by simp; omega) (fun k hk => by cases hk))
        intro ao n c he
        cases he
        refine .inr ⟨g, 0, rfl, fun i hi => ?_⟩
        rw [Nat.zero_add]
        exact h3.cell ((hbW.cell hlt).trans (hc i hi)) (fun e => by cases e)
end

theorem RowAt.takeS {w : World} {ao : Option Addr} {ps : List ByteArray} (h : RowAt w ao (strs' ps)) (m : Nat) : RowAt w ao (strs' (ps.take m)) := by
  rcases h with h | ⟨b, off, e, hc⟩
  · have h0 := congrArg List.length h
    rw [strs'_length] at h0
    rw [List.eq_nil_of_length_eq_zero (l := ps) (by simpa using h0)]
    exact .inl (by simp [strs'])
  · refine .inr ⟨b, off, e, fun i hi => ?_⟩
    have hi2 : i < ps.length ∧ i < m := by rw [strs'_length, List.length_take] at hi; omega
    rw [hc i (by rw [strs'_length]; exact hi2.1)]
    simp [strs']
theorem leadsS_wide (k : Int) (hash : ByteArray) (xs : List ByteArray) (i n m : Nat) (hh : hash.size = wid k) : (leadsS k hash xs i n m).size = wid k := by
  rw [leadsS]
  split
  · exact hh
  · split <;> exact nodeS_size _ _ _
theorem sized_ok (k c : Int) (proof others : List ByteArray) (h1 : fits (wid k) others) (h2 : fits (wid k) proof) : sizedN k c proof others = if (proof.length : Int) ≠ c then 71 else 0 := by
  unfold sizedN
  rw [if_neg (by simpa using (fits_app _ _ _).2 ⟨h1, h2⟩)]
theorem fits_one (n : Nat) (x : ByteArray) (h : x.size = n) : fits n [x] := by intro y hy; simp at hy; subst hy; exact h
theorem fits_two (n : Nat) (x y : ByteArray) (h : x.size = n) (h2 : y.size = n) : fits n [x, y] := by
  intro z hz
  rcases List.mem_cons.1 hz with rfl | hz
  · exact h
  · exact fits_one n y h2 z hz
theorem count_at1 (i n : Nat) (hi : i < n) (hn : n ≤ 4611686018427387904) : countN 1 i 0 n [] = (((stepsN i n : Nat) : Int), (0 : Int)) := by
  unfold countN
  rw [if_neg (by omega), if_neg (by omega), if_pos rfl, if_neg (by omega)]
  rfl
theorem count_bad (i n : Int) (h : (countN 1 i 0 n []).2 ≠ 0) : n < 0 ∨ 4611686018427387904 < n ∨ i < 0 ∨ n ≤ i := by
  unfold countN at h
  rw [if_neg (by omega)] at h
  by_cases c1 : n < 0 ∨ 4611686018427387904 < n
  · omega
  · rw [if_neg c1, if_pos rfl] at h
    by_cases c2 : i < 0 ∨ n ≤ i
    · omega
    · rw [if_neg c2] at h; simp at h
section
variable (k : Int) (i n : Nat) (hi : i < n) (hn : n ≤ 4611686018427387904) (h : ByteArray) (hh : h.size = wid k) (ps : List ByteArray) (hf : fits (wid k) ps)
include hi hn hh hf
theorem built_leads (hl : ps.length = stepsN i n) : leadsN k i n h ps = (leadsS k h ps i n ps.length, 0) := by
  unfold leadsN
  rw [count_at1 i n hi hn, if_neg (by simp), sized_ok _ _ _ _ (fits_one _ _ hh) hf, if_neg (by rw [if_neg (by simp [hl])]; simp)]
  simp
theorem built_incl (hl : ps.length = stepsN i n) (r : ByteArray) (hr : r.size = wid k) : inclN k i n h ps r = if leadsS k h ps i n ps.length = r then 0 else 90 := by
  unfold inclN
  rw [count_at1 i n hi hn, if_neg (by simp), sized_ok _ _ _ _ (fits_two _ _ _ hh hr) hf, if_neg (by rw [if_neg (by simp [hl])]; simp)]
  simp
theorem built_count (hl : ps.length ≠ stepsN i n) (r : ByteArray) (hr : r.size = wid k) : inclN k i n h ps r = 71 := by
  have e : sizedN k (stepsN i n : Nat) ps [h, r] = 71 := by rw [sized_ok _ _ _ _ (fits_two _ _ _ hh hr) hf, if_pos (by omega)]
  unfold inclN
  rw [count_at1 i n hi hn, if_neg (by simp)]
  simp only [e]
  rfl
end
end Go.Proofs.YtcgfeeommhljgaaDoor
