/- Walks of the law's helpers over tiles: num, same; the reference's All whole. -/
import Derived.Test.YtaihdnfdikecnaaRefTilesAll
import Derived.Test.YtaihdnfdikecnaaMark
set_option maxRecDepth 100000
namespace Go.Proofs.Ytaihdnfdikecnaa
open Go Go.RowKit

theorem ref_All (h s : Int) (hbh : -9223372036854775808 ≤ h ∧ h ≤ 9223372036854775807) (hbs : -9223372036854775808 ≤ s ∧ s ≤ 9223372036854775807) (w : World) :
    Calls Try.prog 5 #[.int .i64 h, .int .i64 s] w (TilesPost (allR h s) w) := by
  by_cases hbad : h < 1 ∨ 8 < h ∨ s < 0 ∨ 4611686018427387904 < s
  · have hR : Hid (allR h s = ([], 10)) := by unfold Hid allR; rw [if_pos hbad]
    go_enter Try.func5, Try.ntmps5
    go_wp2
    all_goals go_ret2
    all_goals exact ⟨.slice none 0 0, 0, by rw [hR.out]; rfl, by rw [hR.out]; exact World.ownsRow_nil _ _ _ _, by omega, Below.refl _ _⟩
  · obtain ⟨h', rfl⟩ := Int.eq_ofNat_of_zero_le (show 0 ≤ h by omega)
    obtain ⟨s', rfl⟩ := Int.eq_ofNat_of_zero_le (show 0 ≤ s by omega)
    have hb1 : h' ≤ 8 := by omega
    have hb2 : 1 ≤ h' := by omega
    have hb3 : s' ≤ 4611686018427387904 := by omega
    rw [allR_eq h' s' hb2 hb1 hb3]
    clear hbad
    by_cases hc : 65536 < cntL h' s' 64 0 0
    · rw [if_pos hc]
      have hcall := hid (ref_count h' s' hb1 hb2 hb3 w)
      obtain ⟨c, hcc⟩ : ∃ c, c = cntL h' s' 64 0 0 := ⟨_, rfl⟩
      rw [← hcc] at hc hcall
      clear hcc
      go_enter Try.func5, Try.ntmps5
      go_wp2_with fail
      refine hcall.out.mono ?_
      rintro e w' ⟨rfl, rfl⟩
      go_wp2_with fail
      go_ret2
      exact ⟨.slice none 0 0, 0, rfl, World.ownsRow_nil _ _ _ _, by omega, Below.refl _ _⟩
    · rw [if_neg hc]
      exact ref_All_ok h' s' hb1 hb2 hb3 (by omega) w

/-- Whole numbers all. -/
def AllInt (xs : List Value) : Prop := ∀ u ∈ xs, ∃ x : Int, u = .int .i64 x
theorem AllInt.append {xs ys : List Value} (h : AllInt xs) (k : AllInt ys) : AllInt (xs ++ ys) := fun u hu => (List.mem_append.1 hu).elim (h u) (k u)
theorem tileC_int (h l i w : Nat) : AllInt (tileC h l i w) := by
  intro u hu
  simp only [tileC, List.mem_cons, List.mem_nil_iff, or_false] at hu
  rcases hu with rfl | rfl | rfl | rfl <;> exact ⟨_, rfl⟩
theorem fullC_int (h l k : Nat) : AllInt (fullC h l k) := by
  intro u hu
  obtain ⟨i, _, hi⟩ := List.mem_flatMap.1 hu
  exact tileC_int _ _ _ _ u hi
theorem rowC_int (h l n : Nat) : AllInt (rowC h l n) := by
  refine (fullC_int _ _ _).append ?_
  unfold restC
  split
  · exact tileC_int _ _ _ _
  · intro u hu; simp at hu
theorem refL_int (h s k : Nat) : ∀ l xs, AllInt xs → AllInt (refL h s k l xs) := by
  induction k with
  | zero => intro l xs hx; exact hx
  | succ k ih =>
    intro l xs hx
    by_cases hg : l * h ≤ 62 ∧ 0 < s / 2 ^ (l * h)
    · rw [refL_on _ _ _ _ _ hg]; exact ih _ _ (hx.append (rowC_int _ _ _))
    · rw [refL_stop _ _ _ _ _ hg]; exact hx
theorem allR_int (h s : Int) : AllInt (allR h s).1 := by
  by_cases hbad : h < 1 ∨ 8 < h ∨ s < 0 ∨ 4611686018427387904 < s
  · unfold allR; rw [if_pos hbad]; intro u hu; simp at hu
  · obtain ⟨h', rfl⟩ := Int.eq_ofNat_of_zero_le (show 0 ≤ h by omega)
    obtain ⟨s', rfl⟩ := Int.eq_ofNat_of_zero_le (show 0 ≤ s by omega)
    rw [allR_eq h' s' (by omega) (by omega) (by omega)]
    split
    · intro u hu; simp at hu
    · exact refL_int _ _ _ _ _ (by intro u hu; simp at hu)

theorem law_num (x : Int) (w : World) : Calls Try.prog 6 #[.int .i64 x] w fun e w' => e = .returned (.int .i64 x) ∧ w = w' := by
  go_enter Try.func6, Try.ntmps6
  go_wp2
  go_ret
  exact ⟨rfl, rfl⟩
/-- A row of the call's own, as a row that is read. -/
theorem own_rowS {w : World} {base e n size : Nat} {v : Value} {xs : List Value} (h : w.ownsRow base e size v n xs) :
    ∃ ao cap, v = .slice ao n cap ∧ xs.length = n * size ∧ RowAt w ao xs := by
  have hl := h.1
  rcases h.2 with ⟨rfl, h0⟩ | ⟨g, cap, cur, rfl, _⟩
  · exact ⟨none, 0, by rw [h0], hl, .inl (List.eq_nil_of_length_eq_zero (by rw [hl, h0, Nat.zero_mul]))⟩
  · refine ⟨_, cap, rfl, hl, .inr ⟨g, 0, rfl, fun i hi => ?_⟩⟩
    have := h.cells (g := g) rfl i xs[i] (List.getElem?_eq_getElem hi)
    have ha : (⟨g, 0, none⟩ : Addr).add i = ⟨g, 0 + i, none⟩ := by unfold Addr.add; split <;> simp_all
    rwa [ha] at this
theorem own_keep {B : Nat} {e : TypeId} {size : Nat} {v : Value} {n : Nat} {xs : List Value} {w w' : World} (h : w.ownsRow B e size v n xs) (hb : Below w.heap.size w w') : w'.ownsRow B e size v n xs :=
  h.kept (row := none) ⟨hb.os, hb.tape, hb.output, hb.size, fun k hk _ => hb.block k hk⟩ (by cases v.ownBlock <;> simp)
/-- The four numbers of tile i. -/
theorem tile_at {w : World} {ao : Option Addr} {xs : List Value} {n i : Nat} (h : RowAt w ao xs) (hx : xs.length = n * 4) (hi : i < n) (hint : AllInt xs) :
    ∃ (b off : Nat) (x0 x1 x2 x3 : Int), ao = some ⟨b, off, none⟩ ∧ xs[i * 4]? = some (.int .i64 x0) ∧ xs[i * 4 + 1]? = some (.int .i64 x1) ∧ xs[i * 4 + 2]? = some (.int .i64 x2) ∧ xs[i * 4 + 3]? = some (.int .i64 x3) ∧
      w.cell? ⟨b, off + i * 4, none⟩ = some (.int .i64 x0) ∧ w.cell? ⟨b, off + i * 4 + 1, none⟩ = some (.int .i64 x1) ∧ w.cell? ⟨b, off + i * 4 + 2, none⟩ = some (.int .i64 x2) ∧ w.cell? ⟨b, off + i * 4 + 3, none⟩ = some (.int .i64 x3) := by
  obtain ⟨b, off, e, hc⟩ := h.get (k := i * 4) (by omega)
  have get : ∀ j (hj : j < xs.length), ∃ x : Int, xs[j]? = some (.int .i64 x) := fun j hj => by
    obtain ⟨x, hx⟩ := hint _ (List.getElem_mem hj)
    exact ⟨x, by rw [List.getElem?_eq_getElem hj, hx]⟩
  obtain ⟨x0, h0⟩ := get (i * 4) (by omega)
  obtain ⟨x1, h1⟩ := get (i * 4 + 1) (by omega)
  obtain ⟨x2, h2⟩ := get (i * 4 + 2) (by omega)
  obtain ⟨x3, h3⟩ := get (i * 4 + 3) (by omega)
  have cell : ∀ j (hj : j < xs.length) x, xs[j]? = some x → w.cell? ⟨b, off + j, none⟩ = some x := fun j hj x hx => by
    rw [hc j hj, ← hx, List.getElem?_eq_getElem hj]
  exact ⟨b, off, x0, x1, x2, x3, e, h0, h1, h2, h3, cell _ (by omega) _ h0, cell _ (by omega) _ h1, cell _ (by omega) _ h2, cell _ (by omega) _ h3⟩
set_option maxHeartbeats 1000000 in
theorem law_same (ao bo : Option Addr) (xs : List Value) (n c1 c2 : Nat) (w : World) (hn : n ≤ 4611686018427387904) (hxl : xs.length = n * 4) (hint : AllInt xs) (hx : RowAt w ao xs) (hy : RowAt w bo xs) :
    Calls Try.prog 7 #[.slice ao n c1, .slice bo n c2] w fun e w' => e = .returned (.bool true) ∧ Below w.heap.size w w' := by
  have HX := hid hx
  have HY := hid hy
  have HI := hid hint
  clear hx hy hint
  go_enter Try.func7, Try.ntmps7
  go_wp2_with fail
  go_loopw [5] (fun i' wr => ∃ i : Nat, i' = .int .i64 i ∧ i ≤ n ∧ Below w.heap.size w wr) (fun i' _ => (n - intOf i').toNat)
  case atStart => exact ⟨0, rfl, by omega, Below.refl _ _⟩
  case round =>
    obtain ⟨i, rfl, hi, hbw⟩ := hrel
    have HB := hid hbw
    by_cases hlt : i < n
    · obtain ⟨b, off, x0, x1, x2, x3, rfl, h0, h1, h2, h3, c0, c1, c2, c3⟩ := tile_at (HX.out.below hbw) hxl hlt HI.out
      obtain ⟨b2, off2, y0, y1, y2, y3, rfl, k0, k1, k2, k3, d0, d1, d2, d3⟩ := tile_at (HY.out.below hbw) hxl hlt HI.out
      obtain rfl : x0 = y0 := by rw [h0] at k0; simpa using k0
      obtain rfl : x1 = y1 := by rw [h1] at k1; simpa using k1
      obtain rfl : x2 = y2 := by rw [h2] at k2; simpa using k2
      obtain rfl : x3 = y3 := by rw [h3] at k3; simpa using k3
      clear h0 h1 h2 h3 k0 k1 k2 k3 hxl hbw
      go_wp2_with fail
      go_quiet (fail)
      go_wp2_with fail
      go_roundw
      case rel => exact ⟨i + 1, by go_num, by omega, below_drewN HB.out _⟩
      case measure => simp [intOf]; omega
    · clear hbw
      go_wp2_with fail
      go_ret
      exact ⟨rfl, HB.out⟩
end Go.Proofs.Ytaihdnfdikecnaa
