/- Walks of the law's helpers: same, longer, kept, num. -/
import Derived.Test.YtpdjiflbidjcbaaRefLeaves
import Derived.Test.YtpdjiflbidjcbaaRefUnLeaves
set_option maxRecDepth 100000
namespace Go.Proofs.Ytpdjiflbidjcbaa
open Go Go.RowKit

theorem law_num (x : Int) (w : World) : Calls Try.prog 7 #[.int .i64 x] w fun e w' => e = .returned (.int .i64 x) ∧ w = w' := by
  go_enter Try.func7, Try.ntmps7
  go_wp2
  go_ret
  exact ⟨rfl, rfl⟩
/-- Two slices that hold the same strings are the same. -/
theorem law_same (ao bo : Option Addr) (xs : List ByteArray) (c1 c2 : Nat) (w : World) (hl : xs.length ≤ 4611686018427387904) (hx : RowAt w ao (strs' xs)) (hy : RowAt w bo (strs' xs)) :
    Calls Try.prog 11 #[.slice ao xs.length c1, .slice bo xs.length c2] w fun e w' => e = .returned (.bool true) ∧ Below w.heap.size w w' := by
  go_enter Try.func11, Try.ntmps11
  go_wp2_with fail
  go_loopw [5] (fun i' wr => ∃ i : Nat, i' = .int .i64 i ∧ i ≤ xs.length ∧ Below w.heap.size w wr) (fun i' _ => (xs.length - intOf i').toNat)
  case atStart => exact ⟨0, rfl, by omega, Below.refl _ _⟩
  case round =>
    obtain ⟨i, rfl, hi, hbw⟩ := hrel
    have HB := hid hbw
    by_cases hlt : i < xs.length
    · obtain ⟨b, off, rfl, hc⟩ := (hx.below hbw).str (k := i) hlt
      obtain ⟨b2, off2, rfl, hc2⟩ := (hy.below hbw).str (k := i) hlt
      have hcell := hc i hlt
      have hcell2 := hc2 i hlt
      clear hx hy hc hc2 hbw
      obtain ⟨y, hy⟩ : ∃ y, y = xs[i] := ⟨_, rfl⟩
      rw [← hy] at hcell hcell2
      clear hy
      go_wp2_with fail
      go_quiet (fail)
      go_wp2_with fail
      go_roundw
      case rel => exact ⟨i + 1, by go_num, by omega, below_drewN HB.out _⟩
      case measure => simp [intOf]; omega
    · clear hx hy hbw
      go_wp2_with fail
      go_ret
      exact ⟨rfl, HB.out⟩
/-- The word that is put behind. -/
def behind : ByteArray := ⟨#[98, 101, 104, 105, 110, 100]⟩
/-- xs and the word in new memory. -/
theorem law_longer (ao : Option Addr) (xs : List ByteArray) (cap : Nat) (w : World) (hx : RowAt w ao (strs' xs)) (hao : ao = none → xs.length = 0 ∧ cap = 0) (hl : xs.length * 16 ≤ 140737488351232) :
    Calls Try.prog 4 #[.slice ao xs.length cap] w fun e w' => ∃ v, e = .returned v ∧ w'.ownsRow w.heap.size 9 1 v (strs' (xs ++ [behind])).length (strs' (xs ++ [behind])) ∧ Below w.heap.size w w' := by
  have hlen := strs'_length xs
  have h1 : ∀ u ∈ strs' xs, u.oneCell' = true := by
    intro u hu
    obtain ⟨x, _, rfl⟩ := List.mem_map.1 hu
    rfl
  have e : strs' (xs ++ [behind]) = strs' xs ++ [Value.string behind] := by simp [strs']
  rw [e]
  have H1 := hid h1
  have HX := hid hx
  have HA := hid hao
  clear h1 hx hao e
  go_enter Try.func4, Try.ntmps4
  go_wp2_with (first
    | (at_builtin; refine wp_append_all w.heap.size rfl (.const (.slice none 0 0)) (.tmp 4) 22 9 (.string ⟨#[]⟩) 16 rfl Try.underlying22 info_string rfl (by decide) _ [] (strs' xs) ao xs.length cap rfl rfl hlen H1.out HX.out HA.out (World.ownsRow_nil _ _ _ _) (Nat.le_refl _) (by simp; omega) ?_; intro v1 w1 hown1 hb1; have HO1 := hid hown1; have HB1 := hid hb1; clear hown1 hb1)
    | (at_builtin; refine wp_append1 w.heap.size rfl (.tmp 6) (.tmp 7) 22 9 (.string ⟨#[]⟩) 16 rfl Try.underlying22 info_string rfl (by decide) _ ([] ++ strs' xs) (.string behind) rfl rfl rfl HO1.out HB1.out.size (by simp; omega) ?_; intro v2 w2 hown2 hb2; have HO2 := hid hown2; have HB2 := hid hb2; clear hown2 hb2)
    | fail)
  go_ret
  exact ⟨_, rfl, by simpa using HO2.out, HB1.out.trans HB2.out⟩
theorem behind_at (xs : List ByteArray) (i : Nat) (hi : i < xs.length) : (xs ++ [behind])[i]'(by simp; omega) = xs[i] := by
  rw [List.getElem_append_left hi]
/-- The first n of what lies there. -/
theorem RowAt.front {w : World} {ao : Option Addr} {xs ys : List ByteArray} (h : RowAt w ao (strs' (xs ++ ys))) : RowAt w ao (strs' xs) := by
  rcases h with h | ⟨b, off, rfl, h⟩
  · left
    have := congrArg List.length h
    simp [strs'] at this
    rw [this.1]; rfl
  · right
    refine ⟨b, off, rfl, fun i hi => ?_⟩
    have hi' : i < xs.length := by simpa [strs'] using hi
    rw [h i (by simp [strs']; omega)]
    simp [strs', List.getElem_append_left, hi']
theorem RowAt.drewN {w : World} {ao : Option Addr} {cs : List Value} (h : RowAt w ao cs) (n : Nat) : RowAt (w.drewN n) ao cs := h

theorem law_kept (g : Nat) (ao : Option Addr) (xs : List ByteArray) (c1 c2 : Nat) (w : World) (hl : xs.length ≤ 4611686018427387904) (hc1 : xs.length + 1 ≤ c1) (hg : RowAt w (some ⟨g, 0, none⟩) (strs' (xs ++ [behind]))) (hx : RowAt w ao (strs' xs)) :
    Calls Try.prog 8 #[.slice (some ⟨g, 0, none⟩) (xs.length + 1) c1, .slice ao xs.length c2] w fun e w' => e = .returned (.bool true) ∧ Below w.heap.size w w' := by
  have hsame := hid (law_same (some ⟨g, 0, none⟩) ao xs c1 c2 w hl hg.front hx)
  obtain ⟨b, off, hb, hc⟩ := hg.str (k := xs.length) (by simp)
  obtain ⟨rfl, rfl⟩ : g = b ∧ 0 = off := by cases hb; exact ⟨rfl, rfl⟩
  have hcell := hc xs.length (by simp)
  have e : (xs ++ [behind])[xs.length]'(by simp) = behind := by simp
  rw [e] at hcell
  unfold behind at hcell
  have hcell' : w.cell? ⟨g, xs.length, none⟩ = some (.string ⟨#[98, 101, 104, 105, 110, 100]⟩) := by simpa using hcell
  clear hc hb e hg hx hcell
  go_enter Try.func8, Try.ntmps8
  go_wp2_with fail
  refine hsame.out.mono ?_
  rintro e w1 ⟨rfl, b1⟩
  have B1 := hid b1; clear b1
  go_wp2_with fail
  go_ret
  exact ⟨rfl, B1.out⟩
end Go.Proofs.Ytpdjiflbidjcbaa
