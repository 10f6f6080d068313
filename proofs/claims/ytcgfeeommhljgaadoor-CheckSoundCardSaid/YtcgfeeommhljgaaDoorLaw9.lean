/- Walks of annalslaw9.places, still, begun. -/
import Derived.Test.YtcgfeeommhljgaaDoorCountLaw
set_option maxRecDepth 100000
namespace Go.Proofs.YtcgfeeommhljgaaDoor
open Go Go.RowKit

theorem ints_one (xs : List Int) : ∀ u ∈ ints xs, u.oneCell' = true := by
  intro u hu
  obtain ⟨x, _, rfl⟩ := List.mem_map.1 hu
  rfl
theorem ints_append (xs ys : List Int) : ints (xs ++ ys) = ints xs ++ ints ys := by simp [ints]

/-- The twin of a list of places: a row of its own, with a mark behind it. -/
def Twin (w w' : World) (v : Value) (xs : List Int) : Prop :=
  ∃ g cap, v = .slice (some ⟨g, 0, none⟩) xs.length cap ∧ xs.length + 1 ≤ cap ∧ w.heap.size ≤ g ∧ (∀ i (h : i < (xs ++ [-7]).length), w'.cell? ⟨g, i, none⟩ = some (.int .i64 (xs ++ [-7])[i])) ∧ Below w.heap.size w w'

theorem law_places (ao : Option Addr) (xs : List Int) (cap : Nat) (w : World) (hx : RowAt w ao (ints xs)) (hao : ao = none → xs.length = 0 ∧ cap = 0) (hl : xs.length * 8 ≤ 140737488351232) :
    Calls Tryd.prog 19 #[.slice ao xs.length cap] w fun e w' => ∃ v, e = .returned v ∧ Twin w w' v xs := by
  go_enter Tryd.func19, Tryd.ntmps19
  have hbytes : ((ints xs).length + 1) * 8 ≤ 140737488355328 := by rw [ints_length]; omega
  have hmark : ints xs ++ [Value.int .i64 (-7)] = ints (xs ++ [-7]) := by simp [ints]
  have HM := hid hmark
  clear hmark
  go_wp2_with (first
    | (at_builtin; refine wp_append_all w.heap.size rfl (.tmp 4) (.tmp 5) 38 3 (.int .i64 0) 8 rfl Tryd.underlying38 info_int rfl (by omega) _ [] (ints xs) ao xs.length cap rfl rfl (ints_length xs) (ints_one xs) hx hao (World.ownsRow_nil _ _ _ _) (Nat.le_refl _) (by simp; omega) ?_; intro v1 w1 hown1 hb1; rw [List.nil_append] at hown1; have H1 := hid hown1; have B1 := hid hb1; clear hown1 hb1 hx hao)
    | (at_builtin; refine wp_append1 w.heap.size rfl (.tmp 7) (.tmp 8) 38 3 (.int .i64 0) 8 rfl Tryd.underlying38 info_int rfl (by omega) _ _ (.int .i64 (-7)) rfl rfl rfl H1.out (B1.out.size) hbytes ?_; intro v2 w2 hown2 hb2; rw [HM.out] at hown2; have B2 := hid (B1.out.trans hb2); obtain ⟨g, cap2, rfl, hg, hcap, _, _, _, hc⟩ := own_form hown2 (by simp [ints]); rw [ints_length, List.length_append, List.length_singleton] at hcap ⊢; have HC := hid hc; clear hown2 hb2 hc))
  go_ret
  exact ⟨_, rfl, g, cap2, rfl, hcap, hg, fun i hi => by rw [HC.out i (by rw [ints_length]; exact hi), ints_get], B2.out⟩

theorem law_still (v : Value) (w0 w : World) (ao : Option Addr) (xs : List Int) (cap : Nat) (wt : World) (hv : Twin w0 wt v xs) (hbt : Below wt.heap.size wt w) (hx : RowAt w ao (ints xs)) (hl : xs.length * 8 ≤ 140737488351232) :
    Calls Tryd.prog 22 #[v, .slice ao xs.length cap] w fun e w' => e = .returned (.bool true) ∧ Below w.heap.size w w' := by
  obtain ⟨g, cap2, rfl, hcap, hg, hcell, _⟩ := hv
  have hcw : ∀ i (h : i < (xs ++ [-7]).length), w.cell? ⟨g, i, none⟩ = some (.int .i64 (xs ++ [-7])[i]) := fun i hi =>
    (hbt.cell (World.block_lt_of_cell? wt _ (hcell i hi))).trans (hcell i hi)
  have hlast := hcw xs.length (by simp)
  rw [List.getElem_concat_length rfl] at hlast
  have hc1 : (xs.length : Int) + 1 ≤ (cap2 : Int) := by omega
  go_enter Tryd.func22, Tryd.ntmps22
  go_wp2_with fail
  go_loopw [6] (fun i' wr => ∃ i : Nat, i' = .int .i64 i ∧ i ≤ xs.length ∧ Below w.heap.size w wr) (fun i' _ => (xs.length - intOf i').toNat)
  case atStart => exact ⟨0, rfl, by omega, Below.refl _ _⟩
  case round =>
    obtain ⟨i, rfl, hi, hbw⟩ := hrel
    have HB := hid hbw
    by_cases hlt : i < xs.length
    · have hx' := hx.below hbw
      obtain ⟨b, off, rfl, hc⟩ := hx'.int (k := i) hlt
      have hc1 := hc i hlt
      have hc2 := (hbw.cell (World.block_lt_of_cell? w _ (hcw i (by simp; omega)))).trans (hcw i (by simp; omega))
      rw [List.getElem_append_left hlt] at hc2
      obtain ⟨y, hy⟩ : ∃ y, y = xs[i] := ⟨_, rfl⟩
      rw [← hy] at hc1 hc2
      clear hx hx' hc hy hbw hcw hlast hcell hbt
      go_wp2_with fail
      go_quiet (fail)
      go_wp2_with fail
      go_roundw
      case rel => exact ⟨i + 1, by go_num, by omega, below_drewN HB.out _⟩
      case measure => simp [intOf]; omega
    · clear hx hbw hcw hlast hcell hbt
      go_wp2_with fail
      go_ret
      exact ⟨rfl, HB.out⟩

theorem law_begun (w : World) :
    Calls Tryd.prog 23 #[] w fun e w' => e = .returned (.bool true) ∧ Below w.heap.size w w' := by
  have hc := count_one 3 0 7 (.slice none 0 0) (by omega) (by omega) w
  have h3 : stepsN (3 : Int).toNat (7 : Int).toNat = 3 := by decide +kernel
  rw [if_neg (by omega), h3] at hc
  have HC := hid hc
  clear hc h3
  go_enter Tryd.func23, Tryd.ntmps23
  go_wp2_with fail
  refine (HC.out).mono ?_
  rintro e w1 ⟨rfl, hb⟩
  have HB := hid hb; clear hb
  unfold countV
  go_wp2_with fail
  go_ret
  exact ⟨rfl, HB.out⟩
end Go.Proofs.YtcgfeeommhljgaaDoor
