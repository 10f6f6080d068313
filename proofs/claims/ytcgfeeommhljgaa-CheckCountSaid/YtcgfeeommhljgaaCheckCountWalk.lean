/- The walk of annalslaw9.CheckCount. -/
import Derived.Test.YtcgfeeommhljgaaLaw9
set_option maxRecDepth 100000
namespace Go.Proofs.Ytcgfeeommhljgaa
open Go Go.RowKit

theorem Twin.row {w wt : World} {v : Value} {xs : List Int} (h : Twin w wt v xs) : ∃ ao cap, v = .slice ao xs.length cap ∧ RowAt wt ao (ints xs) := by
  obtain ⟨g, cap, hv, _, _, hc, _⟩ := h
  refine ⟨_, cap, hv, .inr ⟨g, 0, rfl, fun i hi => ?_⟩⟩
  rw [ints_length] at hi
  rw [ints_get xs i hi, Nat.zero_add, hc i (by simp; omega), List.getElem_append_left hi]
theorem Twin.below {w wt : World} {v : Value} {xs : List Int} (h : Twin w wt v xs) : Below w.heap.size w wt := by
  obtain ⟨_, _, _, _, _, _, hb⟩ := h
  exact hb

theorem law_CheckCount (kind a b n : Int) (ao : Option Addr) (xs : List Int) (cap : Nat) (w : World) (hx : RowAt w ao (ints xs)) (hao : ao = none → xs.length = 0 ∧ cap = 0) (hl : xs.length * 8 ≤ 140737488351232) :
    Calls Try.prog 4 #[.int .i64 kind, .int .i64 a, .int .i64 b, .int .i64 n, .slice ao xs.length cap] w fun e w' => e = .returned (.bool true) ∧ Below w.heap.size w w' := by
  have hp := hid (law_places ao xs cap w hx hao hl)
  have hr := hid (fun W (hb : Below w.heap.size w W) => ref_Count kind a b n ao xs cap W (hx.below hb) (by omega))
  have hs := hid (fun v w0 W wt (hv : Twin w0 wt v xs) (hbt : Below wt.heap.size wt W) (hb : Below w.heap.size w W) => law_still v w0 W ao xs cap wt hv hbt (hx.below hb) hl)
  rw [← count_same] at hr
  clear hx hao
  go_enter Try.func4, Try.ntmps4
  go_wp2_with fail
  refine (hp.out).mono ?_
  rintro e w1 ⟨v, rfl, ht⟩
  have HT := hid ht
  obtain ⟨ao1, cap1, hv, hrow⟩ := ht.row
  have hc := hid (fun W (hb : Below w1.heap.size w1 W) => check_Count kind a b n ao1 xs cap1 W (hrow.below hb) (by omega))
  clear hrow ht
  subst hv
  go_wp2_with fail
  refine (hc.out _ (Below.refl _ _)).mono ?_
  rintro e w2 ⟨rfl, hb2⟩
  have B2 := hid hb2; clear hb2
  unfold countV
  go_wp2_with fail
  refine (hr.out _ (Below.then' HT.out.below B2.out)).mono ?_
  rintro e w3 ⟨rfl, hb3⟩
  have B3 := hid (Below.then' B2.out hb3); clear hb3
  unfold countV
  go_wp2_with fail
  refine (hs.out _ _ _ _ HT.out B3.out (Below.then' HT.out.below B3.out)).mono ?_
  rintro e w4 ⟨rfl, hb4⟩
  have B4 := hid (Below.then' HT.out.below (Below.then' B3.out hb4)); clear hb4
  go_wp2_with fail
  go_ret
  exact ⟨rfl, B4.out⟩
end Go.Proofs.Ytcgfeeommhljgaa
