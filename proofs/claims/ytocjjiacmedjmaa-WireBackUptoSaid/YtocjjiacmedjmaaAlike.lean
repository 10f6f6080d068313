/- Walk of the law's alike. -/
import Derived.Test.YtocjjiacmedjmaaProof
import Derived.Test.YtocjjiacmedjmaaHeld
import Derived.Test.YtocjjiacmedjmaaSame
import Derived.Test.YtocjjiacmedjmaaUnProof
set_option maxRecDepth 100000
namespace Go.Proofs.Ytocjjiacmedjmaa
open Go Go.RowKit

/-- Two slices that hold the same numbers are the same. -/
theorem law_places (ao bo : Option Addr) (xs : List Int) (c1 c2 : Nat) (w : World) (hl : xs.length ≤ 4611686018427387904) (hx : RowAt w ao (ints xs)) (hy : RowAt w bo (ints xs)) :
    Calls Try.prog 33 #[.slice ao xs.length c1, .slice bo xs.length c2] w fun e w' => e = .returned (.bool true) ∧ Below w.heap.size w w' := by
  go_enter Try.func33, Try.ntmps33
  go_wp2_with fail
  go_loopw [5] (fun i' wr => ∃ i : Nat, i' = .int .i64 i ∧ i ≤ xs.length ∧ Below w.heap.size w wr) (fun i' _ => (xs.length - intOf i').toNat)
  case atStart => exact ⟨0, rfl, by omega, Below.refl _ _⟩
  case round =>
    obtain ⟨i, rfl, hi, hbw⟩ := hrel
    have HB := hid hbw
    by_cases hlt : i < xs.length
    · obtain ⟨b, off, rfl, hc⟩ := (hx.below hbw).int (k := i) hlt
      obtain ⟨b2, off2, rfl, hc2⟩ := (hy.below hbw).int (k := i) hlt
      have hcell := hc i hlt
      have hcell2 := hc2 i hlt
      clear hx hy hc hc2 hbw
      obtain ⟨y, hy⟩ : ∃ y, y = xs[i] := ⟨_, rfl⟩
      rw [← hy] at hcell hcell2
      clear hy
      go_wp2_with fail
      go_quiet (fail)
      go_wp2_with fail
      go_roundw
      case rel => exact ⟨i + 1, by go_num, by omega, below_drewN HB.out _⟩
      case measure => simp [intOf]; omega
    · clear hx hy hbw
      go_wp2_with fail
      go_ret
      exact ⟨rfl, HB.out⟩
end Go.Proofs.Ytocjjiacmedjmaa
set_option maxRecDepth 100000
namespace Go.Proofs.Ytocjjiacmedjmaa
open Go Go.RowKit

/-- Two proofs of the same numbers and the same hashes are alike. -/
theorem law_alike (k wd a b n : Int) (xs : List Int) (hs : List ByteArray) (ao bo ho gp : Option Addr) (c1 c2 d1 d2 : Nat) (w : World)
    (hl1 : xs.length ≤ 4611686018427387904) (hl2 : hs.length ≤ 4611686018427387904) (hx : RowAt w ao (ints xs)) (hy : RowAt w bo (ints xs)) (hh : RowAt w ho (strs' hs)) (hg : RowAt w gp (strs' hs)) :
    Calls Try.prog 10 #[proofV k wd a b n ao xs c1 ho hs d1, proofV k wd a b n bo xs c2 gp hs d2] w fun e w' => e = .returned (.bool true) ∧ Below w.heap.size w w' := by
  unfold proofV
  have HX := hid hx
  have HY := hid hy
  have HH := hid hh
  have HG := hid hg
  have s0 := (seven_new w k wd a b n ao xs c1 ho hs d1).alloc (.cells #[.int .i64 k, .int .i64 wd, .int .i64 a, .int .i64 b, .int .i64 n, .slice bo xs.length c2, .slice gp hs.length d2] 25)
  have q0 := seven_new (w.alloc (.cells #[.int .i64 k, .int .i64 wd, .int .i64 a, .int .i64 b, .int .i64 n, .slice ao xs.length c1, .slice ho hs.length d1] 25)) k wd a b n bo xs c2 gp hs d2
  have b0 : Below w.heap.size w ((w.alloc (.cells #[.int .i64 k, .int .i64 wd, .int .i64 a, .int .i64 b, .int .i64 n, .slice ao xs.length c1, .slice ho hs.length d1] 25)).alloc (.cells #[.int .i64 k, .int .i64 wd, .int .i64 a, .int .i64 b, .int .i64 n, .slice bo xs.length c2, .slice gp hs.length d2] 25)) := by go_grown
  obtain ⟨W, hW⟩ : ∃ W, W = (w.alloc (.cells #[.int .i64 k, .int .i64 wd, .int .i64 a, .int .i64 b, .int .i64 n, .slice ao xs.length c1, .slice ho hs.length d1] 25)).alloc (.cells #[.int .i64 k, .int .i64 wd, .int .i64 a, .int .i64 b, .int .i64 n, .slice bo xs.length c2, .slice gp hs.length d2] 25) := ⟨_, rfl⟩
  have e1 : (w.alloc (.cells #[.int .i64 k, .int .i64 wd, .int .i64 a, .int .i64 b, .int .i64 n, .slice ao xs.length c1, .slice ho hs.length d1] 25)).heap.size = w.heap.size + 1 := by simp
  rw [e1] at q0
  rw [← hW] at s0 q0 b0
  have B0 := hid b0
  have HW := hid hW.symm
  obtain ⟨ltb, x0, x1, x2, x3, x4, x5, x6⟩ := s0
  obtain ⟨ltc, y0, y1, y2, y3, y4, y5, y6⟩ := q0
  have z6 : Hid (W.cell? ⟨w.heap.size, 6, none⟩ = some (.slice ho hs.length d1)) := x6
  have z7 : Hid (W.cell? ⟨w.heap.size + 1, 6, none⟩ = some (.slice gp hs.length d2)) := y6
  clear hx hy hh hg b0 hW e1
  go_enter Try.func10, Try.ntmps10
  go_wp2_with (first
    | (go_at_call 33; rw [HW.out]; refine (law_places ao bo xs c1 c2 W hl1 (HX.out.below B0.out) (HY.out.below B0.out)).mono ?_; clear x0 x1 x2 x3 x4 x5 x6 y0 y1 y2 y3 y4 y5 y6; rintro e w1 ⟨rfl, b1⟩; have x6 := (b1.cell (p := ⟨w.heap.size, 6, none⟩) ltb).trans z6.out; have y6 := (b1.cell (p := ⟨w.heap.size + 1, 6, none⟩) ltc).trans z7.out; have B1 := hid (Below.then B0.out B0.out.size b1); clear b1)
    | (go_at_call 18; refine (law_same ho gp hs d1 d2 _ hl2 (HH.out.below B1.out) (HG.out.below B1.out)).mono ?_; rintro e w2 ⟨rfl, b2⟩; have B2 := hid (Below.then B1.out B1.out.size b2); clear b2)
    | fail)
  go_ret
  exact ⟨rfl, B2.out⟩
end Go.Proofs.Ytocjjiacmedjmaa
