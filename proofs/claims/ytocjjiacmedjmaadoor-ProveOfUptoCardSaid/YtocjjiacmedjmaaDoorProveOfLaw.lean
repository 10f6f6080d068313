/- Walk of the law ProveOf. -/
import Derived.Test.YtocjjiacmedjmaaDoorProveOfWalk
set_option maxRecDepth 100000
namespace Go.Proofs.YtocjjiacmedjmaaDoor
open Go Go.RowKit

theorem law8_num (x : Int) (w : World) : Calls Tryd.prog 21 #[.int .i64 x] w fun e w' => e = .returned (.int .i64 x) ∧ w = w' := by
  go_enter Tryd.func21, Tryd.ntmps21
  go_wp2
  go_ret
  exact ⟨rfl, rfl⟩
theorem law8_same (ao bo : Option Addr) (xs : List ByteArray) (c1 c2 : Nat) (w : World) (hl : xs.length ≤ 4611686018427387904) (hx : RowAt w ao (strs' xs)) (hy : RowAt w bo (strs' xs)) :
    Calls Tryd.prog 19 #[.slice ao xs.length c1, .slice bo xs.length c2] w fun e w' => e = .returned (.bool true) ∧ Below w.heap.size w w' := by
  go_enter Tryd.func19, Tryd.ntmps19
  go_wp2_with fail
  go_loopw [5] (fun i' wr => ∃ i : Nat, i' = .int .i64 i ∧ i ≤ xs.length ∧ Below w.heap.size w wr) (fun i' _ => (xs.length - intOf i').toNat)
  case atStart => exact ⟨0, rfl, by omega, Below.refl _ _⟩
  case round =>
    obtain ⟨i, rfl, hi, hbw⟩ := hrel
    have HB := hid hbw
    by_cases hlt : i < xs.length
    · obtain ⟨b, off, rfl, hcell⟩ := str_at (hx.below hbw) hlt
      obtain ⟨b2, off2, rfl, hcell2⟩ := str_at (hy.below hbw) hlt
      clear hx hy hbw
      generalize xs.getD i ⟨#[]⟩ = y at *
      go_wp2_with fail
      go_quiet (fail)
      go_wp2_with fail
      go_roundw
      case rel => exact ⟨i + 1, by go_num, by omega, below_drewN HB.out _⟩
      case measure => simp [intOf]; omega
    · clear hx hy hbw
      go_wp2_with fail
      go_ret
      exact ⟨rfl, HB.out⟩
theorem ref8_Of (k : Int) (ao : Option Addr) (hs : List ByteArray) (cap : Nat) (w : World) (hx : RowAt w ao (strs' hs)) (hg : GlobR w) :
    Calls Tryd.prog 18 #[.int .i64 k, .slice ao hs.length cap] w fun e w' => ∃ p, e = .returned (.pointer (some ⟨p, 0, none⟩)) ∧ SrcAt k ao hs cap p w' ∧ w.heap.size ≤ p ∧ Below w.heap.size w w' := by
  have HX := hid hx
  have HG := hid hg
  clear hx hg
  go_enter Tryd.func18, Tryd.ntmps18
  go_wp2_with fail
  go_ret
  have hb : ∀ o, Below w.heap.size w (w.alloc o) := fun o => (Below.refl w.heap.size w).alloc (Nat.le_refl _) o
  refine ⟨w.heap.size, rfl, ⟨by simp [go_sem], by simp [go_sem], by simp [go_sem], by simp [go_sem], HX.out.below (hb _), HG.out.below (hb _)⟩, Nat.le_refl _, hb _⟩
/-- All that the law made, given's row being g. -/
structure PO (k : Int) (ao : Option Addr) (hs : List ByteArray) (cap : Nat) (a1 a2 b1 b2 : Int) (n g : Nat) (vo : Option Addr) (vcap p5 p2 p6 pr ps : Nat) (w W : World) : Prop where
  bel : Below w.heap.size w W
  a0 : W.cell? ⟨w.heap.size, 0, none⟩ = some (.int .i64 a1)
  a1 : W.cell? ⟨w.heap.size, 1, none⟩ = some (.int .i64 a2)
  b0 : W.cell? ⟨w.heap.size + 1, 0, none⟩ = some (.int .i64 b1)
  b1 : W.cell? ⟨w.heap.size + 1, 1, none⟩ = some (.int .i64 b2)
  r0 : W.cell? ⟨pr, 0, none⟩ = some (.int .i64 k)
  r1 : W.cell? ⟨pr, 1, none⟩ = some (.int .i64 hs.length)
  r2 : W.cell? ⟨pr, 2, none⟩ = some (.func (.func 43) #[] #[.pointer (some ⟨p5, 0, none⟩), .pointer (some ⟨p6, 0, none⟩)])
  c5 : W.cell? ⟨p5, 0, none⟩ = some (.slice vo hs.length vcap)
  c2 : W.cell? ⟨p2, 0, none⟩ = some (.int .i64 k)
  c6 : W.cell? ⟨p6, 0, none⟩ = some (.func (.func 41) #[] #[.pointer (some ⟨p5, 0, none⟩), .pointer (some ⟨p2, 0, none⟩), .pointer (some ⟨p6, 0, none⟩)])
  s0 : W.cell? ⟨ps, 0, none⟩ = some (.int .i64 k)
  s1 : W.cell? ⟨ps, 1, none⟩ = some (.int .i64 hs.length)
  s2 : W.cell? ⟨ps, 2, none⟩ = some (.slice ao hs.length cap)
  s3 : W.cell? ⟨ps, 3, none⟩ = some (.bool false)
  own : W.ownsRow w.heap.size 9 1 (.slice vo hs.length vcap) hs.length (strs' hs)
  gc : ∀ j, j < n → ∃ s, W.cell? ⟨g, j, none⟩ = some (.string s)
  gf : ∀ j, W.frozen? ⟨g, j, none⟩ = false
  hg : w.heap.size + 2 ≤ g ∧ pr ≠ g ∧ p5 ≠ g ∧ p2 ≠ g ∧ p6 ≠ g ∧ ps ≠ g ∧ g < W.heap.size
  off : ∀ q, (Value.slice vo hs.length vcap).ownBlock = some q → q ≠ g
section
variable {k : Int} {ao : Option Addr} {hs : List ByteArray} {cap : Nat} {a1 a2 b1 b2 : Int} {n g : Nat} {vo : Option Addr} {vcap p5 p2 p6 pr ps : Nat} {w W W' : World}
theorem PO.below (h : PO k ao hs cap a1 a2 b1 b2 n g vo vcap p5 p2 p6 pr ps w W) (hb : Below W.heap.size W W') : PO k ao hs cap a1 a2 b1 b2 n g vo vcap p5 p2 p6 pr ps w W' := by
  have hk := fun {p : Addr} {v : Value} (hc : W.cell? p = some v) => (hb.cell (World.block_lt_of_cell? _ _ hc)).trans hc
  refine ⟨Below.then' h.bel hb, hk h.a0, hk h.a1, hk h.b0, hk h.b1, hk h.r0, hk h.r1, hk h.r2, hk h.c5, hk h.c2, hk h.c6, hk h.s0, hk h.s1, hk h.s2, hk h.s3, ?_, ?_, ?_, ?_, h.off⟩
  · exact World.ownsRow.kept h.own (row := none) ⟨hb.os, hb.tape, hb.output, hb.size, fun b hlt _ => hb.block b hlt⟩ (by cases (Value.slice vo hs.length vcap).ownBlock <;> simp)
  · intro j hj; obtain ⟨s, hs⟩ := h.gc j hj; exact ⟨s, hk hs⟩
  · intro j; exact (hb.frozen h.hg.2.2.2.2.2.2).trans (h.gf j)
  · exact ⟨h.hg.1, h.hg.2.1, h.hg.2.2.1, h.hg.2.2.2.1, h.hg.2.2.2.2.1, h.hg.2.2.2.2.2.1, Nat.lt_of_lt_of_le h.hg.2.2.2.2.2.2 hb.size⟩
theorem PO.mark (h : PO k ao hs cap a1 a2 b1 b2 n g vo vcap p5 p2 p6 pr ps w W) (i : Nat) (hi : i < n) (s : ByteArray) : PO k ao hs cap a1 a2 b1 b2 n g vo vcap p5 p2 p6 pr ps w (W.setCell ⟨g, i, none⟩ (.string s)) := by
  obtain ⟨g1, g2, g3, g4, g5, g6, g7⟩ := h.hg
  have hk := fun {q j : Nat} {v : Value} (hq : q ≠ g) (hc : W.cell? ⟨q, j, none⟩ = some v) => (show (W.setCell ⟨g, i, none⟩ (.string s)).cell? ⟨q, j, none⟩ = some v by
    rw [World.cell?_setCell_other _ _ _ _ (by intro e; cases e; exact hq rfl)]; exact hc)
  refine ⟨h.bel.setCell (by show w.heap.size ≤ g; omega) _, hk (by omega) h.a0, hk (by omega) h.a1, hk (by omega) h.b0, hk (by omega) h.b1, hk g2 h.r0, hk g2 h.r1, hk g2 h.r2, hk g3 h.c5, hk g4 h.c2, hk g5 h.c6, hk g6 h.s0, hk g6 h.s1, hk g6 h.s2, hk g6 h.s3, ?_, ?_, ?_, ⟨g1, g2, g3, g4, g5, g6, by simpa using g7⟩, h.off⟩
  · have hgr : W.grownBy (W.setCell ⟨g, i, none⟩ (.string s)) (some g) := ⟨rfl, rfl, rfl, by simp, fun q _ hne => Below.heap_setCell W ⟨g, i, none⟩ (.string s) q (fun e => hne (by rw [e]))⟩
    refine World.ownsRow.kept h.own hgr ?_
    cases hv : (Value.slice vo hs.length vcap).ownBlock with
    | none => exact .inl rfl
    | some q => exact .inr (fun e => h.off q hv (by simpa using e))
  · intro j hj
    obtain ⟨t, ht⟩ := h.gc j hj
    by_cases e : j = i
    · subst e; exact ⟨s, World.cell?_setCell_same _ _ _ ht⟩
    · exact ⟨t, by rw [World.cell?_setCell_other _ _ _ _ (by intro e2; cases e2; exact e rfl)]; exact ht⟩
  · intro j; simpa using h.gf j
theorem PO.of (h : PO k ao hs cap a1 a2 b1 b2 n g vo vcap p5 p2 p6 pr ps w W) (hg : GlobP w) : OfBox k vo hs vcap p5 p2 p6 W := by
  refine ⟨h.c5, ?_, h.c2, h.c6, hg.below h.bel⟩
  obtain ⟨a, c, e, _, hr⟩ := own_row h.own
  cases e
  exact hr
theorem PO.src (h : PO k ao hs cap a1 a2 b1 b2 n g vo vcap p5 p2 p6 pr ps w W) (hx : RowAt w ao (strs' hs)) (hg : GlobR w) : SrcAt k ao hs cap ps W :=
  ⟨h.s0, h.s1, h.s2, h.s3, hx.below h.bel, hg.below h.bel⟩
end
end Go.Proofs.YtocjjiacmedjmaaDoor
