/- The reference's hashes that are taken one after the other. -/
import Derived.Test.YtcgfeeommhljgaaDoorTaken
set_option maxRecDepth 100000
namespace Go.Proofs.YtcgfeeommhljgaaDoor
open Go Go.RowKit

/-- Block tb: a proof's hashes, u of them used; claimed ones, v of them met. -/
structure RTaken (B tb : Nat) (xs ys : List ByteArray) (u v : Nat) (w : World) : Prop where
  le : B ≤ tb
  lt : tb < w.heap.size
  free1 : w.frozen? ⟨tb, 1, none⟩ = false
  free3 : w.frozen? ⟨tb, 3, none⟩ = false
  proof : ∃ ao cap, w.cell? ⟨tb, 0, none⟩ = some (.slice ao xs.length cap) ∧ RowU B w ao (strs' xs)
  used : w.cell? ⟨tb, 1, none⟩ = some (.int .i64 u)
  claimed : ∃ ao cap, w.cell? ⟨tb, 2, none⟩ = some (.slice ao ys.length cap) ∧ RowU B w ao (strs' ys)
  met : w.cell? ⟨tb, 3, none⟩ = some (.int .i64 v)
theorem RTaken.below {B tb u v : Nat} {xs ys : List ByteArray} {w w' : World} (h : RTaken B tb xs ys u v w) (hb : Below w.heap.size w w') : RTaken B tb xs ys u v w' := by
  obtain ⟨ao, cap, h1, h2⟩ := h.proof
  obtain ⟨ao', cap', h3, h4⟩ := h.claimed
  exact ⟨h.le, Nat.lt_of_lt_of_le h.lt hb.size, (hb.frozen h.lt).trans h.free1, (hb.frozen h.lt).trans h.free3, ⟨ao, cap, (hb.cell h.lt).trans h1, h2.below hb⟩, (hb.cell h.lt).trans h.used, ⟨ao', cap', (hb.cell h.lt).trans h3, h4.below hb⟩, (hb.cell h.lt).trans h.met⟩
theorem grown_cell (w : World) (tb j : Nat) (v : Value) : w.grownBy (w.setCell ⟨tb, j, none⟩ v) (some tb) := grown_set (grownBy_refl _ _) _ _
theorem RTaken.next {B tb u v : Nat} {xs ys : List ByteArray} {w : World} (h : RTaken B tb xs ys u v w) (n : Nat) : RTaken B tb xs ys n v (w.setCell ⟨tb, 1, none⟩ (.int .i64 n)) := by
  obtain ⟨ao, cap, h1, h2⟩ := h.proof
  obtain ⟨ao', cap', h3, h4⟩ := h.claimed
  have hg := grown_cell w tb 1 (.int .i64 n)
  exact ⟨h.le, by simpa using h.lt, by rw [World.frozen?_setCell]; exact h.free1, by rw [World.frozen?_setCell]; exact h.free3, ⟨ao, cap, by rw [World.cell?_setCell_other _ _ _ _ (by simp)]; exact h1, h2.grown hg h.le⟩,
    World.cell?_setCell_same _ _ _ h.used, ⟨ao', cap', by rw [World.cell?_setCell_other _ _ _ _ (by simp)]; exact h3, h4.grown hg h.le⟩, by rw [World.cell?_setCell_other _ _ _ _ (by simp)]; exact h.met⟩
theorem RTaken.claim {B tb u v : Nat} {xs ys : List ByteArray} {w : World} (h : RTaken B tb xs ys u v w) (n : Nat) : RTaken B tb xs ys u n (w.setCell ⟨tb, 3, none⟩ (.int .i64 n)) := by
  obtain ⟨ao, cap, h1, h2⟩ := h.proof
  obtain ⟨ao', cap', h3, h4⟩ := h.claimed
  have hg := grown_cell w tb 3 (.int .i64 n)
  exact ⟨h.le, by simpa using h.lt, by rw [World.frozen?_setCell]; exact h.free1, by rw [World.frozen?_setCell]; exact h.free3, ⟨ao, cap, by rw [World.cell?_setCell_other _ _ _ _ (by simp)]; exact h1, h2.grown hg h.le⟩,
    by rw [World.cell?_setCell_other _ _ _ _ (by simp)]; exact h.used, ⟨ao', cap', by rw [World.cell?_setCell_other _ _ _ _ (by simp)]; exact h3, h4.grown hg h.le⟩, World.cell?_setCell_same _ _ _ h.met⟩
theorem RTaken.drewN {B tb u v : Nat} {xs ys : List ByteArray} {w : World} (h : RTaken B tb xs ys u v w) (n : Nat) : RTaken B tb xs ys u v (w.drewN n) := h.below (below_drewN (Below.refl _ _) n)
theorem grown_drewN {w0 w : World} {r : Option Nat} (h : w0.grownBy w r) (n : Nat) : w0.grownBy (w.drewN n) r := ⟨h.os, h.tape, h.output, h.size, h.block⟩
theorem rtaken_new (w : World) (ao ao' : Option Addr) (xs ys : List ByteArray) (cap cap' : Nat) (hr : RowAt w ao (strs' xs)) (hr' : RowAt w ao' (strs' ys)) (ty : TypeId) : RTaken w.heap.size w.heap.size xs ys 0 0 (w.alloc (.cells #[.slice ao xs.length cap, .int .i64 0, .slice ao' ys.length cap', .int .i64 0] ty)) := by
  have hb := (Below.refl w.heap.size w).alloc (Nat.le_refl _) (.cells #[.slice ao xs.length cap, .int .i64 0, .slice ao' ys.length cap', .int .i64 0] ty)
  refine ⟨Nat.le_refl _, by simp, (Arr.new w ty [.slice ao xs.length cap, .int .i64 0, .slice ao' ys.length cap', .int .i64 0]).frozen 1, (Arr.new w ty [.slice ao xs.length cap, .int .i64 0, .slice ao' ys.length cap', .int .i64 0]).frozen 3, ⟨ao, cap, ?_, (RowU.of hr).below hb⟩, ?_, ⟨ao', cap', ?_, (RowU.of hr').below hb⟩, ?_⟩
  all_goals (rw [cell_of_row _ _ _ _ _ _ (heap_alloc_new w _)]; simp)

theorem ref_next (B tb : Nat) (xs ys : List ByteArray) (u v : Nat) (hu : u < xs.length) (hl : xs.length ≤ 140737488355328) (w : World) (h : RTaken B tb xs ys u v w) :
    Calls Tryd.prog 90 #[.pointer (some ⟨tb, 0, none⟩)] w fun e w' => e = .returned (.string (xs.getD u ⟨#[]⟩)) ∧ RTaken B tb xs ys (u + 1) v w' ∧ w.grownBy w' (some tb) := by
  have H := hid h
  have HN := hid (h.next (u + 1))
  obtain ⟨ao, cap, hc, hr⟩ := (h.next (u + 1)).proof
  obtain ⟨ao2, cap2, hc2, _⟩ := h.proof
  have hus := h.used
  have hfz := h.free1
  have hgd : xs.getD u ⟨#[]⟩ = xs[u] := by rw [List.getD_eq_getElem?_getD, List.getElem?_eq_getElem hu]; rfl
  rcases hr with hr | ⟨b, off, rfl, hb, hcl⟩
  · have : xs.length = 0 := by have := congrArg List.length hr; rw [strs'_length] at this; exact this
    omega
  · have h0 := hcl u (by rw [strs'_length]; omega)
    rw [strsG _ u hu] at h0
    rw [hgd]
    obtain ⟨x, hx⟩ : ∃ x, x = xs[u] := ⟨_, rfl⟩
    rw [← hx] at h0 ⊢
    have i1 : (0 : Int) ≤ (u : Int) := by omega
    have i2 : (u : Int) < (xs.length : Int) := by omega
    have hcu : ((u : Int) + 1) = ((u + 1 : Nat) : Int) := by omega
    have hset : w.setCell ⟨tb, 1, none⟩ (.int .i64 ((u : Int) + 1)) = w.setCell ⟨tb, 1, none⟩ (.int .i64 ((u + 1 : Nat) : Int)) := by rw [hcu]
    rw [← hset] at hc h0
    have HST := hid hset
    have hw1 := World.cell?_setCell_same w ⟨tb, 1, none⟩ (.int .i64 ((u : Int) + 1)) hus
    clear hgd hx hcl h hcu hset hc2
    go_enter Tryd.func90, Tryd.ntmps90
    go_wp2_with fail
    go_quiet (fail)
    go_wp2_with fail
    go_ret
    exact ⟨rfl, by have := HN.out; rw [← HST.out] at this; exact this.drewN _, grown_drewN (grown_cell _ _ _ _) _⟩

theorem ref_claim (B tb : Nat) (xs ys : List ByteArray) (u v : Nat) (hu : v < ys.length) (hl : ys.length ≤ 140737488355328) (w : World) (h : RTaken B tb xs ys u v w) :
    Calls Tryd.prog 91 #[.pointer (some ⟨tb, 0, none⟩)] w fun e w' => e = .returned (.string (ys.getD v ⟨#[]⟩)) ∧ RTaken B tb xs ys u (v + 1) w' ∧ w.grownBy w' (some tb) := by
  have H := hid h
  have HN := hid (h.claim (v + 1))
  obtain ⟨ao, cap, hc, hr⟩ := (h.claim (v + 1)).claimed
  have hus := h.met
  have hfz := h.free3
  have hgd : ys.getD v ⟨#[]⟩ = ys[v] := by rw [List.getD_eq_getElem?_getD, List.getElem?_eq_getElem hu]; rfl
  rcases hr with hr | ⟨b, off, rfl, hb, hcl⟩
  · have : ys.length = 0 := by have := congrArg List.length hr; rw [strs'_length] at this; exact this
    omega
  · have h0 := hcl v (by rw [strs'_length]; omega)
    rw [strsG _ v hu] at h0
    rw [hgd]
    obtain ⟨x, hx⟩ : ∃ x, x = ys[v] := ⟨_, rfl⟩
    rw [← hx] at h0 ⊢
    have i1 : (0 : Int) ≤ (v : Int) := by omega
    have i2 : (v : Int) < (ys.length : Int) := by omega
    have hcu : ((v : Int) + 1) = ((v + 1 : Nat) : Int) := by omega
    have hset : w.setCell ⟨tb, 3, none⟩ (.int .i64 ((v : Int) + 1)) = w.setCell ⟨tb, 3, none⟩ (.int .i64 ((v + 1 : Nat) : Int)) := by rw [hcu]
    rw [← hset] at hc h0
    have HST := hid hset
    have hw1 := World.cell?_setCell_same w ⟨tb, 3, none⟩ (.int .i64 ((v : Int) + 1)) hus
    clear hgd hx hcl h hcu hset
    go_enter Tryd.func91, Tryd.ntmps91
    go_wp2_with fail
    go_quiet (fail)
    go_wp2_with fail
    go_ret
    exact ⟨rfl, by have := HN.out; rw [← HST.out] at this; exact this.drewN _, grown_drewN (grown_cell _ _ _ _) _⟩
end Go.Proofs.YtcgfeeommhljgaaDoor
