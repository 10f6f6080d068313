/- Hashes that are taken one after the other: the program's, the reference's. -/
import Derived.Test.YtcgfeeommhljgaaDoorIncl2
set_option maxRecDepth 100000
namespace Go.Proofs.YtcgfeeommhljgaaDoor
open Go Go.RowKit

/-- These cells lie from ao on, in a block below B. -/
def RowU (B : Nat) (w : World) (ao : Option Addr) (cs : List Value) : Prop :=
  cs = [] ∨ ∃ b off, ao = some ⟨b, off, none⟩ ∧ b < B ∧ ∀ i (h : i < cs.length), w.cell? ⟨b, off + i, none⟩ = some cs[i]
theorem RowU.of {w : World} {ao : Option Addr} {cs : List Value} (h : RowAt w ao cs) : RowU w.heap.size w ao cs := by
  rcases h with rfl | ⟨b, off, e, hc⟩
  · exact .inl rfl
  · by_cases h0 : 0 < cs.length
    · exact .inr ⟨b, off, e, World.block_lt_of_cell? w _ (hc 0 h0), hc⟩
    · exact .inl (List.eq_nil_of_length_eq_zero (by omega))
theorem RowU.mono {B B' : Nat} {w : World} {ao : Option Addr} {cs : List Value} (h : RowU B w ao cs) (hB : B ≤ B') : RowU B' w ao cs := by
  rcases h with rfl | ⟨b, off, e, hb, hc⟩
  · exact .inl rfl
  · exact .inr ⟨b, off, e, by omega, hc⟩
theorem RowU.grown {B t : Nat} {w w' : World} {ao : Option Addr} {cs : List Value} (h : RowU B w ao cs) (hg : w.grownBy w' (some t)) (ht : B ≤ t) : RowU B w' ao cs := by
  rcases h with rfl | ⟨b, off, e, hb, hc⟩
  · exact .inl rfl
  · exact .inr ⟨b, off, e, hb, fun i hi => hg.cell (hc i hi) (by intro e; cases e; exact absurd hb (by simp; omega))⟩
theorem RowU.below {B : Nat} {w w' : World} {ao : Option Addr} {cs : List Value} (h : RowU B w ao cs) (hb : Below w.heap.size w w') : RowU B w' ao cs := by
  rcases h with rfl | ⟨b, off, e, hb', hc⟩
  · exact .inl rfl
  · exact .inr ⟨b, off, e, hb', fun i hi => (hb.cell (World.block_lt_of_cell? w _ (hc i hi))).trans (hc i hi)⟩

/-- Block tb: of these hashes the first u are taken. -/
structure TakenAt (B tb : Nat) (xs : List ByteArray) (u : Nat) (w : World) : Prop where
  le : B ≤ tb
  lt : tb < w.heap.size
  used : u ≤ xs.length
  free : w.frozen? ⟨tb, 0, none⟩ = false
  cell : ∃ ao cap, w.cell? ⟨tb, 0, none⟩ = some (.slice ao (xs.length - u) cap) ∧ xs.length - u ≤ cap ∧ RowU B w ao (strs' (xs.drop u))
theorem TakenAt.grown {B tb t u : Nat} {xs : List ByteArray} {w w' : World} (h : TakenAt B tb xs u w) (hg : w.grownBy w' (some t)) (hne : t ≠ tb) (ht : B ≤ t) : TakenAt B tb xs u w' := by
  have hb := hg.block tb h.lt (by intro e; cases e; exact hne rfl)
  obtain ⟨ao, cap, hc, hle, hr⟩ := h.cell
  exact ⟨h.le, Nat.lt_of_lt_of_le h.lt hg.size, h.used, (World.frozen?_of_block (w := w) hb).trans h.free, ao, cap, (World.cell?_of_block (w := w) hb).trans hc, hle, hr.grown hg ht⟩
theorem TakenAt.below {B tb u : Nat} {xs : List ByteArray} {w w' : World} (h : TakenAt B tb xs u w) (hb : Below w.heap.size w w') : TakenAt B tb xs u w' := by
  obtain ⟨ao, cap, hc, hle, hr⟩ := h.cell
  exact ⟨h.le, Nat.lt_of_lt_of_le h.lt hb.size, h.used, (hb.frozen h.lt).trans h.free, ao, cap, (hb.cell h.lt).trans hc, hle, hr.below hb⟩
theorem taken_new (w : World) (ao : Option Addr) (xs : List ByteArray) (cap : Nat) (hc : xs.length ≤ cap) (hr : RowAt w ao (strs' xs)) (ty : TypeId) : TakenAt w.heap.size w.heap.size xs 0 (w.alloc (.cells #[.slice ao xs.length cap] ty)) := by
  refine ⟨Nat.le_refl _, by simp, by omega, (Arr.new w ty [.slice ao xs.length cap]).frozen 0, ao, cap, ?_, by omega, ?_⟩
  · rw [cell_of_row _ _ 0 _ _ _ (heap_alloc_new w _)]; simp
  · exact (RowU.of hr).below ((Below.refl _ _).alloc (Nat.le_refl _) _)
theorem taken_set {B tb u : Nat} {xs : List ByteArray} {w : World} (h : TakenAt B tb xs u w) (hu : u < xs.length) (ao' : Option Addr) (cap' : Nat) (hc : xs.length - (u + 1) ≤ cap') (hr : RowU B w ao' (strs' (xs.drop (u + 1)))) :
    TakenAt B tb xs (u + 1) (w.setCell ⟨tb, 0, none⟩ (.slice ao' (xs.length - (u + 1)) cap')) := by
  obtain ⟨ao, cap, hcl, _, _⟩ := h.cell
  exact ⟨h.le, by simpa using h.lt, hu, by rw [World.frozen?_setCell]; exact h.free, ao', cap', World.cell?_setCell_same _ _ _ hcl, hc, hr.grown ⟨rfl, rfl, rfl, by simp, fun k _ hk => Below.heap_setCell w ⟨tb, 0, none⟩ _ k (fun e => hk (by rw [e]))⟩ h.le⟩

theorem check_next (B tb : Nat) (xs : List ByteArray) (u : Nat) (hu : u < xs.length) (_hl : xs.length ≤ 140737488355328) (w : World) (h : TakenAt B tb xs u w) :
    Calls Tryd.prog 63 #[.pointer (some ⟨tb, 0, none⟩)] w fun e w' => e = .returned (.string (xs.getD u ⟨#[]⟩)) ∧ TakenAt B tb xs (u + 1) w' ∧ w.grownBy w' (some tb) := by
  have H := hid h
  obtain ⟨ao, cap, hc, hle, hr⟩ := h.cell
  have hfz := h.free
  have hd : xs.drop u = xs[u] :: xs.drop (u + 1) := List.drop_eq_getElem_cons hu
  have hgd : xs.getD u ⟨#[]⟩ = xs[u] := by rw [List.getD_eq_getElem?_getD, List.getElem?_eq_getElem hu]; rfl
  rcases hr with hr | ⟨b, off, rfl, hb, hcl⟩
  · have hlz := congrArg List.length hr
    rw [strs'_length, List.length_drop] at hlz
    simp at hlz
    omega
  · have h0 := hcl 0 (by rw [strs'_length, List.length_drop]; omega)
    rw [strsG _ 0 (by rw [List.length_drop]; omega)] at h0
    simp only [hd, List.getElem_cons_zero, Nat.add_zero] at h0
    rw [hgd]
    obtain ⟨x, hx⟩ : ∃ x, x = xs[u] := ⟨_, rfl⟩
    rw [← hx] at h0 ⊢
    obtain ⟨j, hj⟩ : ∃ j, xs.length - u = j + 1 := ⟨xs.length - u - 1, by omega⟩
    have hj2 : xs.length - (u + 1) = j := by omega
    rw [hj] at hc hle
    have hrest : ∀ i (hi : i < (strs' (xs.drop (u + 1))).length), w.cell? ⟨b, off + 1 + i, none⟩ = some (strs' (xs.drop (u + 1)))[i] := by
      intro i hi
      have := hcl (i + 1) (by rw [strs'_length, List.length_drop] at hi ⊢; omega)
      rw [strs'_length, List.length_drop] at hi
      rw [strsG _ _ (by rw [List.length_drop]; omega)] at this ⊢
      rw [show off + 1 + i = off + (i + 1) by omega, this]
      simp [Nat.add_comm, Nat.add_left_comm]
    by_cases hcap : cap = 1
    · subst hcap
      have hj0 : j = 0 := by omega
      subst hj0
      have HS := hid (taken_set H.out hu (some ⟨b, off, none⟩) 0 (by omega) (.inl (by rw [List.drop_eq_nil_of_le (by omega)]; rfl)))
      rw [hj2] at HS
      clear hd hgd hx hj hj2 hrest hcl h
      go_enter Tryd.func63, Tryd.ntmps63
      go_wp2_with fail
      go_ret
      exact ⟨rfl, HS.out, grown_set (grownBy_refl _ _) _ _⟩
    · have HS := hid (taken_set H.out hu (some ⟨b, off + 1, none⟩) (cap - 1) (by omega) (.inr ⟨b, off + 1, rfl, hb, hrest⟩))
      rw [hj2] at HS
      have hcap' : ¬ 1 = cap := fun e => hcap e.symm
      have i1 : (1 : Int) ≤ (j : Int) + 1 := by omega
      have i2 : (1 : Int) ≤ (cap : Int) := by omega
      clear hd hgd hx hj hj2 hrest hcl h
      go_enter Tryd.func63, Tryd.ntmps63
      go_wp2_with fail
      go_ret
      exact ⟨rfl, HS.out, grown_set (grownBy_refl _ _) _ _⟩
end Go.Proofs.YtcgfeeommhljgaaDoor
