/- What is read of a compact range: the program's reader. -/
import Derived.Test.YtocjjiacmedjmaaRdHashes
import Derived.Test.YtocjjiacmedjmaaGrew
import Derived.Test.YtocjjiacmedjmaaRefCover
import Derived.Deep.RegionHeld3
set_option maxRecDepth 100000
namespace Go.Proofs.Ytocjjiacmedjmaa
open Go Go.RowKit

def ufW (s : ByteArray) : Nat × St := rdWidth s (rdMark s 70 (.ok 0))
def ufLo (s : ByteArray) : Nat × St := rdNum s 4611686018427387904 10 (ufW s).2
def ufHi (s : ByteArray) : Nat × St := rdNum s 4611686018427387904 10 (ufLo s).2
def ufSt (s : ByteArray) : St := if (ufHi s).1 < (ufLo s).1 then stNo 10 (ufHi s).2 else (ufHi s).2
def ufHs (s : ByteArray) : List ByteArray × St := rdHashes s (ufW s).1 (coverN (ufLo s).1 (ufHi s).1).length (ufSt s) []
structure FrP where
  lo : Nat
  hi : Nat
  hs : List ByteArray
def noFr : FrP := ⟨0, 0, []⟩
/-- The range read, the width, the refusal. -/
def unFrontier (s : ByteArray) : FrP × Nat × Int :=
  match ufSt s with
  | .error k => (noFr, 0, k)
  | .ok _ => if rdEnd s (ufHs s).2 = 0 then (⟨(ufLo s).1, (ufHi s).1, (ufHs s).1⟩, (ufW s).1, 0) else (noFr, 0, rdEnd s (ufHs s).2)
def UnFr (r : FrP × Nat × Int) (w : World) (e : Ending) (w' : World) : Prop :=
  ∃ v, e = .returned (.tuple #[.agg #[.int .i64 r.1.lo, .int .i64 r.1.hi, v], .int .i64 r.2.1, .int .i64 r.2.2]) ∧ w'.ownsRow w.heap.size 9 1 v r.1.hs.length (strs' r.1.hs) ∧ Below w.heap.size w w'
theorem results_cell2 {fn : Func} {p u q : Tmp} {ty : TypeId} (h : fn.results = #[.cell p ty, .tmp u, .tmp q]) (tmps : Array Value) (P : Program) (w : World) :
    (results fn tmps).run P w = ((asAddr (tmps.getD p undef)).run P w).andThen fun a w₁ => ((loadVar ty a).run P w₁).andThen fun v w₂ => .ok (.tuple #[v, tmps.getD u undef, tmps.getD q undef]) w₂ := by
  simp only [results, h]
  simp [Sem.run_bind, Result.andThen]
def store3 (w : World) (p : Nat) (v0 v1 v2 : Value) : World := ((w.setCell ⟨p, 0, none⟩ v0).setCell ⟨p, 1, none⟩ v1).setCell ⟨p, 2, none⟩ v2
theorem store3_cells {w : World} {p : Nat} {u0 u1 u2 : Value} (h0 : w.cell? ⟨p, 0, none⟩ = some u0) (h1 : w.cell? ⟨p, 1, none⟩ = some u1) (h2 : w.cell? ⟨p, 2, none⟩ = some u2) (v0 v1 v2 : Value) :
    (store3 w p v0 v1 v2).cell? ⟨p, 0, none⟩ = some v0 ∧ (store3 w p v0 v1 v2).cell? ⟨p, 1, none⟩ = some v1 ∧ (store3 w p v0 v1 v2).cell? ⟨p, 2, none⟩ = some v2 := by
  unfold store3
  have a1 : ∀ v, (w.setCell ⟨p, 0, none⟩ v).cell? ⟨p, 1, none⟩ = some u1 := fun v => by rw [World.cell?_setCell_other _ _ _ _ (by simp)]; exact h1
  have a2 : ∀ v v', ((w.setCell ⟨p, 0, none⟩ v).setCell ⟨p, 1, none⟩ v').cell? ⟨p, 2, none⟩ = some u2 := fun v v' => by rw [World.cell?_setCell_other _ _ _ _ (by simp), World.cell?_setCell_other _ _ _ _ (by simp)]; exact h2
  refine ⟨?_, ?_, World.cell?_setCell_same _ _ _ (a2 _ _)⟩
  · rw [World.cell?_setCell_other _ _ _ _ (by simp), World.cell?_setCell_other _ _ _ _ (by simp)]; exact World.cell?_setCell_same _ _ _ h0
  · rw [World.cell?_setCell_other _ _ _ _ (by simp)]; exact World.cell?_setCell_same _ _ _ (a1 _)
theorem store3_grown (w : World) (p : Nat) (v0 v1 v2 : Value) : w.grownBy (store3 w p v0 v1 v2) (some p) := by
  unfold store3
  have g : ∀ (W : World) (i : Nat) (u : Value), W.grownBy (W.setCell ⟨p, i, none⟩ u) (some p) := fun W i u => ⟨rfl, rfl, rfl, by simp, fun k _ hk => Below.heap_setCell W ⟨p, i, none⟩ u k (fun e => hk (by rw [e]))⟩
  exact ((g _ _ _).trans (g _ _ _)).trans (g _ _ _)
/-- The reader's block b, the result's block r ahead of it. -/
structure FRd (w : World) (s : ByteArray) (st : St) (v3 v4 v5 : Value) (W : World) : Prop where
  rd : Rd (w.heap.size + 1) s st W
  c3 : W.cell? ⟨w.heap.size + 1, 3, none⟩ = some v3
  c4 : W.cell? ⟨w.heap.size + 1, 4, none⟩ = some v4
  c5 : W.cell? ⟨w.heap.size + 1, 5, none⟩ = some v5
  fz : ∀ i, W.frozen? ⟨w.heap.size + 1, i, none⟩ = false
  r0 : W.cell? ⟨w.heap.size, 0, none⟩ = some (.int .i64 0)
  r1 : W.cell? ⟨w.heap.size, 1, none⟩ = some (.int .i64 0)
  r2 : W.cell? ⟨w.heap.size, 2, none⟩ = some (.slice none 0 0)
  rz : ∀ i, W.frozen? ⟨w.heap.size, i, none⟩ = false
  bel : Below w.heap.size w W
  size : w.heap.size + 2 ≤ W.heap.size
section
variable {w : World} {s : ByteArray} {st st' : St} {v3 v4 v5 : Value} {W W' : World}
theorem FRd.only (h : FRd w s st v3 v4 v5 W) (r : Rd (w.heap.size + 1) s st' W') (o : Only (w.heap.size + 1) W W') : FRd w s st' v3 v4 v5 W' := by
  have hs := h.size
  have hb : W'.heap[w.heap.size]? = W.heap[w.heap.size]? := o.block _ (by omega) (by omega)
  have hc : ∀ i, W'.cell? ⟨w.heap.size, i, none⟩ = W.cell? ⟨w.heap.size, i, none⟩ := fun i => by simp [World.cell?, hb]
  have hf : ∀ i, W'.frozen? ⟨w.heap.size, i, none⟩ = W.frozen? ⟨w.heap.size, i, none⟩ := fun i => by simp [World.frozen?, hb]
  exact ⟨r, (o.cell 3 (by decide) (by decide)).trans h.c3, (o.cell 4 (by decide) (by decide)).trans h.c4, (o.cell 5 (by decide) (by decide)).trans h.c5, fun i => (o.frozen i).trans (h.fz i), (hc 0).trans h.r0, (hc 1).trans h.r1, (hc 2).trans h.r2, fun i => (hf i).trans (h.rz i), h.bel.trans (o.below (B := w.heap.size) (by omega) (by omega)), Nat.le_trans hs o.size⟩
theorem FRd.below (h : FRd w s st v3 v4 v5 W) (hb : Below W.heap.size W W') : FRd w s st v3 v4 v5 W' :=
  h.only (h.rd.below hb) (Only.of hb h.rd.lt)
theorem FRd.drew (h : FRd w s st v3 v4 v5 W) : FRd w s st v3 v4 v5 W.drew := h.below (Below.refl _ _).drew
theorem FRd.put (h : FRd w s st v3 v4 v5 W) (i : Nat) (hi : 3 ≤ i) (v : Value) : Rd (w.heap.size + 1) s st (W.setCell ⟨w.heap.size + 1, i, none⟩ v) ∧ (∀ j, (W.setCell ⟨w.heap.size + 1, i, none⟩ v).frozen? ⟨w.heap.size + 1, j, none⟩ = false) ∧
    (W.setCell ⟨w.heap.size + 1, i, none⟩ v).cell? ⟨w.heap.size, 0, none⟩ = some (.int .i64 0) ∧ (W.setCell ⟨w.heap.size + 1, i, none⟩ v).cell? ⟨w.heap.size, 1, none⟩ = some (.int .i64 0) ∧ (W.setCell ⟨w.heap.size + 1, i, none⟩ v).cell? ⟨w.heap.size, 2, none⟩ = some (.slice none 0 0) ∧
    (∀ j, (W.setCell ⟨w.heap.size + 1, i, none⟩ v).frozen? ⟨w.heap.size, j, none⟩ = false) ∧ Below w.heap.size w (W.setCell ⟨w.heap.size + 1, i, none⟩ v) ∧ w.heap.size + 2 ≤ (W.setCell ⟨w.heap.size + 1, i, none⟩ v).heap.size := by
  refine ⟨h.rd.far hi v, fun j => by rw [World.frozen?_setCell]; exact h.fz j, ?_, ?_, ?_, fun j => by rw [World.frozen?_setCell]; exact h.rz j, h.bel.setCell (by show w.heap.size ≤ w.heap.size + 1; omega) _, by simpa using h.size⟩
  · rw [World.cell?_setCell_other _ _ _ _ (by simp)]; exact h.r0
  · rw [World.cell?_setCell_other _ _ _ _ (by simp)]; exact h.r1
  · rw [World.cell?_setCell_other _ _ _ _ (by simp)]; exact h.r2
theorem FRd.put3 (h : FRd w s st v3 v4 v5 W) (v : Value) : FRd w s st v v4 v5 (W.setCell ⟨w.heap.size + 1, 3, none⟩ v) := by
  obtain ⟨a, b, c, d, e, f, g, i⟩ := h.put 3 (by decide) v
  exact ⟨a, World.cell?_setCell_same _ _ _ h.c3, by rw [World.cell?_setCell_other _ _ _ _ (by simp)]; exact h.c4, by rw [World.cell?_setCell_other _ _ _ _ (by simp)]; exact h.c5, b, c, d, e, f, g, i⟩
theorem FRd.put4 (h : FRd w s st v3 v4 v5 W) (v : Value) : FRd w s st v3 v v5 (W.setCell ⟨w.heap.size + 1, 4, none⟩ v) := by
  obtain ⟨a, b, c, d, e, f, g, i⟩ := h.put 4 (by decide) v
  exact ⟨a, by rw [World.cell?_setCell_other _ _ _ _ (by simp)]; exact h.c3, World.cell?_setCell_same _ _ _ h.c4, by rw [World.cell?_setCell_other _ _ _ _ (by simp)]; exact h.c5, b, c, d, e, f, g, i⟩
theorem FRd.put5 (h : FRd w s st v3 v4 v5 W) (v : Value) : FRd w s st v3 v4 v (W.setCell ⟨w.heap.size + 1, 5, none⟩ v) := by
  obtain ⟨a, b, c, d, e, f, g, i⟩ := h.put 5 (by decide) v
  exact ⟨a, by rw [World.cell?_setCell_other _ _ _ _ (by simp)]; exact h.c3, by rw [World.cell?_setCell_other _ _ _ _ (by simp)]; exact h.c4, World.cell?_setCell_same _ _ _ h.c5, b, c, d, e, f, g, i⟩
end
theorem FRd.start (s : ByteArray) (w : World) : FRd w s (.ok 0) (.int .i64 0) (.int .i64 0) (.slice none 0 0) ((w.alloc (.cells #[.int .i64 0, .int .i64 0, .slice none 0 0] 44)).alloc (.cells #[.string s, .int .i64 0, .int .i64 0, .int .i64 0, .int .i64 0, .slice none 0 0] 91)) := by
  obtain ⟨W1, hW1⟩ : ∃ W1, W1 = w.alloc (.cells #[.int .i64 0, .int .i64 0, .slice none 0 0] 44) := ⟨_, rfl⟩
  have hz : W1.heap.size = w.heap.size + 1 := by rw [hW1]; simp
  have hr : W1.heap[w.heap.size]? = some (.cells #[.int .i64 0, .int .i64 0, .slice none 0 0] 44 (0, 0)) := by rw [hW1]; exact World.alloc_heap_new w _
  rw [← hW1]
  have hn : (W1.alloc (.cells #[.string s, .int .i64 0, .int .i64 0, .int .i64 0, .int .i64 0, .slice none 0 0] 91)).heap[w.heap.size + 1]? = some (.cells #[.string s, .int .i64 0, .int .i64 0, .int .i64 0, .int .i64 0, .slice none 0 0] 91 (0, 0)) := by rw [← hz]; exact World.alloc_heap_new W1 _
  have ho : (W1.alloc (.cells #[.string s, .int .i64 0, .int .i64 0, .int .i64 0, .int .i64 0, .slice none 0 0] 91)).heap[w.heap.size]? = some (.cells #[.int .i64 0, .int .i64 0, .slice none 0 0] 44 (0, 0)) := (Below.heap_alloc W1 _ _ (by omega)).trans hr
  have hb : Below w.heap.size w (W1.alloc (.cells #[.string s, .int .i64 0, .int .i64 0, .int .i64 0, .int .i64 0, .slice none 0 0] 91)) := by rw [hW1]; exact ((Below.refl _ _).alloc (Nat.le_refl _) _).alloc (by simp) _
  have hsz : w.heap.size + 2 ≤ (W1.alloc (.cells #[.string s, .int .i64 0, .int .i64 0, .int .i64 0, .int .i64 0, .slice none 0 0] 91)).heap.size := by simp; omega
  generalize W1.alloc (.cells #[.string s, .int .i64 0, .int .i64 0, .int .i64 0, .int .i64 0, .slice none 0 0] 91) = V at *
  refine ⟨⟨?_, ?_, ?_, ?_, ?_, by omega⟩, ?_, ?_, ?_, fun i => ?_, ?_, ?_, ?_, fun i => ?_, hb, hsz⟩
  all_goals simp [World.cell?, World.frozen?, hn, ho]
theorem wire_size (b : Nat) (s : ByteArray) (st : St) (hs : s.size ≤ 140737488355328) (w : World) (h : Rd b s st w) :
    Calls Try.prog 40 #[.pointer (some ⟨b, 0, none⟩)] w fun e w' => e = .returned (.int .i64 (rdNum s 4611686018427387904 10 st).1) ∧ Rd b s (rdNum s 4611686018427387904 10 st).2 w' ∧ Only b w w' := by
  have hn := hid (wire_readNumber b s st 4611686018427387904 10 (by decide) (by decide) hs w h)
  clear h
  go_enter Try.func40, Try.ntmps40
  go_wp2_with fail
  refine hn.out.mono ?_
  rintro e w1 ⟨rfl, h1, b1⟩
  have H1 := hid h1; have B1 := hid b1; clear h1 b1
  go_wp2_with fail
  go_ret
  exact ⟨rfl, H1.out, B1.out⟩
end Go.Proofs.Ytocjjiacmedjmaa
