/- Walks of wire.UnHashes and of the reference's. -/
import Derived.Test.YtocjjiacmedjmaaRdHashes
set_option maxRecDepth 100000
namespace Go.Proofs.Ytocjjiacmedjmaa
open Go Go.RowKit

def unHashesW (s : ByteArray) : Nat × St := rdWidth s (rdMark s 72 (.ok 0))
def unHashesN (s : ByteArray) : Nat × St := rdNum s 256 83 (unHashesW s).2
def unHashesSt (s : ByteArray) : List ByteArray × St := rdHashes s (unHashesW s).1 (unHashesN s).1 (unHashesN s).2 []
/-- The hashes read, their width, and the refusal. -/
def unHashes (s : ByteArray) : List ByteArray × Nat × Int := if rdEnd s (unHashesSt s).2 = 0 then ((unHashesSt s).1, (unHashesW s).1, 0) else ([], 0, rdEnd s (unHashesSt s).2)
theorem unHashes_ok (s : ByteArray) {p : Nat} (h : (unHashesN s).2 = .ok p) : ∃ q, (unHashesW s).2 = .ok q := by
  cases h2 : (unHashesW s).2 with
  | ok q => exact ⟨q, rfl⟩
  | error e => unfold unHashesN at h; rw [h2] at h; simp [rdNum] at h
theorem unHashesSt_ok (s : ByteArray) {p : Nat} (h : (unHashesSt s).2 = .ok p) : ∃ q, (unHashesN s).2 = .ok q := by
  cases h2 : (unHashesN s).2 with
  | ok q => exact ⟨q, rfl⟩
  | error e => unfold unHashesSt at h; rw [h2, rdHashes_no] at h; simp at h
/-- What the reader of hashes answers. -/
def UnHs (r : List ByteArray × Nat × Int) (w : World) (e : Ending) (w' : World) : Prop :=
  ∃ v, e = .returned (.tuple #[v, .int .i64 r.2.1, .int .i64 r.2.2]) ∧ w'.ownsRow w.heap.size 9 1 v (strs' r.1).length (strs' r.1) ∧ Below w.heap.size w w'
set_option maxHeartbeats 2000000 in
theorem wire_UnHashes (s : ByteArray) (hs : s.size ≤ 140737488355328) (w : World) :
    Calls Try.prog 20 #[.string s] w (UnHs (unHashes s) w) := by
  have hle := rdNum_le s 256 83 (unHashesW s).2
  have hwle := rdWidth_le s (rdMark s 72 (.ok 0))
  have hmark := hid (wire_mark w.heap.size s (.ok 0) 72 (by decide) hs _ (box_leaves s w))
  have hwd := hid (fun W (hW : Rd w.heap.size s (rdMark s 72 (.ok 0)) W) => wire_width w.heap.size s (rdMark s 72 (.ok 0)) hs W hW)
  have hnum := hid (fun W (hW : Rd w.heap.size s (unHashesW s).2 W) => wire_readNumber w.heap.size s (unHashesW s).2 256 83 (by decide) (by decide) hs W hW)
  have hhs := hid (fun W (hW : Rd w.heap.size s (unHashesN s).2 W) => wire_hashes w.heap.size s (unHashesN s).2 (unHashesN s).1 (unHashesW s).1 (by unfold unHashesN; omega) (by unfold unHashesW; omega) hs W hW)
  have hend := hid (fun W (hW : Rd w.heap.size s (unHashesSt s).2 W) => wire_end w.heap.size s (unHashesSt s).2 W hW)
  have HDEF : Hid (unHashes s = if rdEnd s (unHashesSt s).2 = 0 then ((unHashesSt s).1, (unHashesW s).1, 0) else ([], 0, rdEnd s (unHashesSt s).2)) := rfl
  change Hid (∀ W, Rd w.heap.size s (rdMark s 72 (.ok 0)) W → Calls Try.prog 39 #[.pointer (some ⟨w.heap.size, 0, none⟩)] W fun e w' => e = .returned (.int .i64 (unHashesW s).1) ∧ Rd w.heap.size s (unHashesW s).2 w' ∧ Only w.heap.size W w') at hwd
  change Hid (∀ W, Rd w.heap.size s (unHashesW s).2 W → Calls Try.prog 43 #[.pointer (some ⟨w.heap.size, 0, none⟩), .int .i64 (256 : Nat), .int .i64 83] W fun e w' => e = .returned (.int .i64 (unHashesN s).1) ∧ Rd w.heap.size s (unHashesN s).2 w' ∧ Only w.heap.size W w') at hnum
  change Hid (∀ W, Rd w.heap.size s (unHashesN s).2 W → Calls Try.prog 42 #[.pointer (some ⟨w.heap.size, 0, none⟩), .int .i64 (unHashesN s).1, .int .i64 (unHashesW s).1] W (RdHs w.heap.size s (unHashesSt s) W)) at hhs
  obtain ⟨⟨wd, st1⟩, hw1⟩ : ∃ r, r = unHashesW s := ⟨_, rfl⟩
  obtain ⟨⟨nn, st2⟩, hw2⟩ : ∃ r, r = unHashesN s := ⟨_, rfl⟩
  obtain ⟨⟨xs, st3⟩, hw3⟩ : ∃ r, r = unHashesSt s := ⟨_, rfl⟩
  rw [← hw1] at hwd hnum hhs HDEF
  rw [← hw2] at hnum hhs
  rw [← hw3] at hhs hend HDEF
  simp only at hwd hnum hhs hend HDEF
  have hxl : xs.length ≤ 256 := by
    have := rdHashes_len s (unHashesW s).1 (unHashesN s).1 (unHashesN s).2 []
    have h3 : xs = (unHashesSt s).1 := by rw [← hw3]
    rw [h3]
    unfold unHashesSt
    have h4 : (unHashesN s).1 ≤ 256 := by unfold unHashesN; exact hle
    simp at this; omega
  clear hw1 hw2 hw3 hle hwle
  have hB0 : Hid (Below w.heap.size w (w.alloc (.cells #[.string s, .int .i64 0, .int .i64 0, .slice none 0 0] 98))) := (Below.refl _ _).alloc (Nat.le_refl _) _
  go_enter Try.func20, Try.ntmps20
  go_wp2_with fail
  refine hmark.out.mono ?_
  rintro e w1 ⟨rfl, h1, b1⟩
  have H1 := hid h1; have B1 := hid (hB0.out.trans (b1.below (Nat.le_refl _) (by simp)))
  have hc3 : w1.cell? ⟨w.heap.size, 3, none⟩ = some (.slice none 0 0) := by rw [b1.cell 3 (by decide) (by decide)]; simp [go_sem]
  have hf3 : w1.frozen? ⟨w.heap.size, 3, none⟩ = false := by rw [b1.frozen]; simp [go_sem]
  have hsz1 : w.heap.size + 1 ≤ w1.heap.size := by have := b1.size; simpa using this
  have HC3 := hid hc3; have HF3 := hid hf3
  clear h1 b1 hc3 hf3 hB0 hmark
  go_wp2_with fail
  refine (hwd.out _ H1.out).mono ?_
  rintro e w2 ⟨rfl, h2, b2⟩
  have H2 := hid h2; have B2 := hid (B1.out.trans (b2.below (Nat.le_refl _) (by omega)))
  have hc3 : w2.cell? ⟨w.heap.size, 3, none⟩ = some (.slice none 0 0) := by rw [b2.cell 3 (by decide) (by decide)]; exact HC3.out
  have hf3 : w2.frozen? ⟨w.heap.size, 3, none⟩ = false := by rw [b2.frozen]; exact HF3.out
  have hsz2 : w.heap.size + 1 ≤ w2.heap.size := Nat.le_trans hsz1 b2.size
  clear h2 b2 B1 H1 hsz1 HC3 HF3
  have HC3 := hid hc3; have HF3 := hid hf3
  clear hc3 hf3
  go_wp2_with fail
  go_region_law (first
    | (go_simp; go_at_call 43; refine Calls.mono (hnum.out _ (by exact H2.out)) ?_; rintro e w3 ⟨rfl, h3, b3⟩; have H3 := hid h3; have B3 := hid (B2.out.drew.trans (b3.below (Nat.le_refl _) (Nat.le_trans (Nat.le_succ _) hsz2))); have HC33 : Hid (w3.cell? ⟨w.heap.size, 3, none⟩ = some (.slice none 0 0)) := (b3.cell 3 (by decide) (by decide)).trans HC3.out; have HF33 : Hid (w3.frozen? ⟨w.heap.size, 3, none⟩ = false) := (b3.frozen 3).trans HF3.out; have hsz3 : w.heap.size + 1 ≤ w3.heap.size := Nat.le_trans hsz2 b3.size; clear h3 b3)
    | (go_simp; go_at_call 42; refine Calls.mono (hhs.out _ (by exact H3.out)) ?_; rintro e w4 ⟨v, rfl, ho, h4, b4⟩; obtain ⟨vo, vc, hv, -, -⟩ := own_row ho; subst hv; have H4 := hid h4; have HO4 := hid (own_mono ho hsz3); have B4 := hid (B3.out.trans (b4.below (Nat.le_refl _) (Nat.le_trans (Nat.le_succ _) hsz3))); have hc4 : w4.cell? ⟨w.heap.size, 3, none⟩ = some (.slice none 0 0) := (b4.cell 3 (by decide) (by decide)).trans HC33.out; have hf4 : w4.frozen? ⟨w.heap.size, 3, none⟩ = false := (b4.frozen 3).trans HF33.out; have hsz4 : w.heap.size + 1 ≤ w4.heap.size := Nat.le_trans hsz3 b4.size; clear h4 b4 ho))
  all_goals
    have H5 := hid (H4.out.far (i := 3) (by omega) (.slice vo (strs' xs).length vc))
    have B5 : Hid (Below w.heap.size w (w4.setCell ⟨w.heap.size, 3, none⟩ (.slice vo (strs' xs).length vc))) := B4.out.setCell (Nat.le_refl _) _
    have HO5 := hid (RowKit.ownsRow_setCell_below (a := ⟨w.heap.size, 3, none⟩) HO4.out (Nat.lt_succ_self w.heap.size) (.slice vo (strs' xs).length vc))
    have HC5 : Hid ((w4.setCell ⟨w.heap.size, 3, none⟩ (.slice vo (strs' xs).length vc)).cell? ⟨w.heap.size, 3, none⟩ = some (.slice vo (strs' xs).length vc)) := World.cell?_setCell_same _ _ _ hc4
    clear hc4 hf4
    go_wp2_with fail
    refine (hend.out _ H5.out).mono ?_
    rintro e w5 ⟨rfl, b5⟩
    have hc5 : w5.cell? ⟨w.heap.size, 3, none⟩ = some (.slice vo (strs' xs).length vc) := by rw [b5.cell 3 (by decide) (by decide)]; exact HC5.out
    have HO6 := hid (own_only HO5.out b5 (by omega))
    have B6 := hid (B5.out.trans (b5.below (Nat.le_refl _) (by simp; omega)))
    clear b5 HO5 B5 HO4 B4
    by_cases h0 : rdEnd s st3 = 0
    · have HR : Hid (unHashes s = (xs, wd, 0)) := by unfold Hid; rw [HDEF.out, if_pos h0]
      go_wp2_with fail
      go_ret3
      exact ⟨_, by rw [HR.out]; rfl, by rw [HR.out]; exact own_mono HO6.out (by omega), B6.out⟩
    · have HR : Hid (unHashes s = ([], 0, rdEnd s st3)) := by unfold Hid; rw [HDEF.out, if_neg h0]
      have h0' : (rdEnd s st3 == 0) = false := beq_eq_false_iff_ne.2 h0
      go_wp2_with fail
      go_ret3
      exact ⟨.slice none 0 0, by rw [HR.out]; rfl, by rw [HR.out]; exact World.ownsRow_nil _ _ _ _, B6.out⟩

end Go.Proofs.Ytocjjiacmedjmaa
