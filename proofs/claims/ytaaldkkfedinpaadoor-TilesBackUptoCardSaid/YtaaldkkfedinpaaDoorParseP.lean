/- Walk of tiles.Parse. -/
import Derived.Test.YtaaldkkfedinpaaDoorNumbered
import Derived.Test.YtaaldkkfedinpaaDoorTPath
import Derived.Laws.ResultCell
set_option maxRecDepth 100000
namespace Go.Proofs.YtaaldkkfedinpaaDoor
open Go Go.RowKit

def tileV (t : Int × Int × Int × Int) : Value := .agg #[.int .i64 t.1, .int .i64 t.2.1, .int .i64 t.2.2.1, .int .i64 t.2.2.2]
/-- A tile's box. -/
def TB (b : Nat) (h l i c : Int) (W : World) : Prop := W.cell? ⟨b, 0, none⟩ = some (.int .i64 h) ∧ W.cell? ⟨b, 1, none⟩ = some (.int .i64 l) ∧ W.cell? ⟨b, 2, none⟩ = some (.int .i64 i) ∧ W.cell? ⟨b, 3, none⟩ = some (.int .i64 c) ∧ ∀ j, W.frozen? ⟨b, j, none⟩ = false
theorem TB.below {b : Nat} {h l i c : Int} {W W' : World} (t : TB b h l i c W) (hb : Below W.heap.size W W') : TB b h l i c W' := by
  obtain ⟨a0, a1, a2, a3, a4⟩ := t
  have hk := fun {p : Addr} {v : Value} (hc : W.cell? p = some v) => (hb.cell (World.block_lt_of_cell? _ _ hc)).trans hc
  exact ⟨hk a0, hk a1, hk a2, hk a3, fun j => (hb.frozen (p := ⟨b, j, none⟩) (show b < W.heap.size from World.block_lt_of_cell? W ⟨b, 0, none⟩ a0)).trans (a4 j)⟩
theorem TB.new (W : World) (h l i c : Int) : TB W.heap.size h l i c (W.alloc (.cells #[.int .i64 h, .int .i64 l, .int .i64 i, .int .i64 c] 23)) := by
  refine ⟨?_, ?_, ?_, ?_, fun j => ?_⟩ <;> simp [go_sem]
theorem TB.put {b : Nat} {h l i c : Int} {W : World} (t : TB b h l i c W) (c' : Int) : TB b h l i c' (W.setCell ⟨b, 3, none⟩ (.int .i64 c')) := by
  obtain ⟨a0, a1, a2, a3, a4⟩ := t
  refine ⟨?_, ?_, ?_, World.cell?_setCell_same _ _ _ a3, fun j => by rw [World.frozen?_setCell]; exact a4 j⟩
  · rw [World.cell?_setCell_other _ _ _ _ (by simp)]; exact a0
  · rw [World.cell?_setCell_other _ _ _ _ (by simp)]; exact a1
  · rw [World.cell?_setCell_other _ _ _ _ (by simp)]; exact a2
theorem TB.far {b b' : Nat} {h l i c : Int} {W : World} (t : TB b h l i c W) (hne : b' ≠ b) (j : Nat) (v : Value) : TB b h l i c (W.setCell ⟨b', j, none⟩ v) := by
  obtain ⟨a0, a1, a2, a3, a4⟩ := t
  have hn : ∀ k, (⟨b', j, none⟩ : Addr) ≠ ⟨b, k, none⟩ := fun k e => hne (by injection e)
  exact ⟨(World.cell?_setCell_other _ _ _ _ (hn 0)).trans a0, (World.cell?_setCell_other _ _ _ _ (hn 1)).trans a1, (World.cell?_setCell_other _ _ _ _ (hn 2)).trans a2, (World.cell?_setCell_other _ _ _ _ (hn 3)).trans a3, fun j => by rw [World.frozen?_setCell]; exact a4 j⟩
def store4 (W : World) (b : Nat) (h l i c : Int) : World := (((W.setCell ⟨b, 0, none⟩ (.int .i64 h)).setCell ⟨b, 1, none⟩ (.int .i64 l)).setCell ⟨b, 2, none⟩ (.int .i64 i)).setCell ⟨b, 3, none⟩ (.int .i64 c)
theorem TB.store {b : Nat} {h l i c : Int} {W : World} (t : TB b h l i c W) (h' l' i' c' : Int) : TB b h' l' i' c' (store4 W b h' l' i' c') := by
  obtain ⟨a0, a1, a2, a3, a4⟩ := t
  unfold store4
  have o : ∀ (V : World) (j k : Nat) (v : Value), j ≠ k → (V.setCell ⟨b, j, none⟩ v).cell? ⟨b, k, none⟩ = V.cell? ⟨b, k, none⟩ := fun V j k v hn => World.cell?_setCell_other _ _ _ _ (fun e => hn (by injection e))
  refine ⟨?_, ?_, ?_, ?_, fun j => by simp only [World.frozen?_setCell]; exact a4 j⟩
  · rw [o _ 3 0 _ (by decide), o _ 2 0 _ (by decide), o _ 1 0 _ (by decide)]; exact World.cell?_setCell_same _ _ _ a0
  · rw [o _ 3 1 _ (by decide), o _ 2 1 _ (by decide)]; exact World.cell?_setCell_same _ _ _ (by rw [o _ 0 1 _ (by decide)]; exact a1)
  · rw [o _ 3 2 _ (by decide)]; exact World.cell?_setCell_same _ _ _ (by rw [o _ 1 2 _ (by decide), o _ 0 2 _ (by decide)]; exact a2)
  · exact World.cell?_setCell_same _ _ _ (by rw [o _ 2 3 _ (by decide), o _ 1 3 _ (by decide), o _ 0 3 _ (by decide)]; exact a3)
theorem store4_below {B b : Nat} {w W : World} (h : Below B w W) (hb : B ≤ b) (h' l' i' c' : Int) : Below B w (store4 W b h' l' i' c') :=
  (((h.setCell hb _).setCell hb _).setCell hb _).setCell hb _
/-- What a world of Parse knows. -/
def ThP (w W : World) : Prop := Below w.heap.size w W ∧ TabP W ∧ ErrV W ∧ MaxV W ∧ TB w.heap.size 0 0 0 0 W
theorem ThP.step {w W W' : World} (h : ThP w W) (hb : Below W.heap.size W W') : ThP w W' := ⟨Below.then' h.1 hb, h.2.1.below hb, h.2.2.1.below hb, h.2.2.2.1.below hb, h.2.2.2.2.below hb⟩
theorem ThP.drewN {w W : World} (h : ThP w W) (n : Nat) : ThP w (W.drewN n) := h.step (below_drewN (Below.refl _ _) n)
theorem ThP.put {w W : World} (h : ThP w W) {b : Nat} (hb : w.heap.size < b) (j : Nat) (v : Value) (ht : TabP (W.setCell ⟨b, j, none⟩ v)) (he : ErrV (W.setCell ⟨b, j, none⟩ v)) (hm : MaxV (W.setCell ⟨b, j, none⟩ v)) : ThP w (W.setCell ⟨b, j, none⟩ v) := ⟨h.1.setCell (by show w.heap.size ≤ b; omega) _, ht, he, hm, h.2.2.2.2.far (by omega) j v⟩
theorem cut_sz (s sep : List UInt8) : (Lib.cut s sep).1.length ≤ s.length ∧ (Lib.cut s sep).2.1.length ≤ s.length := by
  unfold Lib.cut
  split
  · simp only [List.length_take, List.length_drop]; omega
  · simp
theorem p_Cut (s : ByteArray) (c : UInt8) (x : List UInt8) (hs : s.size ≤ 1048576) (w W : World) (h : ThP w W) : Calls Tryd.prog 31 #[.string s, .string ⟨(c :: x).toArray⟩] W fun e w' => e = .returned (.tuple #[.string ⟨(Lib.cut s.data.toList (c :: x)).1.toArray⟩, .string ⟨(Lib.cut s.data.toList (c :: x)).2.1.toArray⟩, .bool (Lib.cut s.data.toList (c :: x)).2.2]) ∧ ThP w w' := by
  obtain ⟨m, hm⟩ := h.2.2.2.1
  refine (Tryd.strings_Cut s ⟨(c :: x).toArray⟩ m W (by omega) hm).mono ?_
  rintro e w' ⟨rfl, n, rfl⟩
  exact ⟨rfl, h.drewN n⟩
theorem ne_str {a b : ByteArray} (h : ¬ a = b) : (a.toList == b.toList) = false := by
  rw [Bool.eq_false_iff]
  intro e
  have := beq_iff_eq.1 e
  rw [ByteArray.toList_eq, ByteArray.toList_eq] at this
  exact h (bytes_eq this)
theorem way_of {h l i c : Int} {s : ByteArray} {t : Int × Int × Int × Int} {e : Int} (h1 : t = (if Fits h l i c s then (h, l, i, c) else (0, 0, 0, 0))) (h2 : e = (if Fits h l i c s then 0 else 230)) : (pathE h l i c ≠ 0 ∧ t = (0, 0, 0, 0) ∧ e = 230) ∨ (pathE h l i c = 0 ∧ ((pathS h l i c).toList == s.toList) = false ∧ t = (0, 0, 0, 0) ∧ e = 230) ∨ (pathE h l i c = 0 ∧ ((pathS h l i c).toList == s.toList) = true ∧ t = (h, l, i, c) ∧ e = 0) := by
  by_cases hL : Lies h l i c 4611686018427387904
  · have hE : pathE h l i c = 0 := by unfold pathE; rw [if_pos hL]
    by_cases hs : pathS h l i c = s
    · have hf : Fits h l i c s := ⟨hL, hs⟩
      rw [if_pos hf] at h1 h2
      exact .inr (.inr ⟨hE, by rw [hs]; simp, h1, h2⟩)
    · have hf : ¬ Fits h l i c s := fun hf => hs hf.2
      rw [if_neg hf] at h1 h2
      refine .inr (.inl ⟨hE, ?_, h1, h2⟩)
      exact ne_str hs
  · have hf : ¬ Fits h l i c s := fun hf => hL hf.1
    rw [if_neg hf] at h1 h2
    exact .inl ⟨by unfold pathE; rw [if_neg hL]; decide, h1, h2⟩
set_option maxHeartbeats 2000000 in
theorem tiles_Parse (s : ByteArray) (hs : s.size ≤ 1048576) (w : World) (ht : TabP w) (he : ErrV w) (hm : MaxV w) : Calls Tryd.prog 10 #[.string s] w fun e w' => e = .returned (.tuple #[tileV (parT s), .int .i64 (parE s)]) ∧ Below w.heap.size w w' := by
  have hl : s.data.toList.length = s.size := Array.length_toList
  -- the pieces
  obtain ⟨r0, hr0⟩ : ∃ r : ByteArray, r = ⟨(pRest s.data.toList).toArray⟩ := ⟨_, rfl⟩
  have z0 : (pRest s.data.toList).length ≤ s.size := by unfold pRest; split <;> first | (rw [List.length_drop]; omega) | omega
  have zA := cut_sz (pRest s.data.toList) [47]
  have zB := cut_sz (pA s.data.toList).2.1 [47]
  have zC := cut_sz (pB s.data.toList).2.1 dotB
  have eA : Lib.cut (pRest s.data.toList) [47] = pA s.data.toList := rfl
  have eB : Lib.cut (pA s.data.toList).2.1 [47] = pB s.data.toList := rfl
  have eC : Lib.cut (pB s.data.toList).2.1 dotB = pC s.data.toList := rfl
  rw [eA] at zA
  rw [eB] at zB
  rw [eC] at zC
  have T0 : ThP w (w.alloc (.cells #[.int .i64 0, .int .i64 0, .int .i64 0, .int .i64 0] 23)) := by
    have hb := (Below.refl w.heap.size w).alloc (Nat.le_refl _) (.cells #[.int .i64 0, .int .i64 0, .int .i64 0, .int .i64 0] 23)
    exact ⟨hb, ht.below hb, he.below hb, hm.below hb, TB.new w 0 0 0 0⟩
  have H0 : Hid (∀ W, ThP w W → Calls Tryd.prog 30 #[.string s, .string ⟨#[116, 105, 108, 101, 47]⟩] W fun e w' => e = .returned (.tuple #[.string ⟨(pRest s.data.toList).toArray⟩, .bool (Lib.hasPrefix s.data.toList tileB)]) ∧ ThP w w') := by
    intro W hW
    refine (strings_CutPrefix s ⟨#[116, 105, 108, 101, 47]⟩ (by omega) W).mono ?_
    rintro e w' ⟨rfl, hb⟩
    exact ⟨rfl, hW.step hb⟩
  have HA : Hid (∀ W, ThP w W → Calls Tryd.prog 31 #[.string ⟨(pRest s.data.toList).toArray⟩, .string ⟨#[47]⟩] W fun e w' => e = .returned (.tuple #[.string ⟨(pA s.data.toList).1.toArray⟩, .string ⟨(pA s.data.toList).2.1.toArray⟩, .bool (pA s.data.toList).2.2]) ∧ ThP w w') := fun W hW => p_Cut ⟨(pRest s.data.toList).toArray⟩ 47 [] (by show (pRest s.data.toList).length ≤ _; omega) w W hW
  have HB : Hid (∀ W, ThP w W → Calls Tryd.prog 31 #[.string ⟨(pA s.data.toList).2.1.toArray⟩, .string ⟨#[47]⟩] W fun e w' => e = .returned (.tuple #[.string ⟨(pB s.data.toList).1.toArray⟩, .string ⟨(pB s.data.toList).2.1.toArray⟩, .bool (pB s.data.toList).2.2]) ∧ ThP w w') := fun W hW => p_Cut ⟨(pA s.data.toList).2.1.toArray⟩ 47 [] (by show (pA s.data.toList).2.1.length ≤ _; omega) w W hW
  have HC : Hid (∀ W, ThP w W → Calls Tryd.prog 31 #[.string ⟨(pB s.data.toList).2.1.toArray⟩, .string ⟨#[46, 112, 47]⟩] W fun e w' => e = .returned (.tuple #[.string ⟨(pC s.data.toList).1.toArray⟩, .string ⟨(pC s.data.toList).2.1.toArray⟩, .bool (pC s.data.toList).2.2]) ∧ ThP w w') := fun W hW => p_Cut ⟨(pB s.data.toList).2.1.toArray⟩ 46 [112, 47] (by show (pB s.data.toList).2.1.length ≤ _; omega) w W hW
  have HN : ∀ x : List UInt8, x.length ≤ 1048576 → ∀ W, ThP w W → Calls Tryd.prog 32 #[.string ⟨x.toArray⟩] W fun e w' => e = .returned (.int .i64 (numL x)) ∧ ThP w w' ∧ Below W.heap.size W w' := by
    intro x hx W hW
    refine (tiles_number ⟨x.toArray⟩ (by show x.length ≤ _; omega) W hW.2.2.1).mono ?_
    rintro e w' ⟨rfl, hb⟩
    exact ⟨rfl, hW.step hb, hb⟩
  have HN1 := hid (HN (pA s.data.toList).1 (by omega))
  have HN2 := hid (HN (pB s.data.toList).1 (by omega))
  have HN3 := hid (HN (pC s.data.toList).2.1 (by omega))
  have HN4 : Hid (∀ W, ThP w W → Calls Tryd.prog 33 #[.string ⟨(pC s.data.toList).1.toArray⟩] W fun e w' => e = .returned (.int .i64 (pN (pC s.data.toList).1)) ∧ ThP w w') := by
    intro W hW
    refine (tiles_numbered ⟨(pC s.data.toList).1.toArray⟩ (by show (pC s.data.toList).1.length ≤ _; omega) W hW.2.2.1 hW.2.2.2.1).mono ?_
    rintro e w' ⟨rfl, hb⟩
    exact ⟨rfl, hW.step hb⟩
  have hn1 := And.intro (numL_ge (pA s.data.toList).1) (numL_le (pA s.data.toList).1)
  have hn2 := And.intro (numL_ge (pB s.data.toList).1) (numL_le (pB s.data.toList).1)
  have hn3 := And.intro (numL_ge (pC s.data.toList).2.1) (numL_le (pC s.data.toList).2.1)
  have hn4 : -1 ≤ pN (pC s.data.toList).1 ∧ pN (pC s.data.toList).1 ≤ 4611686018427387904 := foldN_le _ 0 (by omega) (by omega)
  have HP := par_of (numL (pA s.data.toList).1) (numL (pB s.data.toList).1) (pN (pC s.data.toList).1) (pCount s.data.toList) s (fun a b d e hf => by
    obtain ⟨e1, e2, e3, e4⟩ := fits_prog hf
    exact ⟨e1.symm, e2.symm, e3.symm, e4.symm⟩)
  have hcnt : pCount s.data.toList = if (pC s.data.toList).2.2 = true then numL (pC s.data.toList).2.1 else if 1 ≤ numL (pA s.data.toList).1 ∧ numL (pA s.data.toList).1 ≤ 8 then ((2 ^ (numL (pA s.data.toList).1).toNat : Nat) : Int) else 0 := rfl
  have hn5 : -9223372036854775808 ≤ pCount s.data.toList ∧ pCount s.data.toList ≤ 9223372036854775807 := by
    rw [hcnt]
    split
    · omega
    · split
      · rename_i h18
        have : (2 ^ (numL (pA s.data.toList).1).toNat : Nat) ≤ 256 := Nat.pow_le_pow_right (show 0 < 2 by decide) (show (numL (pA s.data.toList).1).toNat ≤ 8 by omega)
        generalize (2 ^ (numL (pA s.data.toList).1).toNat : Nat) = p at this ⊢
        omega
      · omega
  generalize pCount s.data.toList = cN at *
  generalize numL (pA s.data.toList).1 = hN at *
  generalize numL (pB s.data.toList).1 = lN at *
  generalize numL (pC s.data.toList).2.1 = kN at *
  generalize pN (pC s.data.toList).1 = iN at *
  generalize (⟨(pRest s.data.toList).toArray⟩ : ByteArray) = sR at *
  generalize (⟨(pA s.data.toList).1.toArray⟩ : ByteArray) = sA at *
  generalize (⟨(pA s.data.toList).2.1.toArray⟩ : ByteArray) = sA2 at *
  generalize (⟨(pB s.data.toList).1.toArray⟩ : ByteArray) = sB at *
  generalize (⟨(pB s.data.toList).2.1.toArray⟩ : ByteArray) = sB2 at *
  generalize (⟨(pC s.data.toList).1.toArray⟩ : ByteArray) = sC at *
  generalize (⟨(pC s.data.toList).2.1.toArray⟩ : ByteArray) = sC2 at *
  generalize (pA s.data.toList).2.2 = bA at *
  generalize (pB s.data.toList).2.2 = bB at *
  generalize (pC s.data.toList).2.2 = bC at *
  generalize Lib.hasPrefix s.data.toList tileB = b0 at *
  have HT0 := hid T0
  have HPATH : Hid (∀ W, Below w.heap.size w W → Calls Tryd.prog 14 #[.agg #[.int .i64 hN, .int .i64 lN, .int .i64 iN, .int .i64 cN]] W fun e w' => e = .returned (.tuple #[.string (pathS hN lN iN cN), .int .i64 (pathE hN lN iN cN)]) ∧ Below W.heap.size W w') := fun W hW => tiles_Path hN lN iN cN (by omega) (by omega) (by omega) hn5 W (ht.below hW)
  have HWAY : Hid ((pathE hN lN iN cN ≠ 0 ∧ parT s = (0, 0, 0, 0) ∧ parE s = 230) ∨ (pathE hN lN iN cN = 0 ∧ ((pathS hN lN iN cN).toList == s.toList) = false ∧ parT s = (0, 0, 0, 0) ∧ parE s = 230) ∨ (pathE hN lN iN cN = 0 ∧ ((pathS hN lN iN cN).toList == s.toList) = true ∧ parT s = (hN, lN, iN, cN) ∧ parE s = 0)) := way_of HP.1 HP.2
  generalize pathS hN lN iN cN = sN at *
  generalize pathE hN lN iN cN = zN at *
  generalize parT s = pT at *
  generalize parE s = pE at *
  clear HP hn2 hn3 hn4 hn5
  clear HN z0 zA zB zC eA eB eC hr0 hl T0 ht he hm r0
  go_enter Tryd.func10, Tryd.ntmps10
  go_wp2_with fail
  refine (H0.out _ HT0.out).mono ?_
  rintro e w1 ⟨rfl, t1⟩
  have HT1 := hid t1
  clear t1
  go_wp2_with fail
  refine (HA.out _ HT1.out).mono ?_
  rintro e w2 ⟨rfl, t1⟩
  have HT2 := hid t1
  clear t1
  go_wp2_with fail
  refine (HB.out _ HT2.out).mono ?_
  rintro e w3 ⟨rfl, t1⟩
  have HT3 := hid t1
  clear t1
  go_wp2_with fail
  refine (HC.out _ HT3.out).mono ?_
  rintro e w4 ⟨rfl, t1⟩
  have HT4 := hid t1
  clear t1
  go_wp2_with fail
  refine (HN1.out _ HT4.out).mono ?_
  rintro e w5 ⟨rfl, t1, t2⟩
  have HT5 := hid t1
  clear t1 t2
  go_wp2_with fail
  refine (HN2.out _ HT5.out).mono ?_
  rintro e w6 ⟨rfl, t1, t2⟩
  have HT6 := hid t1
  clear t1 t2
  go_wp2_with fail
  refine (HN4.out _ HT6.out).mono ?_
  rintro e w7 ⟨rfl, t1⟩
  have HT7 := hid t1
  clear t1
  have HN' := hid (TB.new w7 hN lN iN 0)
  have HT8 := hid (HT7.out.step ((Below.refl w7.heap.size w7).alloc (Nat.le_refl _) (.cells #[.int .i64 hN, .int .i64 lN, .int .i64 iN, .int .i64 0] 23)))
  have hw7 : w.heap.size < w7.heap.size := World.block_lt_of_cell? _ _ HT7.out.2.2.2.2.1
  cases bC with
  | true =>
    have hck : cN = kN := by simpa using hcnt
    clear hcnt
    subst hck
    clear hn1
    go_wp2_with fail
    refine (HN3.out _ HT8.out).mono ?_
    rintro e w8 ⟨rfl, t1, t2⟩
    have HT10 := hid t1
    have ht8 := HN'.out.below t2
    have HTT := hid (ht8.put cN)
    have HTR := hid (t1.2.2.2.2.far (b' := w7.heap.size) (by omega) 3 (.int .i64 cN))
    have HWB := hid (t1.1.setCell (p := ⟨w7.heap.size, 3, none⟩) (by show w.heap.size ≤ w7.heap.size; omega) (.int .i64 cN))
    obtain ⟨a0, a1, a2, a3, a4⟩ := ht8
    have f3 := a4 3
    clear t1 t2 a4
    go_wp2_with fail
    clear a0 a1 a2 a3 f3 hw7
    refine (HPATH.out _ HWB.out).mono ?_
    rintro e w10 ⟨rfl, hb⟩
    have HB10 := hid (Below.then' HWB.out hb)
    have HQ := hid (HTT.out.below hb)
    have HR := hid (HTR.out.below hb)
    clear hb
    rcases HWAY.out with ⟨hz, hp⟩ | ⟨hz, hsn, hp⟩ | ⟨hz, hsn, hp⟩
    · have hz1 : (zN != 0) = true := bne_iff_ne.2 hz
      have HPE := hid hp
      obtain ⟨r0, r1, r2, r3, r4⟩ := HR.out
      have f0 := r4 0
      have f1 := r4 1
      have f2 := r4 2
      have f3 := r4 3
      clear r4 HWAY hz hp
      go_wp2_with fail
      clear r0 r1 r2 r3 f0 f1 f2 f3
      show bodyPost Tryd.prog _ _ _ _ (store4 w10 w.heap.size 0 0 0 0)
      have hst := HR.out.store 0 0 0 0
      have HBV := hid (store4_below HB10.out (Nat.le_refl _) 0 0 0 0)
      generalize store4 w10 w.heap.size 0 0 0 0 = V at *
      obtain ⟨d0, d1, d2, d3, d4⟩ := hst
      refine bodyPost_ret_by (v := .tuple #[.agg #[.int .i64 0, .int .i64 0, .int .i64 0, .int .i64 0], .int .i64 230]) (by rw [results_cell_tmp rfl]; go_simp) rfl ?_
      obtain ⟨hp1, hp2⟩ := HPE.out
      exact ⟨by rw [hp1, hp2]; rfl, HBV.out⟩
    · have HPE := hid hp
      obtain ⟨r0, r1, r2, r3, r4⟩ := HR.out
      have f0 := r4 0
      have f1 := r4 1
      have f2 := r4 2
      have f3 := r4 3
      subst hz
      clear r4 HWAY hp
      go_wp2_with fail
      clear r0 r1 r2 r3 f0 f1 f2 f3
      show bodyPost Tryd.prog _ _ _ _ (store4 w10 w.heap.size 0 0 0 0)
      have hst := HR.out.store 0 0 0 0
      have HBV := hid (store4_below HB10.out (Nat.le_refl _) 0 0 0 0)
      generalize store4 w10 w.heap.size 0 0 0 0 = V at *
      obtain ⟨d0, d1, d2, d3, d4⟩ := hst
      refine bodyPost_ret_by (v := .tuple #[.agg #[.int .i64 0, .int .i64 0, .int .i64 0, .int .i64 0], .int .i64 230]) (by rw [results_cell_tmp rfl]; go_simp) rfl ?_
      obtain ⟨hp1, hp2⟩ := HPE.out
      exact ⟨by rw [hp1, hp2]; rfl, HBV.out⟩
    · have HPE := hid hp
      obtain ⟨r0, r1, r2, r3, r4⟩ := HR.out
      obtain ⟨q0, q1, q2, q3, q4⟩ := HQ.out
      have f0 := r4 0
      have f1 := r4 1
      have f2 := r4 2
      have f3 := r4 3
      subst hz
      clear r4 q4 HWAY hp
      go_wp2_with fail
      clear r0 r1 r2 r3 f0 f1 f2 f3 q0 q1 q2 q3
      show bodyPost Tryd.prog _ _ _ _ (store4 w10 w.heap.size _ _ _ _)
      have hst := HR.out.store hN lN iN cN
      have HBV := hid (store4_below HB10.out (Nat.le_refl _) hN lN iN cN)
      generalize store4 w10 w.heap.size hN lN iN cN = V at *
      obtain ⟨d0, d1, d2, d3, d4⟩ := hst
      refine bodyPost_ret_by (v := .tuple #[.agg #[.int .i64 hN, .int .i64 lN, .int .i64 iN, .int .i64 cN], .int .i64 0]) (by rw [results_cell_tmp rfl]; go_simp) rfl ?_
      obtain ⟨hp1, hp2⟩ := HPE.out
      exact ⟨by rw [hp1, hp2]; rfl, HBV.out⟩
  | false =>
    by_cases h18 : 1 ≤ hN ∧ hN ≤ 8
    · obtain ⟨h1, h8⟩ := h18
      have hck : cN = ((2 ^ hN.toNat : Nat) : Int) := by simpa [h1, h8] using hcnt
      clear hcnt
      obtain ⟨n, rfl⟩ := Int.eq_ofNat_of_zero_le (show 0 ≤ hN by omega)
      rw [Int.toNat_natCast] at hck
      have hpow : (2 : Int) ^ n = cN := by rw [hck]; simp
      have HTT := hid (TB.new w7 n lN iN cN)
      have ht9 := HT7.out.step ((Below.refl w7.heap.size w7).alloc (Nat.le_refl _) (.cells #[.int .i64 n, .int .i64 lN, .int .i64 iN, .int .i64 cN] 23))
      have HTR := hid ht9.2.2.2.2
      have HWB := hid ht9.1
      have hcb : 0 ≤ cN ∧ cN ≤ 256 := by
        have : (2 ^ n : Nat) ≤ 256 := Nat.pow_le_pow_right (show 0 < 2 by decide) (show n ≤ 8 by omega)
        generalize (2 ^ n : Nat) = p at this hck
        omega
      clear hck ht9
      go_wp2_with fail
      refine (HPATH.out _ HWB.out).mono ?_
      rintro e w10 ⟨rfl, hb⟩
      have HB10 := hid (Below.then' HWB.out hb)
      have HQ := hid (HTT.out.below hb)
      have HR := hid (HTR.out.below hb)
      clear hb
      rcases HWAY.out with ⟨hz, hp⟩ | ⟨hz, hsn, hp⟩ | ⟨hz, hsn, hp⟩
      · have hz1 : (zN != 0) = true := bne_iff_ne.2 hz
        have HPE := hid hp
        obtain ⟨r0, r1, r2, r3, r4⟩ := HR.out
        have f0 := r4 0
        have f1 := r4 1
        have f2 := r4 2
        have f3 := r4 3
        clear r4 HWAY hz hp
        go_wp2_with fail
        clear r0 r1 r2 r3 f0 f1 f2 f3
        show bodyPost Tryd.prog _ _ _ _ (store4 w10 w.heap.size 0 0 0 0)
        have hst := HR.out.store 0 0 0 0
        have HBV := hid (store4_below HB10.out (Nat.le_refl _) 0 0 0 0)
        generalize store4 w10 w.heap.size 0 0 0 0 = V at *
        obtain ⟨d0, d1, d2, d3, d4⟩ := hst
        refine bodyPost_ret_by (v := .tuple #[.agg #[.int .i64 0, .int .i64 0, .int .i64 0, .int .i64 0], .int .i64 230]) (by rw [results_cell_tmp rfl]; go_simp) rfl ?_
        obtain ⟨hp1, hp2⟩ := HPE.out
        exact ⟨by rw [hp1, hp2]; rfl, HBV.out⟩
      · have HPE := hid hp
        obtain ⟨r0, r1, r2, r3, r4⟩ := HR.out
        have f0 := r4 0
        have f1 := r4 1
        have f2 := r4 2
        have f3 := r4 3
        subst hz
        clear r4 HWAY hp
        go_wp2_with fail
        clear r0 r1 r2 r3 f0 f1 f2 f3
        show bodyPost Tryd.prog _ _ _ _ (store4 w10 w.heap.size 0 0 0 0)
        have hst := HR.out.store 0 0 0 0
        have HBV := hid (store4_below HB10.out (Nat.le_refl _) 0 0 0 0)
        generalize store4 w10 w.heap.size 0 0 0 0 = V at *
        obtain ⟨d0, d1, d2, d3, d4⟩ := hst
        refine bodyPost_ret_by (v := .tuple #[.agg #[.int .i64 0, .int .i64 0, .int .i64 0, .int .i64 0], .int .i64 230]) (by rw [results_cell_tmp rfl]; go_simp) rfl ?_
        obtain ⟨hp1, hp2⟩ := HPE.out
        exact ⟨by rw [hp1, hp2]; rfl, HBV.out⟩
      · have HPE := hid hp
        obtain ⟨r0, r1, r2, r3, r4⟩ := HR.out
        obtain ⟨q0, q1, q2, q3, q4⟩ := HQ.out
        have f0 := r4 0
        have f1 := r4 1
        have f2 := r4 2
        have f3 := r4 3
        subst hz
        clear r4 q4 HWAY hp
        go_wp2_with fail
        clear r0 r1 r2 r3 f0 f1 f2 f3 q0 q1 q2 q3
        show bodyPost Tryd.prog _ _ _ _ (store4 w10 w.heap.size _ _ _ _)
        have hst := HR.out.store (n:Int) lN iN cN
        have HBV := hid (store4_below HB10.out (Nat.le_refl _) (n:Int) lN iN cN)
        generalize store4 w10 w.heap.size (n:Int) lN iN cN = V at *
        obtain ⟨d0, d1, d2, d3, d4⟩ := hst
        refine bodyPost_ret_by (v := .tuple #[.agg #[.int .i64 (n:Int), .int .i64 lN, .int .i64 iN, .int .i64 cN], .int .i64 0]) (by rw [results_cell_tmp rfl]; go_simp) rfl ?_
        obtain ⟨hp1, hp2⟩ := HPE.out
        exact ⟨by rw [hp1, hp2]; rfl, HBV.out⟩
    · have hck : cN = 0 := by
        rw [hcnt, if_neg (by simp), if_neg h18]
      clear hcnt
      subst hck
      have HTT := HN'
      have HTR := hid HT8.out.2.2.2.2
      have HWB := hid HT8.out.1
      by_cases h1 : 1 ≤ hN
      · have h8 : ¬ hN ≤ 8 := fun h => h18 ⟨h1, h⟩
        clear h18 hn1
        go_wp2_with fail
        refine (HPATH.out _ HWB.out).mono ?_
        rintro e w10 ⟨rfl, hb⟩
        have HB10 := hid (Below.then' HWB.out hb)
        have HQ := hid (HTT.out.below hb)
        have HR := hid (HTR.out.below hb)
        clear hb
        rcases HWAY.out with ⟨hz, hp⟩ | ⟨hz, hsn, hp⟩ | ⟨hz, hsn, hp⟩
        · have hz1 : (zN != 0) = true := bne_iff_ne.2 hz
          have HPE := hid hp
          obtain ⟨r0, r1, r2, r3, r4⟩ := HR.out
          have f0 := r4 0
          have f1 := r4 1
          have f2 := r4 2
          have f3 := r4 3
          clear r4 HWAY hz hp
          go_wp2_with fail
          clear r0 r1 r2 r3 f0 f1 f2 f3
          show bodyPost Tryd.prog _ _ _ _ (store4 w10 w.heap.size 0 0 0 0)
          have hst := HR.out.store 0 0 0 0
          have HBV := hid (store4_below HB10.out (Nat.le_refl _) 0 0 0 0)
          generalize store4 w10 w.heap.size 0 0 0 0 = V at *
          obtain ⟨d0, d1, d2, d3, d4⟩ := hst
          refine bodyPost_ret_by (v := .tuple #[.agg #[.int .i64 0, .int .i64 0, .int .i64 0, .int .i64 0], .int .i64 230]) (by rw [results_cell_tmp rfl]; go_simp) rfl ?_
          obtain ⟨hp1, hp2⟩ := HPE.out
          exact ⟨by rw [hp1, hp2]; rfl, HBV.out⟩
        · have HPE := hid hp
          obtain ⟨r0, r1, r2, r3, r4⟩ := HR.out
          have f0 := r4 0
          have f1 := r4 1
          have f2 := r4 2
          have f3 := r4 3
          subst hz
          clear r4 HWAY hp
          go_wp2_with fail
          clear r0 r1 r2 r3 f0 f1 f2 f3
          show bodyPost Tryd.prog _ _ _ _ (store4 w10 w.heap.size 0 0 0 0)
          have hst := HR.out.store 0 0 0 0
          have HBV := hid (store4_below HB10.out (Nat.le_refl _) 0 0 0 0)
          generalize store4 w10 w.heap.size 0 0 0 0 = V at *
          obtain ⟨d0, d1, d2, d3, d4⟩ := hst
          refine bodyPost_ret_by (v := .tuple #[.agg #[.int .i64 0, .int .i64 0, .int .i64 0, .int .i64 0], .int .i64 230]) (by rw [results_cell_tmp rfl]; go_simp) rfl ?_
          obtain ⟨hp1, hp2⟩ := HPE.out
          exact ⟨by rw [hp1, hp2]; rfl, HBV.out⟩
        · have HPE := hid hp
          obtain ⟨r0, r1, r2, r3, r4⟩ := HR.out
          obtain ⟨q0, q1, q2, q3, q4⟩ := HQ.out
          have f0 := r4 0
          have f1 := r4 1
          have f2 := r4 2
          have f3 := r4 3
          subst hz
          clear r4 q4 HWAY hp
          go_wp2_with fail
          clear r0 r1 r2 r3 f0 f1 f2 f3 q0 q1 q2 q3
          show bodyPost Tryd.prog _ _ _ _ (store4 w10 w.heap.size _ _ _ _)
          have hst := HR.out.store hN lN iN 0
          have HBV := hid (store4_below HB10.out (Nat.le_refl _) hN lN iN 0)
          generalize store4 w10 w.heap.size hN lN iN 0 = V at *
          obtain ⟨d0, d1, d2, d3, d4⟩ := hst
          refine bodyPost_ret_by (v := .tuple #[.agg #[.int .i64 hN, .int .i64 lN, .int .i64 iN, .int .i64 0], .int .i64 0]) (by rw [results_cell_tmp rfl]; go_simp) rfl ?_
          obtain ⟨hp1, hp2⟩ := HPE.out
          exact ⟨by rw [hp1, hp2]; rfl, HBV.out⟩
      · clear h18 hn1
        go_wp2_with fail
        refine (HPATH.out _ HWB.out).mono ?_
        rintro e w10 ⟨rfl, hb⟩
        have HB10 := hid (Below.then' HWB.out hb)
        have HQ := hid (HTT.out.below hb)
        have HR := hid (HTR.out.below hb)
        clear hb
        rcases HWAY.out with ⟨hz, hp⟩ | ⟨hz, hsn, hp⟩ | ⟨hz, hsn, hp⟩
        · have hz1 : (zN != 0) = true := bne_iff_ne.2 hz
          have HPE := hid hp
          obtain ⟨r0, r1, r2, r3, r4⟩ := HR.out
          have f0 := r4 0
          have f1 := r4 1
          have f2 := r4 2
          have f3 := r4 3
          clear r4 HWAY hz hp
          go_wp2_with fail
          clear r0 r1 r2 r3 f0 f1 f2 f3
          show bodyPost Tryd.prog _ _ _ _ (store4 w10 w.heap.size 0 0 0 0)
          have hst := HR.out.store 0 0 0 0
          have HBV := hid (store4_below HB10.out (Nat.le_refl _) 0 0 0 0)
          generalize store4 w10 w.heap.size 0 0 0 0 = V at *
          obtain ⟨d0, d1, d2, d3, d4⟩ := hst
          refine bodyPost_ret_by (v := .tuple #[.agg #[.int .i64 0, .int .i64 0, .int .i64 0, .int .i64 0], .int .i64 230]) (by rw [results_cell_tmp rfl]; go_simp) rfl ?_
          obtain ⟨hp1, hp2⟩ := HPE.out
          exact ⟨by rw [hp1, hp2]; rfl, HBV.out⟩
        · have HPE := hid hp
          obtain ⟨r0, r1, r2, r3, r4⟩ := HR.out
          have f0 := r4 0
          have f1 := r4 1
          have f2 := r4 2
          have f3 := r4 3
          subst hz
          clear r4 HWAY hp
          go_wp2_with fail
          clear r0 r1 r2 r3 f0 f1 f2 f3
          show bodyPost Tryd.prog _ _ _ _ (store4 w10 w.heap.size 0 0 0 0)
          have hst := HR.out.store 0 0 0 0
          have HBV := hid (store4_below HB10.out (Nat.le_refl _) 0 0 0 0)
          generalize store4 w10 w.heap.size 0 0 0 0 = V at *
          obtain ⟨d0, d1, d2, d3, d4⟩ := hst
          refine bodyPost_ret_by (v := .tuple #[.agg #[.int .i64 0, .int .i64 0, .int .i64 0, .int .i64 0], .int .i64 230]) (by rw [results_cell_tmp rfl]; go_simp) rfl ?_
          obtain ⟨hp1, hp2⟩ := HPE.out
          exact ⟨by rw [hp1, hp2]; rfl, HBV.out⟩
        · have HPE := hid hp
          obtain ⟨r0, r1, r2, r3, r4⟩ := HR.out
          obtain ⟨q0, q1, q2, q3, q4⟩ := HQ.out
          have f0 := r4 0
          have f1 := r4 1
          have f2 := r4 2
          have f3 := r4 3
          subst hz
          clear r4 q4 HWAY hp
          go_wp2_with fail
          clear r0 r1 r2 r3 f0 f1 f2 f3 q0 q1 q2 q3
          show bodyPost Tryd.prog _ _ _ _ (store4 w10 w.heap.size _ _ _ _)
          have hst := HR.out.store hN lN iN 0
          have HBV := hid (store4_below HB10.out (Nat.le_refl _) hN lN iN 0)
          generalize store4 w10 w.heap.size hN lN iN 0 = V at *
          obtain ⟨d0, d1, d2, d3, d4⟩ := hst
          refine bodyPost_ret_by (v := .tuple #[.agg #[.int .i64 hN, .int .i64 lN, .int .i64 iN, .int .i64 0], .int .i64 0]) (by rw [results_cell_tmp rfl]; go_simp) rfl ?_
          obtain ⟨hp1, hp2⟩ := HPE.out
          exact ⟨by rw [hp1, hp2]; rfl, HBV.out⟩
end Go.Proofs.YtaaldkkfedinpaaDoor
