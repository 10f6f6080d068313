/- Walk of wire.UnProof. -/
import Derived.Test.YtocjjiacmedjmaaPrRead
import Derived.Test.YtocjjiacmedjmaaHeld
set_option maxRecDepth 100000
namespace Go.Proofs.Ytocjjiacmedjmaa
open Go Go.RowKit

/-- A proof that was read: kind, width, A, B, size, places, hashes. -/
structure PF where
  k : Nat
  wd : Nat
  a : Nat
  b : Nat
  n : Nat
  xs : List Int
  hs : List ByteArray
def noPF : PF := ⟨0, 0, 0, 0, 0, [], []⟩
def upPF (s : ByteArray) : PF := ⟨(upK s).1, (upW s).1, (upF s).1, (upF s).2.1, (upN s).1, (upF s).2.2.1, (upH s).1⟩
/-- The proof that is read, and the refusal. -/
def unProof (s : ByteArray) : PF × Int := if rdEnd s (upSt s) = 0 then (upPF s, 0) else (noPF, rdEnd s (upSt s))
def pfV (r : PF) (ao : Option Addr) (cap : Nat) (ho : Option Addr) (hcap : Nat) : Value :=
  .agg #[.int .i64 r.k, .int .i64 r.wd, .int .i64 r.a, .int .i64 r.b, .int .i64 r.n, .slice ao r.xs.length cap, .slice ho r.hs.length hcap]
/-- What the reader of a proof answers. -/
def UnPr (r : PF × Int) (w : World) (e : Ending) (w' : World) : Prop :=
  ∃ ao cap ho hcap, e = .returned (.tuple #[pfV r.1 ao cap ho hcap, .int .i64 r.2]) ∧ w'.ownsRow w.heap.size 3 1 (.slice ao r.1.xs.length cap) r.1.xs.length (ints r.1.xs) ∧
    w'.ownsRow w.heap.size 9 1 (.slice ho r.1.hs.length hcap) r.1.hs.length (strs' r.1.hs) ∧ Below w.heap.size w w'
theorem unPr_no (w w' : World) (er : Int) (hb : Below w.heap.size w w') : UnPr (noPF, er) w (.returned (.tuple #[.agg #[.int .i64 0, .int .i64 0, .int .i64 0, .int .i64 0, .int .i64 0, .slice none 0 0, .slice none 0 0], .int .i64 er])) w' :=
  ⟨none, 0, none, 0, rfl, World.ownsRow_nil _ _ _ _, World.ownsRow_nil _ _ _ _, hb⟩
theorem proof_box (s : ByteArray) (w : World) : PrAt w.heap.size s (.ok 0) [.int .i64 0, .int .i64 0, .int .i64 0, .int .i64 0, .int .i64 0, .slice none 0 0, .slice none 0 0]
    (w.alloc (.cells #[.string s, .int .i64 0, .int .i64 0, .int .i64 0, .int .i64 0, .int .i64 0, .int .i64 0, .int .i64 0, .slice none 0 0, .slice none 0 0] 81)) := by
  refine ⟨⟨by simp [go_sem], by simp [go_sem], by simp [go_sem], by simp [go_sem], by simp [go_sem], by omega⟩, fun i v hi => ?_, fun i => by simp [go_sem]⟩
  match i, hi with
  | 0, hi => cases hi; simp [go_sem]
  | 1, hi => cases hi; simp [go_sem]
  | 2, hi => cases hi; simp [go_sem]
  | 3, hi => cases hi; simp [go_sem]
  | 4, hi => cases hi; simp [go_sem]
  | 5, hi => cases hi; simp [go_sem]
  | 6, hi => cases hi; simp [go_sem]
  | i + 7, hi => simp at hi
/-- A box of seven cells that may be written. -/
structure Res (p : Nat) (w : World) : Prop where
  lt : p < w.heap.size
  cell : ∀ i, i < 7 → ∃ v, w.cell? ⟨p, i, none⟩ = some v
  fz : ∀ i, w.frozen? ⟨p, i, none⟩ = false
theorem res_new (w : World) (k wd a b n at_ hs : Value) : Res w.heap.size (w.alloc (.cells #[k, wd, a, b, n, at_, hs] 25)) := by
  refine ⟨by simp, fun i hi => ?_, fun i => by simp [go_sem]⟩
  match i, hi with
  | 0, _ => exact ⟨k, by simp [go_sem]⟩
  | 1, _ => exact ⟨wd, by simp [go_sem]⟩
  | 2, _ => exact ⟨a, by simp [go_sem]⟩
  | 3, _ => exact ⟨b, by simp [go_sem]⟩
  | 4, _ => exact ⟨n, by simp [go_sem]⟩
  | 5, _ => exact ⟨at_, by simp [go_sem]⟩
  | 6, _ => exact ⟨hs, by simp [go_sem]⟩
theorem Res.grown {p : Nat} {w w' : World} {r : Option Nat} (h : Res p w) (hg : w.grownBy w' r) (hr : some p ≠ r) : Res p w' :=
  ⟨Nat.lt_of_lt_of_le h.lt hg.size, fun i hi => by obtain ⟨v, hv⟩ := h.cell i hi; exact ⟨v, hg.cell hv hr⟩,
   fun i => (World.frozen?_of_block (a := ⟨p, i, none⟩) (hg.block p h.lt hr)).trans (h.fz i)⟩

def store7 (w : World) (p : Nat) (v0 v1 v2 v3 v4 v5 v6 : Value) : World := ((((((w.setCell ⟨p, 0, none⟩ v0).setCell ⟨p, 1, none⟩ v1).setCell ⟨p, 2, none⟩ v2).setCell ⟨p, 3, none⟩ v3).setCell ⟨p, 4, none⟩ v4).setCell ⟨p, 5, none⟩ v5).setCell ⟨p, 6, none⟩ v6
theorem store7_cells {w : World} {p : Nat} (h : Res p w) (v0 v1 v2 v3 v4 v5 v6 : Value) :
    (store7 w p v0 v1 v2 v3 v4 v5 v6).cell? ⟨p, 0, none⟩ = some v0 ∧ (store7 w p v0 v1 v2 v3 v4 v5 v6).cell? ⟨p, 1, none⟩ = some v1 ∧ (store7 w p v0 v1 v2 v3 v4 v5 v6).cell? ⟨p, 2, none⟩ = some v2 ∧ (store7 w p v0 v1 v2 v3 v4 v5 v6).cell? ⟨p, 3, none⟩ = some v3 ∧
    (store7 w p v0 v1 v2 v3 v4 v5 v6).cell? ⟨p, 4, none⟩ = some v4 ∧ (store7 w p v0 v1 v2 v3 v4 v5 v6).cell? ⟨p, 5, none⟩ = some v5 ∧ (store7 w p v0 v1 v2 v3 v4 v5 v6).cell? ⟨p, 6, none⟩ = some v6 := by
  obtain ⟨u0, c0⟩ := h.cell 0 (by omega)
  obtain ⟨u1, c1⟩ := h.cell 1 (by omega)
  obtain ⟨u2, c2⟩ := h.cell 2 (by omega)
  obtain ⟨u3, c3⟩ := h.cell 3 (by omega)
  obtain ⟨u4, c4⟩ := h.cell 4 (by omega)
  obtain ⟨u5, c5⟩ := h.cell 5 (by omega)
  obtain ⟨u6, c6⟩ := h.cell 6 (by omega)
  unfold store7
  have far : ∀ (W : World) (i j : Nat) (v : Value), i ≠ j → (W.setCell ⟨p, i, none⟩ v).cell? ⟨p, j, none⟩ = W.cell? ⟨p, j, none⟩ := fun W i j v hij => World.cell?_setCell_other _ _ _ _ (by intro e; cases e; exact hij rfl)
  have same : ∀ (W : World) (i : Nat) (v u : Value), W.cell? ⟨p, i, none⟩ = some u → (W.setCell ⟨p, i, none⟩ v).cell? ⟨p, i, none⟩ = some v := fun W i v u hu => World.cell?_setCell_same _ _ _ hu
  refine ⟨?_, ?_, ?_, ?_, ?_, ?_, ?_⟩
  · simp only [far _ 6 0 _ (by omega), far _ 5 0 _ (by omega), far _ 4 0 _ (by omega), far _ 3 0 _ (by omega), far _ 2 0 _ (by omega), far _ 1 0 _ (by omega)]; exact same _ _ _ _ c0
  · simp only [far _ 6 1 _ (by omega), far _ 5 1 _ (by omega), far _ 4 1 _ (by omega), far _ 3 1 _ (by omega), far _ 2 1 _ (by omega)]; exact same _ _ _ u1 (by simp only [far _ 0 1 _ (by omega)]; exact c1)
  · simp only [far _ 6 2 _ (by omega), far _ 5 2 _ (by omega), far _ 4 2 _ (by omega), far _ 3 2 _ (by omega)]; exact same _ _ _ u2 (by simp only [far _ 0 2 _ (by omega), far _ 1 2 _ (by omega)]; exact c2)
  · simp only [far _ 6 3 _ (by omega), far _ 5 3 _ (by omega), far _ 4 3 _ (by omega)]; exact same _ _ _ u3 (by simp only [far _ 0 3 _ (by omega), far _ 1 3 _ (by omega), far _ 2 3 _ (by omega)]; exact c3)
  · simp only [far _ 6 4 _ (by omega), far _ 5 4 _ (by omega)]; exact same _ _ _ u4 (by simp only [far _ 0 4 _ (by omega), far _ 1 4 _ (by omega), far _ 2 4 _ (by omega), far _ 3 4 _ (by omega)]; exact c4)
  · simp only [far _ 6 5 _ (by omega)]; exact same _ _ _ u5 (by simp only [far _ 0 5 _ (by omega), far _ 1 5 _ (by omega), far _ 2 5 _ (by omega), far _ 3 5 _ (by omega), far _ 4 5 _ (by omega)]; exact c5)
  · exact same _ _ _ u6 (by simp only [far _ 0 6 _ (by omega), far _ 1 6 _ (by omega), far _ 2 6 _ (by omega), far _ 3 6 _ (by omega), far _ 4 6 _ (by omega), far _ 5 6 _ (by omega)]; exact c6)
theorem store7_grown (w : World) (p : Nat) (v0 v1 v2 v3 v4 v5 v6 : Value) : w.grownBy (store7 w p v0 v1 v2 v3 v4 v5 v6) (some p) := by
  unfold store7
  exact grownBy_two (grownBy_two (grownBy_two (grownBy_two (grownBy_two (grownBy_two (grownBy_set _ _ _ _) (grownBy_set _ _ _ _)) (grownBy_set _ _ _ _)) (grownBy_set _ _ _ _)) (grownBy_set _ _ _ _)) (grownBy_set _ _ _ _)) (grownBy_set _ _ _ _)

set_option maxHeartbeats 8000000 in
theorem wire_UnProof (s : ByteArray) (hs : s.size ≤ 140737488355328) (w : World) : Calls Try.prog 12 #[.string s] w (UnPr (unProof s) w) := by
  obtain ⟨W, hW⟩ : ∃ W, W = w.alloc (.cells #[.int .i64 0, .int .i64 0, .int .i64 0, .int .i64 0, .int .i64 0, .slice none 0 0, .slice none 0 0] 25) := ⟨_, rfl⟩
  have hWs : W.heap.size = w.heap.size + 1 := by rw [hW]; simp
  have hR := res_new w (.int .i64 0) (.int .i64 0) (.int .i64 0) (.int .i64 0) (.int .i64 0) (.slice none 0 0) (.slice none 0 0)
  rw [← hW] at hR
  have hWb : Below w.heap.size w W := by rw [hW]; exact (Below.refl _ _).alloc (Nat.le_refl _) _
  obtain ⟨V, hV⟩ : ∃ V, V = W.alloc (.cells #[.string s, .int .i64 0, .int .i64 0, .int .i64 0, .int .i64 0, .int .i64 0, .int .i64 0, .int .i64 0, .slice none 0 0, .slice none 0 0] 81) := ⟨_, rfl⟩
  have hP := proof_box s W
  rw [← hV, hWs] at hP
  have hRV : Res w.heap.size V := by rw [hV]; exact hR.grown (World.grownBy_alloc W _ none) (by simp)
  have hVb : Below w.heap.size w V := by rw [hV]; exact hWb.alloc (by omega) _
  have hVs : V.heap.size = w.heap.size + 2 := by rw [hV]; simp; omega
  have HW := hid hW.symm
  have HV := hid hV.symm
  have HRV := hid hRV
  have HVB := hid hVb
  have hread := hid (wire_read (w.heap.size + 1) s hs V hP)
  have hend := hid (fun (st : St) W (hW : Rd (w.heap.size + 1) s st W) => wire_end (w.heap.size + 1) s st W hW)
  clear hW hR hWb hV hP hRV hVb hWs
  go_enter Try.func12, Try.ntmps12
  go_wp2_with fail
  rw [HW.out, HV.out]
  refine hread.out.mono ?_
  rintro e w2 ⟨rfl, g2, hcase⟩
  have HR2 := hid (HRV.out.grown g2 (by intro e; have e2 := Option.some.inj e; omega))
  have G2 := hid g2
  have B2 := hid (HVB.out.trans (below_of_grown (B := w.heap.size) g2 (by omega) (fun k hk => by cases hk; omega)))
  have hs2 := g2.size
  clear g2 hread
  rcases hcase with ⟨er, cs, hN, hp⟩ | ⟨p, ao, cap, ho, hcap, hN, hp, hx, hz⟩
  · have HP := hid hp
    have her : er ≠ 0 := by obtain ⟨_, _, _, h, _⟩ := hp.rd; exact h
    have HU : Hid (unProof s = (noPF, er)) := by
      have e1 : upSt s = .error er := by unfold upSt; rw [hN]
      have e2 : rdEnd s (upSt s) = er := by rw [e1]; rfl
      unfold Hid unProof
      rw [e2, if_neg her]
    have her' : (er != 0) = true := bne_iff_ne.2 her
    clear hp hN
    go_wp2_with fail
    refine (hend.out _ _ HP.out.rd).mono ?_
    rintro e w3 ⟨rfl, b3⟩
    have HR3 := hid (HR2.out.grown (grownBy_only b3) (by intro e; have e2 := Option.some.inj e; omega))
    have B3 := hid (B2.out.trans (b3.below (B := w.heap.size) (by omega) (by omega)))
    have hre : rdEnd s (.error er) = er := rfl
    rw [hre]
    clear b3 hre
    obtain ⟨v0, c0⟩ := HR3.out.cell 0 (by omega)
    obtain ⟨v1, c1⟩ := HR3.out.cell 1 (by omega)
    obtain ⟨v2, c2⟩ := HR3.out.cell 2 (by omega)
    obtain ⟨v3, c3⟩ := HR3.out.cell 3 (by omega)
    obtain ⟨v4, c4⟩ := HR3.out.cell 4 (by omega)
    obtain ⟨v5, c5⟩ := HR3.out.cell 5 (by omega)
    obtain ⟨v6, c6⟩ := HR3.out.cell 6 (by omega)
    have hfr := HR3.out.fz
    go_wp2_with fail
    have hst := store7_cells HR3.out (.int .i64 0) (.int .i64 0) (.int .i64 0) (.int .i64 0) (.int .i64 0) (.slice none 0 0) (.slice none 0 0)
    have hsg := store7_grown w3 w.heap.size (.int .i64 0) (.int .i64 0) (.int .i64 0) (.int .i64 0) (.int .i64 0) (.slice none 0 0) (.slice none 0 0)
    obtain ⟨d0, d1, d2, d3, d4, d5, d6⟩ := hst
    show bodyPost Try.prog _ _ _ _ (store7 w3 w.heap.size (.int .i64 0) (.int .i64 0) (.int .i64 0) (.int .i64 0) (.int .i64 0) (.slice none 0 0) (.slice none 0 0))
    refine bodyPost_ret (v := .tuple #[.agg #[.int .i64 0, .int .i64 0, .int .i64 0, .int .i64 0, .int .i64 0, .slice none 0 0, .slice none 0 0], .int .i64 er]) (by simp [results, Try.results12, go_sem, d0, d1, d2, d3, d4, d5, d6]) rfl ?_
    rw [HU.out]
    exact unPr_no w _ er (B3.out.trans (below_of_grown (B := w.heap.size) hsg (by have := B3.out.size; omega) (fun k hk => by cases hk; omega)))
  · have hst8 : upSt s = (upH s).2 := by unfold upSt; rw [hN]
    have HDEF : Hid (unProof s = if rdEnd s (upH s).2 = 0 then (upPF s, 0) else (noPF, rdEnd s (upH s).2)) := by unfold Hid unProof; rw [hst8]
    have HPF : Hid (upPF s = ⟨(upK s).1, (upW s).1, (upF s).1, (upF s).2.1, (upN s).1, (upF s).2.2.1, (upH s).1⟩) := rfl
    have HP := hid hp
    have HX := hid (own_lower hx (show w.heap.size ≤ V.heap.size by omega))
    have HZ := hid (own_lower hz (show w.heap.size ≤ V.heap.size by omega))
    have hxl := hid (fun k (hk : (Value.slice ao (upF s).2.2.1.length cap).ownBlock = some k) => (hx.lt k hk).1)
    have hzl := hid (fun k (hk : (Value.slice ho (upH s).1.length hcap).ownBlock = some k) => (hz.lt k hk).1)
    obtain ⟨kn, hkn⟩ : ∃ v, v = (upK s).1 := ⟨_, rfl⟩
    obtain ⟨wn, hwn⟩ : ∃ v, v = (upW s).1 := ⟨_, rfl⟩
    obtain ⟨an, han⟩ : ∃ v, v = (upF s).1 := ⟨_, rfl⟩
    obtain ⟨bn, hbn⟩ : ∃ v, v = (upF s).2.1 := ⟨_, rfl⟩
    obtain ⟨xs, hxs⟩ : ∃ v, v = (upF s).2.2.1 := ⟨_, rfl⟩
    obtain ⟨nn, hnn⟩ : ∃ v, v = (upN s).1 := ⟨_, rfl⟩
    obtain ⟨⟨zs, st8⟩, hzs⟩ : ∃ v, v = upH s := ⟨_, rfl⟩
    rw [← hkn, ← hwn, ← han, ← hbn, ← hnn, ← hxs, ← hzs] at HP HPF
    rw [← hxs] at HX hxl
    rw [← hzs] at HZ hzl HDEF
    simp only at HP HPF HX HZ hxl hzl HDEF
    clear hp hx hz hN hst8 hkn hwn han hbn hxs hnn hzs
    go_wp2_with fail
    refine (hend.out _ _ HP.out.rd).mono ?_
    rintro e w3 ⟨rfl, b3⟩
    have HR3 := hid (HR2.out.grown (grownBy_only b3) (by intro e; have e2 := Option.some.inj e; omega))
    have B3 := hid (B2.out.trans (b3.below (B := w.heap.size) (by omega) (by omega)))
    have G3 := grownBy_only b3
    have cell3 : ∀ i v, 3 ≤ i → w2.cell? ⟨w.heap.size + 1, i, none⟩ = some v → w3.cell? ⟨w.heap.size + 1, i, none⟩ = some v := fun i v hi h => (b3.cell i (by omega) (by omega)).trans h
    have d0 : w3.cell? ⟨w.heap.size + 1, 3, none⟩ = some (.int .i64 kn) := cell3 _ _ (by omega) (HP.out.cell 0 _ rfl)
    have d1 : w3.cell? ⟨w.heap.size + 1, 4, none⟩ = some (.int .i64 wn) := cell3 _ _ (by omega) (HP.out.cell 1 _ rfl)
    have d2 : w3.cell? ⟨w.heap.size + 1, 5, none⟩ = some (.int .i64 an) := cell3 _ _ (by omega) (HP.out.cell 2 _ rfl)
    have d3 : w3.cell? ⟨w.heap.size + 1, 6, none⟩ = some (.int .i64 bn) := cell3 _ _ (by omega) (HP.out.cell 3 _ rfl)
    have d4 : w3.cell? ⟨w.heap.size + 1, 7, none⟩ = some (.int .i64 nn) := cell3 _ _ (by omega) (HP.out.cell 4 _ rfl)
    have d5 : w3.cell? ⟨w.heap.size + 1, 8, none⟩ = some (.slice ao xs.length cap) := cell3 _ _ (by omega) (HP.out.cell 5 _ rfl)
    have d6 : w3.cell? ⟨w.heap.size + 1, 9, none⟩ = some (.slice ho zs.length hcap) := cell3 _ _ (by omega) (HP.out.cell 6 _ rfl)
    have keep3 : ∀ {lo size n : Nat} {e : TypeId} {v : Value} {ys : List Value}, w2.ownsRow lo e size v n ys → (∀ k, v.ownBlock = some k → V.heap.size ≤ k) → w3.ownsRow lo e size v n ys := fun {lo size n e v ys} h hv =>
      h.kept G3 (by
        cases hb : v.ownBlock with
        | none => exact .inl rfl
        | some k => exact .inr (fun e => by have e2 := Option.some.inj e; have := hv k hb; omega))
    have HX3 := hid (keep3 HX.out hxl.out)
    have HZ3 := hid (keep3 HZ.out hzl.out)
    clear b3 G3 cell3 keep3 HX HZ
    obtain ⟨v0, c0⟩ := HR3.out.cell 0 (by omega)
    obtain ⟨v1, c1⟩ := HR3.out.cell 1 (by omega)
    obtain ⟨v2, c2⟩ := HR3.out.cell 2 (by omega)
    obtain ⟨v3, c3⟩ := HR3.out.cell 3 (by omega)
    obtain ⟨v4, c4⟩ := HR3.out.cell 4 (by omega)
    obtain ⟨v5, c5⟩ := HR3.out.cell 5 (by omega)
    obtain ⟨v6, c6⟩ := HR3.out.cell 6 (by omega)
    have hfr := HR3.out.fz
    by_cases h0 : rdEnd s st8 = 0
    · have HU : Hid (unProof s = (⟨kn, wn, an, bn, nn, xs, zs⟩, 0)) := by unfold Hid; rw [HDEF.out, if_pos h0, HPF.out]
      go_wp2_with fail
      have hst := store7_cells HR3.out (.int .i64 kn) (.int .i64 wn) (.int .i64 an) (.int .i64 bn) (.int .i64 nn) (.slice ao xs.length cap) (.slice ho zs.length hcap)
      have hsg := store7_grown w3 w.heap.size (.int .i64 kn) (.int .i64 wn) (.int .i64 an) (.int .i64 bn) (.int .i64 nn) (.slice ao xs.length cap) (.slice ho zs.length hcap)
      clear d0 d1 d2 d3 d4 d5 d6
      obtain ⟨d0, d1, d2, d3, d4, d5, d6⟩ := hst
      show bodyPost Try.prog _ _ _ _ (store7 w3 w.heap.size (.int .i64 kn) (.int .i64 wn) (.int .i64 an) (.int .i64 bn) (.int .i64 nn) (.slice ao xs.length cap) (.slice ho zs.length hcap))
      refine bodyPost_ret (v := .tuple #[.agg #[.int .i64 kn, .int .i64 wn, .int .i64 an, .int .i64 bn, .int .i64 nn, .slice ao xs.length cap, .slice ho zs.length hcap], .int .i64 0]) (by simp [results, Try.results12, go_sem, d0, d1, d2, d3, d4, d5, d6]) rfl ?_
      rw [HU.out]
      have keep4 : ∀ {lo size n : Nat} {e : TypeId} {v : Value} {ys : List Value}, w3.ownsRow lo e size v n ys → (∀ k, v.ownBlock = some k → V.heap.size ≤ k) → (store7 w3 w.heap.size (.int .i64 kn) (.int .i64 wn) (.int .i64 an) (.int .i64 bn) (.int .i64 nn) (.slice ao xs.length cap) (.slice ho zs.length hcap)).ownsRow lo e size v n ys := fun {lo size n e v ys} h hv =>
        h.kept hsg (by
          cases hb : v.ownBlock with
          | none => exact .inl rfl
          | some k => exact .inr (fun e => by have e2 := Option.some.inj e; have := hv k hb; omega))
      exact ⟨ao, cap, ho, hcap, rfl, keep4 HX3.out hxl.out, keep4 HZ3.out hzl.out, B3.out.trans (below_of_grown (B := w.heap.size) hsg (by have := B3.out.size; omega) (fun k hk => by cases hk; omega))⟩
    · have HU : Hid (unProof s = (noPF, rdEnd s st8)) := by unfold Hid; rw [HDEF.out, if_neg h0]
      have h0' : (rdEnd s st8 != 0) = true := bne_iff_ne.2 h0
      go_wp2_with fail
      have hst := store7_cells HR3.out (.int .i64 0) (.int .i64 0) (.int .i64 0) (.int .i64 0) (.int .i64 0) (.slice none 0 0) (.slice none 0 0)
      have hsg := store7_grown w3 w.heap.size (.int .i64 0) (.int .i64 0) (.int .i64 0) (.int .i64 0) (.int .i64 0) (.slice none 0 0) (.slice none 0 0)
      clear d0 d1 d2 d3 d4 d5 d6
      obtain ⟨d0, d1, d2, d3, d4, d5, d6⟩ := hst
      show bodyPost Try.prog _ _ _ _ (store7 w3 w.heap.size (.int .i64 0) (.int .i64 0) (.int .i64 0) (.int .i64 0) (.int .i64 0) (.slice none 0 0) (.slice none 0 0))
      refine bodyPost_ret (v := .tuple #[.agg #[.int .i64 0, .int .i64 0, .int .i64 0, .int .i64 0, .int .i64 0, .slice none 0 0, .slice none 0 0], .int .i64 (rdEnd s st8)]) (by simp [results, Try.results12, go_sem, d0, d1, d2, d3, d4, d5, d6]) rfl ?_
      rw [HU.out]
      exact unPr_no w _ _ (B3.out.trans (below_of_grown (B := w.heap.size) hsg (by have := B3.out.size; omega) (fun k hk => by cases hk; omega)))
end Go.Proofs.Ytocjjiacmedjmaa
