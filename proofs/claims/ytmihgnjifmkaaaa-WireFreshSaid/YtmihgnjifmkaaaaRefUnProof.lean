/- Walk of the reference's UnProof. -/
import Derived.Test.YtmihgnjifmkaaaaUnProof
import Derived.Test.YtmihgnjifmkaaaaPlPlaces
import Derived.Deep.Cut
set_option maxRecDepth 100000
namespace Go.Proofs.Ytmihgnjifmkaaaa
open Go Go.RowKit

/-- The kind as the reference reads it. -/
def krOf (s : ByteArray) : Nat × St := rdNum s 4611686018427387904 110 (upW s).2
theorem rdNum_at (s : ByteArray) (max : Nat) (k : Int) (p v nx : Nat) (er : Int) (h : varAt s p 0 0 = (v, nx, er)) : rdNum s max k (.ok p) = if er ≠ 0 then (0, .error er) else if max < v then (0, .error k) else (v, .ok nx) := by
  simp only [rdNum]; rw [h]
theorem kr_st (s : ByteArray) : upSt3 s = if (krOf s).1 < 1 ∨ 4 < (krOf s).1 then stNo 110 (krOf s).2 else (krOf s).2 := by
  unfold upSt3 upK krOf
  cases (upW s).2 with
  | error e => simp [rdNum, stNo]
  | ok p =>
    obtain ⟨⟨v, nx, er⟩, hv⟩ : ∃ r, varAt s p 0 0 = r := ⟨_, rfl⟩
    rw [rdNum_at s 4 110 p v nx er hv, rdNum_at s 4611686018427387904 110 p v nx er hv]
    by_cases h0 : er ≠ 0
    · rw [if_pos h0, if_pos h0]; simp [stNo]
    · rw [if_neg h0, if_neg h0]
      by_cases h1 : 4611686018427387904 < v
      · rw [if_pos (show 4 < v by omega), if_pos h1]; simp [stNo]
      · rw [if_neg h1]
        by_cases h2 : 4 < v
        · rw [if_pos h2, if_pos (Or.inr h2 : v < 1 ∨ 4 < v)]; simp [stNo]
        · rw [if_neg h2]
          by_cases h3 : v < 1
          · rw [if_pos h3, if_pos (Or.inl h3 : v < 1 ∨ 4 < v)]
          · rw [if_neg h3, if_neg (by omega)]
theorem kr_ok (s : ByteArray) {p : Nat} (h : upSt3 s = .ok p) : (krOf s).1 = (upK s).1 ∧ 1 ≤ (upK s).1 ∧ (upK s).1 ≤ 4 ∧ (∃ q, (upW s).2 = .ok q) := by
  unfold upSt3 upK at h
  unfold krOf upK
  cases hw : (upW s).2 with
  | error e => rw [hw] at h; simp [rdNum, stNo] at h
  | ok q =>
    rw [hw] at h
    obtain ⟨⟨v, nx, er⟩, hv⟩ : ∃ r, varAt s q 0 0 = r := ⟨_, rfl⟩
    rw [rdNum_at s 4 110 q v nx er hv] at h ⊢
    rw [rdNum_at s 4611686018427387904 110 q v nx er hv]
    by_cases h0 : er ≠ 0
    · rw [if_pos h0] at h; simp [stNo] at h
    · rw [if_neg h0] at h ⊢
      rw [if_neg h0]
      by_cases h2 : 4 < v
      · rw [if_pos h2] at h; simp [stNo] at h
      · rw [if_neg h2] at h ⊢
        rw [if_neg (show ¬ 4611686018427387904 < v by omega)]
        by_cases h3 : v < 1
        · rw [if_pos h3] at h; simp [stNo] at h
        · exact ⟨rfl, by simp only; omega, by simp only; omega, q, rfl⟩
theorem rdFields_error (s : ByteArray) (k : Nat) (e : Int) : (rdFields s k (.error e)).2.2.2 = .error e := by
  unfold rdFields
  split
  · rfl
  · split
    · rfl
    · simp only [rdPlaces, rdNum]; rw [rdPl_no]

/-- What the fields are that the kind names, where the reader is not refused. -/
structure Joint (s : ByteArray) (kr : Nat) (st4 : St) (fa fb : Nat) (xs : List Int) : Prop where
  st : st4 = (upF s).2.2.2
  ok : ∀ q, st4 = .ok q → fa = (upF s).1 ∧ fb = (upF s).2.1 ∧ xs = (upF s).2.2.1 ∧ kr = (upK s).1 ∧ ∃ q, (upW s).2 = .ok q
theorem joint_no (s : ByteArray) (kr fa fb : Nat) (xs : List Int) (e : Int) (h : upSt3 s = .error e) : Joint s kr (.error e) fa fb xs :=
  ⟨by unfold upF; rw [h, rdFields_error], fun q hq => by cases hq⟩
theorem joint_two (s : ByteArray) (kr : Nat) (hk : kr = 1 ∨ kr = 2) (st2 : St) (h : upSt3 s = st2) (ho : ∀ p, upSt3 s = .ok p → kr = (upK s).1 ∧ 1 ≤ (upK s).1 ∧ (upK s).1 ≤ 4 ∧ (∃ q, (upW s).2 = .ok q)) :
    Joint s kr (rdNum s 4611686018427387904 10 st2).2 (rdNum s 4611686018427387904 10 st2).1 0 [] := by
  subst h
  cases h : upSt3 s with
  | error e => exact joint_no s kr 0 0 [] e h
  | ok p =>
    obtain ⟨h1, _, _, h4⟩ := ho p h
    have e : upF s = ((rdNum s 4611686018427387904 10 (.ok p)).1, 0, [], (rdNum s 4611686018427387904 10 (.ok p)).2) := by
      unfold upF rdFields; rw [h, ← h1, if_pos hk]
    exact ⟨by rw [e], fun q _ => ⟨by rw [e], by rw [e], by rw [e], h1, h4⟩⟩
theorem joint_three (s : ByteArray) (kr : Nat) (hk : kr = 3) (st2 : St) (h : upSt3 s = st2) (ho : ∀ p, upSt3 s = .ok p → kr = (upK s).1 ∧ 1 ≤ (upK s).1 ∧ (upK s).1 ≤ 4 ∧ (∃ q, (upW s).2 = .ok q)) :
    Joint s kr (rdNum s 4611686018427387904 10 (rdNum s 4611686018427387904 10 st2).2).2 (rdNum s 4611686018427387904 10 st2).1 (rdNum s 4611686018427387904 10 (rdNum s 4611686018427387904 10 st2).2).1 [] := by
  subst h
  cases h : upSt3 s with
  | error e => exact joint_no s kr 0 0 [] e h
  | ok p =>
    obtain ⟨h1, _, _, h4⟩ := ho p h
    have e : upF s = ((rdNum s 4611686018427387904 10 (.ok p)).1, (rdNum s 4611686018427387904 10 (rdNum s 4611686018427387904 10 (.ok p)).2).1, [], (rdNum s 4611686018427387904 10 (rdNum s 4611686018427387904 10 (.ok p)).2).2) := by
      unfold upF rdFields; rw [h, ← h1, if_neg (by omega), if_pos hk]
    exact ⟨by rw [e], fun q _ => ⟨by rw [e], by rw [e], by rw [e], h1, h4⟩⟩
theorem joint_four (s : ByteArray) (kr : Nat) (hk : kr = 4) (st2 : St) (xs : List Int) (h : upSt3 s = st2) (ho : ∀ p, upSt3 s = .ok p → kr = (upK s).1 ∧ 1 ≤ (upK s).1 ∧ (upK s).1 ≤ 4 ∧ (∃ q, (upW s).2 = .ok q))
    (hx : ∀ p, (rdPlaces s st2).2 = .ok p → xs = (rdPlaces s st2).1) : Joint s kr (rdPlaces s st2).2 0 0 xs := by
  subst h
  cases h : upSt3 s with
  | error e =>
    have e2 : (rdPlaces s (.error e)).2 = .error e := by simp only [rdPlaces, rdNum]; rw [rdPl_no]
    rw [e2]; exact joint_no s kr 0 0 xs e h
  | ok p =>
    obtain ⟨h1, _, _, h4⟩ := ho p h
    rw [h] at hx
    have e : upF s = (0, 0, (rdPlaces s (.ok p)).1, (rdPlaces s (.ok p)).2) := by
      unfold upF rdFields; rw [h, ← h1, if_neg (by omega), if_neg (by omega)]
    exact ⟨by rw [e], fun q hq => ⟨by rw [e], by rw [e], by rw [e]; exact hx q hq, h1, h4⟩⟩
/-- The reference at work on a proof: its reader at pb, its proof at xb, the answer's box at w's end. -/
structure UR (w : World) (pb xb : Nat) (s : ByteArray) (st : St) (cs : List Value) (W : World) : Prop where
  rd : Rd pb s st W
  x : ∀ i v, cs[i]? = some v → W.cell? ⟨xb, i, none⟩ = some v
  xfz : ∀ i, W.frozen? ⟨xb, i, none⟩ = false
  xlt : xb < W.heap.size
  res : Res w.heap.size W
  below : Below w.heap.size w W
section
variable {w : World} {pb xb : Nat} {s : ByteArray} {st st' : St} {cs : List Value} {W W' : World}
theorem UR.only (h : UR w pb xb s st cs W) (hr : Rd pb s st' W') (ho : Only pb W W') (h1 : pb ≠ xb) (h2 : w.heap.size < pb) : UR w pb xb s st' cs W' := by
  have hb : W'.heap[xb]? = W.heap[xb]? := ho.block xb (by omega) h.xlt
  exact ⟨hr, fun i v hi => (World.cell?_of_block (a := ⟨xb, i, none⟩) hb).trans (h.x i v hi), fun i => (World.frozen?_of_block (a := ⟨xb, i, none⟩) hb).trans (h.xfz i), Nat.lt_of_lt_of_le h.xlt ho.size,
    h.res.grown (grownBy_only ho) (by intro e; have e2 := Option.some.inj e; omega), h.below.trans (ho.below (by omega) h.below.size)⟩
theorem UR.set (h : UR w pb xb s st cs W) {i : Nat} (hi : i < cs.length) (u : Value) (h1 : pb ≠ xb) (h2 : w.heap.size < xb) : UR w pb xb s st (cs.set i u) (W.setCell ⟨xb, i, none⟩ u) := by
  have hg := grownBy_set xb i W u
  have hp : (W.setCell ⟨xb, i, none⟩ u).heap[pb]? = W.heap[pb]? := Below.heap_setCell W ⟨xb, i, none⟩ u pb h1
  refine ⟨?_, fun j v hj => ?_, fun j => by simpa using h.xfz j, by have := h.xlt; simpa using this, h.res.grown hg (by intro e; have e2 := Option.some.inj e; omega), h.below.setCell (Nat.le_of_lt h2) _⟩
  · have hc : ∀ j, (W.setCell ⟨xb, i, none⟩ u).cell? ⟨pb, j, none⟩ = W.cell? ⟨pb, j, none⟩ := fun j => World.cell?_of_block (a := ⟨pb, j, none⟩) hp
    have hf : ∀ j, (W.setCell ⟨xb, i, none⟩ u).frozen? ⟨pb, j, none⟩ = W.frozen? ⟨pb, j, none⟩ := fun j => World.frozen?_of_block (a := ⟨pb, j, none⟩) hp
    have hr := h.rd
    unfold Rd at hr ⊢
    rw [hc, hf, hf]
    refine ⟨hr.1, hr.2.1, hr.2.2.1, ?_⟩
    have h4 := hr.2.2.2
    cases st <;> simpa only [hc] using h4
  · by_cases e : i = j
    · subst e
      rw [List.getElem?_set_self hi] at hj
      cases hj
      exact World.cell?_setCell_same _ _ _ (h.x i _ (List.getElem?_eq_getElem hi))
    · rw [List.getElem?_set_ne e] at hj
      rw [World.cell?_setCell_other _ _ _ _ (by intro e2; have e3 := congrArg Addr.off e2; simp only at e3; omega)]
      exact h.x j v hj
theorem UR.drew (h : UR w pb xb s st cs W) : UR w pb xb s st cs W.drew := ⟨h.rd, h.x, h.xfz, h.xlt, ⟨h.res.lt, h.res.cell, h.res.fz⟩, h.below.drew⟩
theorem UR.under (h : UR w pb xb s st cs W) (hb : Below W.heap.size W W') : UR w pb xb s st cs W' :=
  ⟨h.rd.below hb, fun i v hi => (hb.cell (p := ⟨xb, i, none⟩) h.xlt).trans (h.x i v hi), fun i => (hb.frozen (p := ⟨xb, i, none⟩) h.xlt).trans (h.xfz i), Nat.lt_of_lt_of_le h.xlt hb.size,
    h.res.grown (grownBy_of_below hb none) (by simp), Below.then h.below h.below.size hb⟩
end

/-- Behind the numbers that the kind names. -/
def Mid (w : World) (xb : Nat) (s : ByteArray) (kr : Nat) (wv : Int) (W : World) : Prop :=
  ∃ (st4 : St) (fa fb : Nat) (xs : List Int) (ao : Option Addr) (cap : Nat), Joint s kr st4 fa fb xs ∧
    UR w (w.heap.size + 1) xb s st4 [.int .i64 kr, .int .i64 wv, .int .i64 fa, .int .i64 fb, .int .i64 0, .slice ao xs.length cap, .slice none 0 0] W ∧
    W.ownsRow (xb + 1) 3 1 (.slice ao xs.length cap) xs.length (ints xs) ∧ xb + 1 ≤ W.heap.size
theorem place_refuse_zero (b : Nat) (s : ByteArray) (st : St) (w : World) (h : Rd b s st w) :
    Calls Try.prog 71 #[.pointer (some ⟨b, 0, none⟩), .int .i64 0] w fun e w' => e = .returned (.tuple #[]) ∧ Rd b s st w' ∧ Only b w w' := by
  cases st with
  | ok p =>
    obtain ⟨h0, h1, h2, h3, h4, h5⟩ := h
    have HR : Hid (Rd b s (.ok p) (w.setCell ⟨b, 2, none⟩ (.int .i64 0))) :=
      ⟨by rw [World.cell?_setCell_other _ _ _ _ (by simp)]; exact h0, by simpa using h1, by simpa using h2, by rw [World.cell?_setCell_other _ _ _ _ (by simp)]; exact h3, World.cell?_setCell_same _ _ _ h4, h5⟩
    go_enter Try.func71, Try.ntmps71
    go_wp2_with fail
    go_end0
    exact ⟨rfl, HR.out, Only.set _ _ _ (.inr rfl) _⟩
  | error e =>
    have H := hid h
    obtain ⟨h0, h1, h2, he, h4, q, h5, h6⟩ := h
    have he' : (e == 0) = false := beq_eq_false_iff_ne.2 he
    go_enter Try.func71, Try.ntmps71
    go_wp2_with fail
    go_end0
    exact ⟨rfl, H.out, Only.refl _ _⟩
theorem place_refuse_any (b : Nat) (s : ByteArray) (st : St) (k : Int) (w : World) (h : Rd b s st w) :
    Calls Try.prog 71 #[.pointer (some ⟨b, 0, none⟩), .int .i64 k] w fun e w' => e = .returned (.tuple #[]) ∧ Rd b s (if k ≠ 0 then stNo k st else st) w' ∧ Only b w w' := by
  by_cases hk : k = 0
  · subst hk
    rw [if_neg (by simp)]
    exact place_refuse_zero b s st w h
  · rw [if_pos hk]
    exact place_refuse b s st k hk w h
set_option maxHeartbeats 16000000 in
theorem ref11_UnProof (s : ByteArray) (hs : s.size ≤ 140737488355328) (w : World) : Calls Try.prog 36 #[.string s] w (UnPr (unProof s) w) := by
  obtain ⟨W, hW⟩ : ∃ W, W = w.alloc (.cells #[.int .i64 0, .int .i64 0, .int .i64 0, .int .i64 0, .int .i64 0, .slice none 0 0, .slice none 0 0] 57) := ⟨_, rfl⟩
  have hWs : W.heap.size = w.heap.size + 1 := by rw [hW]; simp
  have hR := res_new w (.int .i64 0) (.int .i64 0) (.int .i64 0) (.int .i64 0) (.int .i64 0) (.slice none 0 0) (.slice none 0 0)
  rw [← hW] at hR
  have hWb : Below w.heap.size w W := by rw [hW]; exact (Below.refl _ _).alloc (Nat.le_refl _) _
  obtain ⟨V, hV⟩ : ∃ V, V = W.alloc (.cells #[.string s, .int .i64 0, .int .i64 0] 101) := ⟨_, rfl⟩
  have hP := box_place s W
  rw [← hV, hWs] at hP
  have hRV : Res w.heap.size V := by rw [hV]; exact hR.grown (World.grownBy_alloc W _ none) (by simp)
  have hVb : Below w.heap.size w V := by rw [hV]; exact hWb.alloc (by omega) _
  have hVs : V.heap.size = w.heap.size + 2 := by rw [hV]; simp; omega
  have HW := hid hW.symm
  have HV := hid hV.symm
  have HRV := hid hRV
  have HVB := hid hVb
  have hmark := hid (place_letter (w.heap.size + 1) s (.ok 0) 80 (by decide) hs V hP)
  have hwd := hid (fun W (hW : Rd (w.heap.size + 1) s (rdMark s 80 (.ok 0)) W) => place_width (w.heap.size + 1) s (rdMark s 80 (.ok 0)) hs W hW)
  have hnum := hid (fun (st : St) W (hW : Rd (w.heap.size + 1) s st W) => place_number (w.heap.size + 1) s st 4611686018427387904 10 (by decide) (by decide) hs W hW)
  have hnk := hid (fun W (hW : Rd (w.heap.size + 1) s (upW s).2 W) => place_number (w.heap.size + 1) s (upW s).2 4611686018427387904 110 (by decide) (by decide) hs W hW)
  have hrf := hid (fun (st : St) k (hk : k ≠ 0) W (hW : Rd (w.heap.size + 1) s st W) => place_refuse (w.heap.size + 1) s st k hk W hW)
  have hpl := hid (fun (st : St) W (hW : Rd (w.heap.size + 1) s st W) => place_places (w.heap.size + 1) s st hs W hW)
  have hend := hid (fun (st : St) W (hW : Rd (w.heap.size + 1) s st W) => place_end (w.heap.size + 1) s st W hW)
  change Hid (∀ W, Rd (w.heap.size + 1) s (rdMark s 80 (.ok 0)) W → Calls Try.prog 66 #[.pointer (some ⟨w.heap.size + 1, 0, none⟩)] W fun e w' => ∃ v : Int, e = .returned (.int .i64 v) ∧ (∀ p, (upW s).2 = .ok p → v = (upW s).1) ∧ Rd (w.heap.size + 1) s (upW s).2 w' ∧ Only (w.heap.size + 1) W w') at hwd
  change Hid (∀ W, Rd (w.heap.size + 1) s (upW s).2 W → Calls Try.prog 54 #[.pointer (some ⟨w.heap.size + 1, 0, none⟩), .int .i64 (4611686018427387904 : Nat), .int .i64 110] W fun e w' => e = .returned (.int .i64 (krOf s).1) ∧ Rd (w.heap.size + 1) s (krOf s).2 w' ∧ Only (w.heap.size + 1) W w') at hnk
  have hks := hid (kr_st s)
  have hko := hid (fun p => kr_ok s (p := p))
  have hkb := rdNum_le s 4611686018427387904 110 (upW s).2
  change (krOf s).1 ≤ _ at hkb
  obtain ⟨⟨kr, st2⟩, hw2⟩ : ∃ r, r = krOf s := ⟨_, rfl⟩
  rw [← hw2] at hnk hks hko hkb
  simp only at hnk hks hko hkb
  clear hW hR hWb hV hP hRV hVb hWs hw2
  go_enter Try.func36, Try.ntmps36
  go_wp2_with fail
  rw [HW.out, HV.out]
  refine hmark.out.mono ?_
  rintro e w1 ⟨rfl, h1, b1⟩
  have H1 := hid h1
  have R1 := hid (HRV.out.grown (grownBy_only b1) (by intro e; have e2 := Option.some.inj e; omega))
  have B1 := hid (HVB.out.trans (b1.below (B := w.heap.size) (by omega) (by omega)))
  have hs1 := b1.size
  clear h1 b1 hmark HRV HVB
  go_wp2_with fail
  refine (hwd.out _ H1.out).mono ?_
  rintro e w2 ⟨wv, rfl, hwv, h2, b2⟩
  have H2 := hid h2
  have HWV := hid hwv
  have R2 := hid (R1.out.grown (grownBy_only b2) (by intro e; have e2 := Option.some.inj e; omega))
  have B2 := hid (B1.out.trans (b2.below (B := w.heap.size) (by omega) (by omega)))
  have hs2 := Nat.le_trans hs1 b2.size
  clear h2 hwv b2 H1 R1 B1 hs1
  go_wp2_with fail
  have hxn := res_new w2 (.int .i64 0) (.int .i64 wv) (.int .i64 0) (.int .i64 0) (.int .i64 0) (.slice none 0 0) (.slice none 0 0)
  obtain ⟨w3, hw3⟩ : ∃ V, V = w2.alloc (.cells #[.int .i64 0, .int .i64 wv, .int .i64 0, .int .i64 0, .int .i64 0, .slice none 0 0, .slice none 0 0] 57) := ⟨_, rfl⟩
  have hU : UR w (w.heap.size + 1) w2.heap.size s (upW s).2 [.int .i64 0, .int .i64 wv, .int .i64 0, .int .i64 0, .int .i64 0, .slice none 0 0, .slice none 0 0] w3 := by
    have hb : Below w2.heap.size w2 w3 := by rw [hw3]; exact (Below.refl _ _).alloc (Nat.le_refl _) _
    rw [← hw3] at hxn
    refine ⟨H2.out.below hb, fun i v hi => ?_, hxn.fz, hxn.lt, R2.out.grown (grownBy_of_below hb none) (by simp), Below.then B2.out B2.out.size hb⟩
    rw [hw3]
    match i, hi with
    | 0, hi => cases hi; simp [go_sem]
    | 1, hi => cases hi; simp [go_sem]
    | 2, hi => cases hi; simp [go_sem]
    | 3, hi => cases hi; simp [go_sem]
    | 4, hi => cases hi; simp [go_sem]
    | 5, hi => cases hi; simp [go_sem]
    | 6, hi => cases hi; simp [go_sem]
    | i + 7, hi => simp at hi
  have HU3 := hid hU
  have HW3 := hid hw3.symm
  obtain ⟨xb, hxb⟩ : ∃ xb, xb = w2.heap.size := ⟨_, rfl⟩
  have hx1 : w.heap.size + 1 ≠ xb := by omega
  have hx2 : w.heap.size < xb := by omega
  have hx3 : w.heap.size < w.heap.size + 1 := by omega
  rw [← hxb] at HU3 ⊢
  have hxs : xb + 1 ≤ w3.heap.size := HU3.out.xlt
  clear hw3 hU hxn hxb R2 B2 H2 hs2 hVs
  rw [HW3.out]
  refine (hnk.out _ HU3.out.rd).mono ?_
  rintro e w4 ⟨rfl, h4, b4⟩
  have U4 := hid (HU3.out.only h4 b4 hx1 hx3)
  have hs4 : xb + 1 ≤ w4.heap.size := Nat.le_trans hxs b4.size
  have hc0 : w4.cell? ⟨xb, 0, none⟩ = some (.int .i64 0) := U4.out.x 0 _ rfl
  have hf0 := U4.out.xfz 0
  clear h4 b4 HU3
  have U5 := hid (U4.out.set (i := 0) (by simp) (.int .i64 kr) hx1 hx2)
  have hs5 : xb + 1 ≤ (w4.setCell ⟨xb, 0, none⟩ (.int .i64 kr)).heap.size := by simpa using hs4
  clear U4
  have E3 : Hid (upSt3 s = if kr < 1 ∨ 4 < kr then stNo 110 st2 else st2) := hks
  obtain ⟨W5, hW5⟩ : ∃ V, V = w4.setCell ⟨xb, 0, none⟩ (.int .i64 kr) := ⟨_, rfl⟩
  rw [← hW5] at U5 hs5
  have HW5 := hid hW5.symm
  clear hW5
  go_upto_region 5 with fail
  rw [HW5.out]
  clear HW5 hc0 hf0
  have hc0 : W5.cell? ⟨xb, 0, none⟩ = some (.int .i64 kr) := U5.out.x 0 _ rfl
  go_cut [26] from 8 (fun s26 wc => s26 = .bool (decide (kr < 1 ∨ 4 < kr)) ∧ wc = W5)
  case first =>
    rcases (show kr < 1 ∨ 4 < kr ∨ (1 ≤ kr ∧ kr ≤ 4) by omega) with hk | hk | hk
    · have hk1 : (kr : Int) < 1 := by omega
      have e0 : decide (kr < 1 ∨ 4 < kr) = true := decide_eq_true (.inl hk)
      go_wp2_with fail
      go_meet
      case rel => exact ⟨by rw [e0], rfl⟩
    · have hk1 : ¬ (kr : Int) < 1 := by omega
      have hk2 : 4 < (kr : Int) := by omega
      have e0 : decide (kr < 1 ∨ 4 < kr) = true := decide_eq_true (.inr hk)
      go_wp2_with fail
      go_meet
      case rel => exact ⟨by rw [e0], rfl⟩
    · have hk1 : ¬ (kr : Int) < 1 := by omega
      have hk2 : ¬ 4 < (kr : Int) := by omega
      have e0 : decide (kr < 1 ∨ 4 < kr) = false := decide_eq_false (by omega)
      go_wp2_with fail
      go_meet
      case rel => exact ⟨by rw [e0], rfl⟩
  case rest =>
  obtain ⟨rfl, rfl⟩ := hcut
  go_upto_if 26 with fail
  go_cut [] from 8 (fun wc => UR w (w.heap.size + 1) xb s (upSt3 s) [.int .i64 kr, .int .i64 wv, .int .i64 0, .int .i64 0, .int .i64 0, .slice none 0 0, .slice none 0 0] wc ∧ xb + 1 ≤ wc.heap.size)
  case first =>
    by_cases hk : kr < 1 ∨ 4 < kr
    · rw [decide_eq_true hk]
      have e3 := hid (show upSt3 s = stNo 110 st2 by rw [E3.out, if_pos hk])
      go_wp2_with fail
      refine (hrf.out _ 110 (by decide) _ U5.out.rd).mono ?_
      rintro e w6 ⟨rfl, h6, b6⟩
      have U8 := hid (U5.out.only h6 b6 hx1 hx3)
      have hs8 : xb + 1 ≤ w6.heap.size := Nat.le_trans hs5 b6.size
      clear h6 b6
      go_wp2_with fail
      go_meet
      case rel => exact ⟨by rw [e3.out]; exact U8.out, hs8⟩
    · rw [decide_eq_false hk]
      have e3 := hid (show upSt3 s = st2 by rw [E3.out, if_neg hk])
      go_wp2_with fail
      go_meet
      case rel => exact ⟨by rw [e3.out]; exact U5.out, hs5⟩
  case rest =>
  clear U5 hs5 hc0
  obtain ⟨hu5, hs5⟩ := hcut
  have U5 := hid hu5
  clear hu5
  have hc0 : wc.cell? ⟨xb, 0, none⟩ = some (.int .i64 kr) := U5.out.x 0 _ rfl
  have hJ2 := hid (fun hk => joint_two s kr hk _ rfl hko.out)
  have hJ3 := hid (fun hk => joint_three s kr hk _ rfl hko.out)
  have hJ4 := hid (fun hk xs => joint_four s kr hk _ xs rfl hko.out)
  have hJ0 := hid (fun e => joint_no s kr 0 0 [] e)
  obtain ⟨st3, hst3⟩ : ∃ r, r = upSt3 s := ⟨_, rfl⟩
  rw [← hst3] at U5 E3 hJ2 hJ3 hJ4 hJ0
  clear hst3
  go_upto_region 7 with fail
  iterate 10 (first | go_values | go_skip | go_guarded | go_step | go_upon | go_back)
  go_cut [] from 8 (fun wc => Mid w xb s kr wv wc)
  case first =>
    rcases (show (kr < 1 ∨ 4 < kr) ∨ (kr = 1 ∨ kr = 2) ∨ kr = 3 ∨ kr = 4 by omega) with hk | hk | hk | hk
    · have J : Hid (Joint s kr st3 0 0 []) := by
        rw [if_pos hk] at E3
        have := E3.out
        cases st2 with
        | error e => rw [this]; exact hJ0.out e this
        | ok p => rw [this]; exact hJ0.out 110 this
      have k1 : ((kr : Int) == 1) = false := beq_eq_false_iff_ne.2 (by omega)
      have k2 : ((kr : Int) == 2) = false := beq_eq_false_iff_ne.2 (by omega)
      have k3 : ((kr : Int) == 3) = false := beq_eq_false_iff_ne.2 (by omega)
      have k4 : ((kr : Int) == 4) = false := beq_eq_false_iff_ne.2 (by omega)
      go_wp2_with fail
      go_meet
      case rel => exact ⟨_, _, _, _, _, _, J.out, U5.out, World.ownsRow_nil _ _ _ _, hs5⟩
    · have J := hid (hJ2.out hk)
      have k12 : ((kr : Int) == 1) = true ∨ (((kr : Int) == 1) = false ∧ ((kr : Int) == 2) = true) := by
        rcases hk with rfl | rfl
        · exact .inl rfl
        · exact .inr ⟨rfl, rfl⟩
      have hn1 := hid (hnum.out st3)
      obtain ⟨⟨r1, st4⟩, hr1⟩ : ∃ r, r = rdNum s 4611686018427387904 10 st3 := ⟨_, rfl⟩
      rw [← hr1] at J hn1
      simp only at J hn1
      clear hr1 hk
      rcases k12 with k1 | ⟨k1, k2⟩
      all_goals
        go_wp2_with fail
        refine (hn1.out _ U5.out.rd).mono ?_
        clear hc0
        rintro e w6 ⟨rfl, h6, b6⟩
        have U6 := hid (U5.out.only h6 b6 hx1 hx3)
        have hs6 : xb + 1 ≤ w6.heap.size := Nat.le_trans hs5 b6.size
        have hc2 : w6.cell? ⟨xb, 2, none⟩ = some (.int .i64 0) := U6.out.x 2 _ rfl
        have hf2 := U6.out.xfz 2
        clear h6 b6
        go_wp2_with fail
        have U8 := U6.out.set (i := 2) (by simp) (.int .i64 r1) hx1 hx2
        go_meet
        case rel => exact ⟨_, _, _, _, _, _, J.out, U8, World.ownsRow_nil _ _ _ _, by simpa using hs6⟩
    · have k1 : ((kr : Int) == 1) = false := beq_eq_false_iff_ne.2 (by omega)
      have k2 : ((kr : Int) == 2) = false := beq_eq_false_iff_ne.2 (by omega)
      have k3 : ((kr : Int) == 3) = true := beq_iff_eq.2 (by omega)
      have J := hid (hJ3.out hk)
      have hn1 := hid (hnum.out st3)
      have hn2 := hid (hnum.out (rdNum s 4611686018427387904 10 st3).2)
      obtain ⟨⟨r1, st3'⟩, hr1⟩ : ∃ r, r = rdNum s 4611686018427387904 10 st3 := ⟨_, rfl⟩
      rw [← hr1] at J hn1 hn2
      simp only at J hn1 hn2
      obtain ⟨⟨r2, st4⟩, hr2⟩ : ∃ r, r = rdNum s 4611686018427387904 10 st3' := ⟨_, rfl⟩
      rw [← hr2] at J hn2
      simp only at J hn2
      clear hr1 hr2 hk
      go_wp2_with fail
      refine (hn1.out _ U5.out.rd).mono ?_
      clear hc0
      rintro e w6 ⟨rfl, h6, b6⟩
      have U6 := hid (U5.out.only h6 b6 hx1 hx3)
      have hs6 : xb + 1 ≤ w6.heap.size := Nat.le_trans hs5 b6.size
      have hc2 : w6.cell? ⟨xb, 2, none⟩ = some (.int .i64 0) := U6.out.x 2 _ rfl
      have hf2 := U6.out.xfz 2
      clear h6 b6 U5
      go_wp2_with fail
      have U7 := hid (U6.out.set (i := 2) (by simp) (.int .i64 r1) hx1 hx2)
      clear hc2 hf2 U6
      refine (hn2.out _ U7.out.rd).mono ?_
      rintro e w7 ⟨rfl, h7, b7⟩
      have U7b := hid (U7.out.only h7 b7 hx1 hx3)
      have hs7 : xb + 1 ≤ w7.heap.size := Nat.le_trans hs6 (by have := b7.size; simpa using this)
      have hc3 : w7.cell? ⟨xb, 3, none⟩ = some (.int .i64 0) := U7b.out.x 3 _ rfl
      have hf3 := U7b.out.xfz 3
      clear h7 b7 U7
      go_wp2_with fail
      have U8 := U7b.out.set (i := 3) (by simp) (.int .i64 r2) hx1 hx2
      go_meet
      case rel => exact ⟨_, _, _, _, _, _, J.out, U8, World.ownsRow_nil _ _ _ _, by simpa using hs7⟩
    · have k1 : ((kr : Int) == 1) = false := beq_eq_false_iff_ne.2 (by omega)
      have k2 : ((kr : Int) == 2) = false := beq_eq_false_iff_ne.2 (by omega)
      have k3 : ((kr : Int) == 3) = false := beq_eq_false_iff_ne.2 (by omega)
      have k4 : ((kr : Int) == 4) = true := beq_iff_eq.2 (by omega)
      have Jf := hid (hJ4.out hk)
      have hn1 := hid (hpl.out st3)
      clear hk
      go_wp2_with fail
      refine (hn1.out _ U5.out.rd).mono ?_
      clear hc0
      rintro e w6 ⟨ao, cap, xs, rfl, o6, h6, b6, hxs⟩
      have J := hid (Jf.out xs hxs)
      have U6 := hid (U5.out.only h6 b6 hx1 hx3)
      have hs6 : xb + 1 ≤ w6.heap.size := Nat.le_trans hs5 b6.size
      have O6 := hid (own_lower o6 hs5)
      have hc5 : w6.cell? ⟨xb, 5, none⟩ = some (.slice none 0 0) := U6.out.x 5 _ rfl
      have hf5 := U6.out.xfz 5
      clear h6 b6 o6 hxs U5
      go_wp2_with fail
      have U8 := U6.out.set (i := 5) (by simp) (.slice ao xs.length cap) hx1 hx2
      go_meet
      case rel => exact ⟨_, _, _, _, _, _, J.out, U8, RowKit.ownsRow_setCell_below (a := ⟨xb, 5, none⟩) O6.out (Nat.lt_succ_self _) _, by simpa using hs6⟩
  case rest =>
  have M := hid hcut
  clear U5 hs5 hc0 hcut E3 hJ0 hJ2 hJ3 hJ4
  go_wp2_with fail
  obtain ⟨st4, fa, fb, xs, ao, cap, hj, hu, ho, hs8⟩ := M.out
  have J := hid hj
  have U8 := hid hu
  have O8 := hid ho
  have hn3 := hid (hnum.out st4)
  have hN : Hid (upN s = rdNum s 4611686018427387904 10 st4) := by unfold Hid upN; rw [hj.st]
  have hxl : Hid (∀ k, (Value.slice ao xs.length cap).ownBlock = some k → xb + 1 ≤ k) := fun k hk => (ho.lt k hk).1
  clear M hj hu ho
  obtain ⟨⟨nn, st5⟩, hr5⟩ : ∃ r, r = rdNum s 4611686018427387904 10 st4 := ⟨_, rfl⟩
  rw [← hr5] at hn3 hN
  simp only at hn3
  have hst4 : Hid (∀ q, st5 = .ok q → ∃ p, st4 = .ok p) := fun q hq => by
    cases st4 with
    | ok p => exact ⟨p, rfl⟩
    | error e => simp [rdNum] at hr5; rw [hr5.2] at hq; cases hq
  clear hr5
  refine (hn3.out _ U8.out.rd).mono ?_
  rintro e w9 ⟨rfl, h9, b9⟩
  have U9 := hid (U8.out.only h9 b9 hx1 hx3)
  have hs9 : xb + 1 ≤ w9.heap.size := Nat.le_trans hs8 b9.size
  have O9 := hid (own_only O8.out b9 (by omega))
  have hc4 : w9.cell? ⟨xb, 4, none⟩ = some (.int .i64 0) := U9.out.x 4 _ rfl
  have hf4 := U9.out.xfz 4
  clear h9 b9 U8 O8
  have U10 := hid (U9.out.set (i := 4) (by simp) (.int .i64 nn) hx1 hx2)
  have O10 : Hid ((w9.setCell ⟨xb, 4, none⟩ (.int .i64 nn)).ownsRow (xb + 1) 3 1 (.slice ao xs.length cap) xs.length (ints xs)) := RowKit.ownsRow_setCell_below (a := ⟨xb, 4, none⟩) O9.out (Nat.lt_succ_self _) _
  obtain ⟨W10, hW10⟩ : ∃ V, V = w9.setCell ⟨xb, 4, none⟩ (.int .i64 nn) := ⟨_, rfl⟩
  have HW10 := hid hW10.symm
  rw [← hW10] at U10 O10
  have hs10 : xb + 1 ≤ W10.heap.size := by rw [hW10]; simpa using hs9
  have hpc : ∀ v, W10.cell? ⟨w.heap.size + 1, 2, none⟩ = some v → w9.cell? ⟨w.heap.size + 1, 2, none⟩ = some v := fun v h => by
    rw [hW10, World.cell?_setCell_other _ _ _ _ (by intro e2; have e3 := congrArg Addr.block e2; simp only at e3; omega)] at h; exact h
  clear hW10 U9 O9 hs9
  cases st5 with
  | error er =>
    obtain ⟨c0, f1, f2, he, c2, q, c1, hq⟩ := U10.out.rd
    have he' : (er != 0) = true := bne_iff_ne.2 he
    have c2' := hpc _ c2
    have HUP : Hid (unProof s = (noPF, er)) := by
      have e1 : upSt s = .error er := by unfold upSt; rw [hN.out]
      have e2 : rdEnd s (upSt s) = er := by rw [e1]; rfl
      unfold Hid unProof
      rw [e2, if_neg he]
    clear c0 f1 f2 c1 hpc
    go_wp2_with fail
    rw [HW10.out]
    have hnew := fun v : Value => World.new_ne W10.drew ⟨w.heap.size + 1, 2, none⟩ c2
    obtain ⟨v0, r0⟩ := U10.out.res.cell 0 (by omega)
    obtain ⟨v1, r1'⟩ := U10.out.res.cell 1 (by omega)
    obtain ⟨v2, r2'⟩ := U10.out.res.cell 2 (by omega)
    obtain ⟨v3, r3⟩ := U10.out.res.cell 3 (by omega)
    obtain ⟨v4, r4⟩ := U10.out.res.cell 4 (by omega)
    obtain ⟨v5, r5⟩ := U10.out.res.cell 5 (by omega)
    obtain ⟨v6, r6⟩ := U10.out.res.cell 6 (by omega)
    have hfr := U10.out.res.fz
    clear hnew c2' hc4 hf4
    go_region_held3 (fun w' => w'.cell? ⟨w.heap.size + 1, 2, none⟩ = some (.int .i64 er)) (go_keep) (fail)
    all_goals
      go_wp2_with fail
      have hst := store7_cells U10.out.res (.int .i64 0) (.int .i64 0) (.int .i64 0) (.int .i64 0) (.int .i64 0) (.slice none 0 0) (.slice none 0 0)
      have hsg := store7_grown W10 w.heap.size (.int .i64 0) (.int .i64 0) (.int .i64 0) (.int .i64 0) (.int .i64 0) (.slice none 0 0) (.slice none 0 0)
      obtain ⟨d0, d1, d2, d3, d4, d5, d6⟩ := hst
      show bodyPost Try.prog _ _ _ _ (store7 W10 w.heap.size (.int .i64 0) (.int .i64 0) (.int .i64 0) (.int .i64 0) (.int .i64 0) (.slice none 0 0) (.slice none 0 0)).drew
      refine bodyPost_ret (v := .tuple #[.agg #[.int .i64 0, .int .i64 0, .int .i64 0, .int .i64 0, .int .i64 0, .slice none 0 0, .slice none 0 0], .int .i64 er]) (by simp [results, Try.results36, go_sem, d0, d1, d2, d3, d4, d5, d6]) rfl ?_
      rw [HUP.out]
      exact unPr_no w _ er (U10.out.below.trans (below_of_grown (B := w.heap.size) hsg U10.out.below.size (fun k hk => by cases hk; omega))).drew
  | ok p =>
    obtain ⟨p4, hp4⟩ := hst4.out p rfl
    obtain ⟨e1, e2, e3, e4, q0, hq0⟩ := J.out.ok p4 hp4
    have hwv2 := HWV.out q0 hq0
    have hcn : countN kr fa fb nn xs = ((upC s).1, (upC s).2) := by unfold upC; rw [hN.out, e1, e2, e3, e4]
    have hxlen : xs.length ≤ 1024 := by rw [e3]; exact upF_len s
    have hst6 : upSt5 s = if (upC s).2 ≠ 0 then stNo (upC s).2 (.ok p) else .ok p := by unfold upSt5; rw [hN.out]
    have hc0n : 0 ≤ (upC s).1 := by unfold upC; exact countN_nonneg _ _ _ _ _
    have hcb : (upC s).1 ≤ 65536 := by unfold upC; exact countN_bound _ _ _ _ _
    have hupst : upSt s = (upH s).2 := by unfold upSt; rw [hN.out]
    have hpf : upPF s = ⟨kr, (upW s).1, fa, fb, nn, xs, (upH s).1⟩ := by unfold upPF; rw [hN.out, e1, e2, e3, e4]
    have hupH : upH s = rdHashes s (upW s).1 (upC s).1.toNat (upSt5 s) [] := rfl
    have hwle : (upW s).1 ≤ 32 := rdWidth_le _ _
    have HDEF : Hid (unProof s = if rdEnd s (upH s).2 = 0 then (upPF s, 0) else (noPF, rdEnd s (upH s).2)) := by unfold Hid unProof; rw [hupst]
    rw [hpf] at HDEF
    obtain ⟨⟨cI, ce⟩, hcc⟩ : ∃ r, r = upC s := ⟨_, rfl⟩
    rw [← hcc] at hcn hst6 hc0n hcb hupH
    simp only at hcn hst6 hc0n hcb hupH
    obtain ⟨cn, rfl⟩ := Int.eq_ofNat_of_zero_le hc0n
    rw [Int.toNat_natCast] at hupH
    obtain ⟨wd, hwd'⟩ : ∃ v, v = (upW s).1 := ⟨_, rfl⟩
    rw [← hwd'] at hwv2 hupH hwle HDEF
    subst hwv2
    have hhs := hid (fun W (hW : Rd (w.heap.size + 1) s (upSt5 s) W) => place_hashes (w.heap.size + 1) s (upSt5 s) cn wd wd (fun _ _ => rfl) (by omega) (by omega) hs W hW)
    rw [← hupH] at hhs
    obtain ⟨⟨zs, st8⟩, hz8⟩ : ∃ r, r = upH s := ⟨_, rfl⟩
    rw [← hz8] at hhs HDEF
    simp only at HDEF
    have HST6 := hid hst6
    have HCN := hid hcn
    have hra := hid (fun W (hW : Rd (w.heap.size + 1) s (.ok p) W) => place_refuse_any (w.heap.size + 1) s (.ok p) ce W hW)
    rw [← HST6.out] at hra
    obtain ⟨c0, f1, f2, c1, c2, hq⟩ := U10.out.rd
    have c2' := hpc _ c2
    clear hp4 e1 e2 e3 e4 hq0 hcn hst6 hupst hpf hupH hcc hwd' hz8 c0 f1 f2 c1 hpc J hc0n
    have c2'' : (w9.setCell ⟨xb, 4, none⟩ (.int .i64 nn)).cell? ⟨w.heap.size + 1, 2, none⟩ = some (.int .i64 0) := by rw [HW10.out]; exact c2
    have x0 : (w9.setCell ⟨xb, 4, none⟩ (.int .i64 nn)).cell? ⟨xb, 0, none⟩ = some (.int .i64 kr) := by rw [HW10.out]; exact U10.out.x 0 _ rfl
    have x2 : (w9.setCell ⟨xb, 4, none⟩ (.int .i64 nn)).cell? ⟨xb, 2, none⟩ = some (.int .i64 fa) := by rw [HW10.out]; exact U10.out.x 2 _ rfl
    have x3 : (w9.setCell ⟨xb, 4, none⟩ (.int .i64 nn)).cell? ⟨xb, 3, none⟩ = some (.int .i64 fb) := by rw [HW10.out]; exact U10.out.x 3 _ rfl
    have x4 : (w9.setCell ⟨xb, 4, none⟩ (.int .i64 nn)).cell? ⟨xb, 4, none⟩ = some (.int .i64 nn) := by rw [HW10.out]; exact U10.out.x 4 _ rfl
    have x5 : (w9.setCell ⟨xb, 4, none⟩ (.int .i64 nn)).cell? ⟨xb, 5, none⟩ = some (.slice ao xs.length cap) := by rw [HW10.out]; exact U10.out.x 5 _ rfl
    have hra0 : RowAt W10 ao (ints xs) := by
      obtain ⟨ao', cap', he, _, hr⟩ := own_row O10.out
      cases he; exact hr
    go_wp2_with fail
    rw [HW10.out]
    refine (refcount_at kr fa fb nn ao xs cap cn ce HCN.out W10 hra0 (by omega)).mono ?_
    clear HCN c2'' x0 x2 x3 x4 x5 c2' c2 hc4 hf4 hra0
    rintro e w11 ⟨rfl, b11⟩
    have U11 := hid (U10.out.under b11)
    have O11 := hid (O10.out.kept (grownBy_of_below b11 none) (by
      cases hb : (Value.slice ao xs.length cap).ownBlock with
      | none => exact .inl rfl
      | some k => exact .inr (by simp)))
    have hs11 : xb + 1 ≤ w11.heap.size := Nat.le_trans hs10 b11.size
    clear b11 U10 O10 HW10 hs10
    go_wp2_with fail
    refine (hra.out _ U11.out.rd).mono ?_
    rintro e w12 ⟨rfl, h12, b12⟩
    have U12 := hid (U11.out.only h12 b12 hx1 hx3)
    have O12 := hid (own_only O11.out b12 (by omega))
    have hs12 : xb + 1 ≤ w12.heap.size := Nat.le_trans hs11 b12.size
    have x1 : w12.cell? ⟨xb, 1, none⟩ = some (.int .i64 wd) := U12.out.x 1 _ rfl
    clear h12 b12 U11 O11 hs11
    go_wp2_with fail
    refine (hhs.out _ U12.out.rd).mono ?_
    clear x1
    rintro e w13 ⟨v, rfl, o13, h13, b13⟩
    rw [strs'_length] at o13
    obtain ⟨ho, hcap, rfl⟩ := own_val o13
    have U13 := hid (U12.out.only h13 b13 hx1 hx3)
    have O13 := hid (own_only O12.out b13 (by omega))
    have Z13 := hid (own_lower o13 hs12)
    have hzl : Hid (∀ k, (Value.slice ho zs.length hcap).ownBlock = some k → xb + 1 ≤ k) := fun k hk => (Z13.out.lt k hk).1
    have x6 : w13.cell? ⟨xb, 6, none⟩ = some (.slice none 0 0) := U13.out.x 6 _ rfl
    have xf6 := U13.out.xfz 6
    clear o13 h13 b13 U12 O12 hs12
    go_wp2_with fail
    have U14 := hid (U13.out.set (i := 6) (by simp) (.slice ho zs.length hcap) hx1 hx2)
    have O14 : Hid ((w13.setCell ⟨xb, 6, none⟩ (.slice ho zs.length hcap)).ownsRow (xb + 1) 3 1 (.slice ao xs.length cap) xs.length (ints xs)) := RowKit.ownsRow_setCell_below (a := ⟨xb, 6, none⟩) O13.out (Nat.lt_succ_self _) _
    have Z14 : Hid ((w13.setCell ⟨xb, 6, none⟩ (.slice ho zs.length hcap)).ownsRow (xb + 1) 9 1 (.slice ho zs.length hcap) zs.length (strs' zs)) := RowKit.ownsRow_setCell_below (a := ⟨xb, 6, none⟩) Z13.out (Nat.lt_succ_self _) _
    clear x6 xf6 U13 O13 Z13
    refine (hend.out st8 _ U14.out.rd).mono ?_
    rintro e w15 ⟨rfl, b15⟩
    have hB := b15.block xb (by omega) U14.out.xlt
    have d0 : w15.cell? ⟨xb, 0, none⟩ = some (.int .i64 kr) := (World.cell?_of_block (a := ⟨xb, 0, none⟩) hB).trans (U14.out.x 0 _ rfl)
    have d1 : w15.cell? ⟨xb, 1, none⟩ = some (.int .i64 wd) := (World.cell?_of_block (a := ⟨xb, 1, none⟩) hB).trans (U14.out.x 1 _ rfl)
    have d2 : w15.cell? ⟨xb, 2, none⟩ = some (.int .i64 fa) := (World.cell?_of_block (a := ⟨xb, 2, none⟩) hB).trans (U14.out.x 2 _ rfl)
    have d3 : w15.cell? ⟨xb, 3, none⟩ = some (.int .i64 fb) := (World.cell?_of_block (a := ⟨xb, 3, none⟩) hB).trans (U14.out.x 3 _ rfl)
    have d4 : w15.cell? ⟨xb, 4, none⟩ = some (.int .i64 nn) := (World.cell?_of_block (a := ⟨xb, 4, none⟩) hB).trans (U14.out.x 4 _ rfl)
    have d5 : w15.cell? ⟨xb, 5, none⟩ = some (.slice ao xs.length cap) := (World.cell?_of_block (a := ⟨xb, 5, none⟩) hB).trans (U14.out.x 5 _ rfl)
    have d6 : w15.cell? ⟨xb, 6, none⟩ = some (.slice ho zs.length hcap) := (World.cell?_of_block (a := ⟨xb, 6, none⟩) hB).trans (U14.out.x 6 _ rfl)
    have HR15 := hid (U14.out.res.grown (grownBy_only b15) (by intro e; have e2 := Option.some.inj e; omega))
    have B15 := hid (U14.out.below.trans (b15.below (B := w.heap.size) (by omega) U14.out.below.size))
    have O15 := hid (own_only O14.out b15 (by omega))
    have Z15 := hid (own_only Z14.out b15 (by omega))
    clear hB b15 U14 O14 Z14
    obtain ⟨v0, c0⟩ := HR15.out.cell 0 (by omega)
    obtain ⟨v1, c1⟩ := HR15.out.cell 1 (by omega)
    obtain ⟨v2, c2⟩ := HR15.out.cell 2 (by omega)
    obtain ⟨v3, c3⟩ := HR15.out.cell 3 (by omega)
    obtain ⟨v4, c4⟩ := HR15.out.cell 4 (by omega)
    obtain ⟨v5, c5⟩ := HR15.out.cell 5 (by omega)
    obtain ⟨v6, c6⟩ := HR15.out.cell 6 (by omega)
    have hfr := HR15.out.fz
    by_cases h0 : rdEnd s st8 = 0
    · have HU : Hid (unProof s = (⟨kr, wd, fa, fb, nn, xs, zs⟩, 0)) := by unfold Hid; rw [HDEF.out, if_pos h0]
      have h0' : (rdEnd s st8 != 0) = false := by rw [h0]; rfl
      go_wp2_with fail
      have hst := store7_cells HR15.out (.int .i64 kr) (.int .i64 wd) (.int .i64 fa) (.int .i64 fb) (.int .i64 nn) (.slice ao xs.length cap) (.slice ho zs.length hcap)
      have hsg := store7_grown w15 w.heap.size (.int .i64 kr) (.int .i64 wd) (.int .i64 fa) (.int .i64 fb) (.int .i64 nn) (.slice ao xs.length cap) (.slice ho zs.length hcap)
      clear d0 d1 d2 d3 d4 d5 d6
      obtain ⟨d0, d1, d2, d3, d4, d5, d6⟩ := hst
      show bodyPost Try.prog _ _ _ _ (store7 w15 w.heap.size (.int .i64 kr) (.int .i64 wd) (.int .i64 fa) (.int .i64 fb) (.int .i64 nn) (.slice ao xs.length cap) (.slice ho zs.length hcap))
      refine bodyPost_ret (v := .tuple #[.agg #[.int .i64 kr, .int .i64 wd, .int .i64 fa, .int .i64 fb, .int .i64 nn, .slice ao xs.length cap, .slice ho zs.length hcap], .int .i64 0]) (by simp [results, Try.results36, go_sem, d0, d1, d2, d3, d4, d5, d6]) rfl ?_
      rw [HU.out]
      have keep4 : ∀ {lo size n : Nat} {e : TypeId} {v : Value} {ys : List Value}, w15.ownsRow lo e size v n ys → (∀ k, v.ownBlock = some k → xb + 1 ≤ k) → (store7 w15 w.heap.size (.int .i64 kr) (.int .i64 wd) (.int .i64 fa) (.int .i64 fb) (.int .i64 nn) (.slice ao xs.length cap) (.slice ho zs.length hcap)).ownsRow lo e size v n ys := fun {lo size n e v ys} h hv =>
        h.kept hsg (by
          cases hb : v.ownBlock with
          | none => exact .inl rfl
          | some k => exact .inr (fun e => by have e2 := Option.some.inj e; have := hv k hb; omega))
      exact ⟨ao, cap, ho, hcap, rfl, own_lower (keep4 O15.out hxl.out) (by omega), own_lower (keep4 Z15.out hzl.out) (by omega), B15.out.trans (below_of_grown (B := w.heap.size) hsg B15.out.size (fun k hk => by cases hk; omega))⟩
    · have HU : Hid (unProof s = (noPF, rdEnd s st8)) := by unfold Hid; rw [HDEF.out, if_neg h0]
      have h0' : (rdEnd s st8 != 0) = true := bne_iff_ne.2 h0
      go_wp2_with fail
      have hst := store7_cells HR15.out (.int .i64 0) (.int .i64 0) (.int .i64 0) (.int .i64 0) (.int .i64 0) (.slice none 0 0) (.slice none 0 0)
      have hsg := store7_grown w15 w.heap.size (.int .i64 0) (.int .i64 0) (.int .i64 0) (.int .i64 0) (.int .i64 0) (.slice none 0 0) (.slice none 0 0)
      clear d0 d1 d2 d3 d4 d5 d6
      obtain ⟨d0, d1, d2, d3, d4, d5, d6⟩ := hst
      show bodyPost Try.prog _ _ _ _ (store7 w15 w.heap.size (.int .i64 0) (.int .i64 0) (.int .i64 0) (.int .i64 0) (.int .i64 0) (.slice none 0 0) (.slice none 0 0))
      refine bodyPost_ret (v := .tuple #[.agg #[.int .i64 0, .int .i64 0, .int .i64 0, .int .i64 0, .int .i64 0, .slice none 0 0, .slice none 0 0], .int .i64 (rdEnd s st8)]) (by simp [results, Try.results36, go_sem, d0, d1, d2, d3, d4, d5, d6]) rfl ?_
      rw [HU.out]
      exact unPr_no w _ _ (B15.out.trans (below_of_grown (B := w.heap.size) hsg B15.out.size (fun k hk => by cases hk; omega)))
end Go.Proofs.Ytmihgnjifmkaaaa
