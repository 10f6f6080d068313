/- Reading undoes writing, and writing undoes reading: proofs, ranges, rows, leaves. The plain part. -/
import Derived.Test.YtocjjiacmedjmaaUndo
import Derived.Test.YtocjjiacmedjmaaUnFrontier
set_option maxRecDepth 100000
namespace Go.Proofs.Ytocjjiacmedjmaa
open Go Go.RowKit

/-- A refusal is not 0. -/
def Nz (st : St) : Prop := ∀ k, st = .error k → k ≠ 0
theorem nz_ok (p : Nat) : Nz (.ok p) := by intro k h; cases h
theorem nz_no (k : Int) (h : k ≠ 0) : Nz (.error k) := by intro e he; cases he; exact h
theorem nz_num {s : ByteArray} {max : Nat} {k : Int} {st : St} (h : Nz st) (hk : k ≠ 0) : Nz (rdNum s max k st).2 := by
  cases st with
  | error e => exact h
  | ok p =>
    unfold rdNum
    simp only
    split
    · exact nz_no _ (by assumption)
    · split
      · exact nz_no _ hk
      · exact nz_ok _
theorem nz_numI {s : ByteArray} {max k : Int} {st : St} (h : Nz st) (hk : k ≠ 0) : Nz (rdNumI s max k st).2 := by
  unfold rdNumI
  split
  · cases st with
    | error e => exact h
    | ok p =>
      simp only
      split
      · exact nz_no _ (by assumption)
      · exact nz_no _ hk
  · exact nz_num h hk
theorem nz_mark {s : ByteArray} {l : Nat} {st : St} (h : Nz st) : Nz (rdMark s l st) := by
  cases st with
  | error e => exact h
  | ok p =>
    unfold rdMark
    simp only
    split
    · split
      · exact nz_ok _
      · exact nz_no _ (by decide)
    · exact nz_no _ (by decide)
theorem nz_width {s : ByteArray} {st : St} (h : Nz st) : Nz (rdWidth s st).2 := by
  cases st with
  | error e => exact h
  | ok p =>
    unfold rdWidth
    simp only
    split
    · split
      · exact nz_no _ (by decide)
      · exact nz_ok _
    · exact nz_no _ (by decide)
theorem nz_bytes {s : ByteArray} {n : Nat} {st : St} (h : Nz st) : Nz (rdBytes s n st).2 := by
  cases st with
  | error e => exact h
  | ok p =>
    unfold rdBytes
    simp only
    split
    · exact nz_no _ (by decide)
    · exact nz_ok _
theorem nz_hashes {s : ByteArray} {k : Nat} : ∀ n st acc, Nz st → Nz (rdHashes s k n st acc).2 := by
  intro n
  induction n with
  | zero => intro st acc h; exact h
  | succ n ih =>
    intro st acc h
    cases st with
    | error e => rw [rdHashes_no]; exact h
    | ok p => rw [rdHashes_step' s k _ n p acc rfl]; exact ih _ _ (nz_bytes h)
theorem nz_leaves {s : ByteArray} : ∀ n st acc, Nz st → Nz (rdLeaves s n st acc).2 := by
  intro n
  induction n with
  | zero => intro st acc h; exact h
  | succ n ih =>
    intro st acc h
    cases st with
    | error e => rw [rdLeaves_no]; exact h
    | ok p => rw [rdLeaves_step s n p acc]; exact ih _ _ (nz_bytes (nz_num h (by decide)))
theorem nz_pl {s : ByteArray} : ∀ n l st acc, Nz st → Nz (rdPl s n l st acc).2 := by
  intro n
  induction n with
  | zero => intro l st acc h; exact h
  | succ n ih =>
    intro l st acc h
    cases st with
    | error e => rw [rdPl_no]; exact h
    | ok p => rw [rdPl_step s _ n p l acc rfl]; exact ih _ _ _ (nz_numI h (by decide))
theorem nz_stNo {k : Int} {st : St} (h : Nz st) (hk : k ≠ 0) : Nz (stNo k st) := by
  cases st with
  | error e => exact h
  | ok p => exact nz_no _ hk
theorem nz_fields {s : ByteArray} {k : Nat} {st : St} (h : Nz st) : Nz (rdFields s k st).2.2.2 := by
  unfold rdFields
  split
  · exact nz_num h (by decide)
  · split
    · exact nz_num (nz_num h (by decide)) (by decide)
    · exact nz_pl _ _ _ _ (nz_num h (by decide))
theorem nz_upN (s : ByteArray) : Nz (upN s).2 := by
  have h1 : Nz (upK s).2 := nz_num (nz_width (nz_mark (nz_ok 0))) (by decide)
  have h2 : Nz (upSt3 s) := by
    unfold upSt3
    split
    · exact nz_stNo h1 (by decide)
    · exact h1
  exact nz_num (nz_fields h2) (by decide)
theorem nz_up (s : ByteArray) : Nz (upSt s) := by
  have h3 := nz_upN s
  unfold upSt
  cases h : (upN s).2 with
  | error e => rw [h] at h3; exact h3
  | ok p =>
    simp only
    refine nz_hashes _ _ _ ?_
    unfold upSt5
    split
    · exact nz_stNo h3 (by assumption)
    · exact h3
theorem stNo_ok {k : Int} {st : St} {p : Nat} (h : stNo k st = .ok p) : False := by cases st <;> simp [stNo] at h

/-- The numbers that the kind names, written, are read. -/
theorem fields_write {s : ByteArray} {k a b n p : Nat} {xs : List Int} {r : List UInt8} (ht : Taken k a b n xs) (hn : namedN k a b xs.length = true) (h : Tl s p (flatN (numsN k a b n xs) ++ r)) :
    ∃ q, rdFields s k (.ok p) = (a, b, xs, .ok q) ∧ Tl s q (putVar n ++ r) := by
  have hsm := ht.small
  unfold namedN at hn
  unfold numsN at h hsm
  unfold rdFields
  by_cases e1 : k = 1 ∨ k = 2
  · have e1' : (k : Int) = 1 ∨ (k : Int) = 2 := by omega
    rw [if_pos e1'] at h hn hsm
    rw [if_pos e1]
    simp only [decide_eq_true_eq] at hn
    obtain rfl : b = 0 := by omega
    obtain rfl := List.length_eq_zero_iff.1 hn.2
    rw [show flatN [(a : Int), (n : Int)] = putVar a ++ putVar n by simp [flatN], List.append_assoc] at h
    have ha := hsm a (by simp)
    obtain ⟨q, e, h2⟩ := num_write (max := 4611686018427387904) (k := 10) h (by omega) (by decide)
    exact ⟨q, by rw [e], h2⟩
  · have e1' : ¬ ((k : Int) = 1 ∨ (k : Int) = 2) := by omega
    rw [if_neg e1'] at h hn hsm
    rw [if_neg e1]
    by_cases e2 : k = 3
    · have e2' : (k : Int) = 3 := by omega
      rw [if_pos e2'] at h hn hsm
      rw [if_pos e2]
      simp only [decide_eq_true_eq] at hn
      obtain rfl := List.length_eq_zero_iff.1 hn
      rw [show flatN [(a : Int), (b : Int), (n : Int)] = putVar a ++ (putVar b ++ putVar n) by simp [flatN], List.append_assoc, List.append_assoc] at h
      have ha := hsm a (by simp)
      have hb := hsm b (by simp)
      obtain ⟨q, e, h2⟩ := num_write (max := 4611686018427387904) (k := 10) h (by omega) (by decide)
      obtain ⟨q2, e3, h3⟩ := num_write (max := 4611686018427387904) (k := 10) h2 (by omega) (by decide)
      exact ⟨q2, by rw [e]; simp only; rw [e3], h3⟩
    · have e2' : ¬ (k : Int) = 3 := by omega
      rw [if_neg e2'] at h hn hsm
      rw [if_neg e2]
      simp only [decide_eq_true_eq] at hn
      have k4 : (k : Int) = 4 := by have := ht.k1; have := ht.k4; omega
      obtain rfl : a = 0 := by omega
      obtain rfl : b = 0 := by omega
      rw [show flatN (((xs.length : Int) :: gapL (-1) xs) ++ [(n : Int)]) = putVar xs.length ++ (flatN (gapL (-1) xs) ++ putVar n) by rw [flatN_append]; simp [flatN], List.append_assoc, List.append_assoc] at h
      obtain ⟨q, e, h2⟩ := num_write (max := 1024) (k := 83) h (ht.few k4) (by decide)
      obtain ⟨q2, e3, h3⟩ := pl_write xs q (-1) [] _ (by omega) (ht.rise k4) h2
      refine ⟨q2, ?_, h3⟩
      unfold rdPlaces
      rw [e]
      simp only
      rw [e3]
      simp
theorem fields_read {s : ByteArray} {k q : Nat} {st : St} (h : (rdFields s k st).2.2.2 = .ok q) :
    ∃ p, st = .ok p ∧ namedN k (rdFields s k st).1 (rdFields s k st).2.1 (rdFields s k st).2.2.1.length = true ∧
      ∀ (n : Nat) (r : List UInt8), Tl s q (putVar n ++ r) → Tl s p (flatN (numsN k (rdFields s k st).1 (rdFields s k st).2.1 n (rdFields s k st).2.2.1) ++ r) := by
  unfold rdFields at h ⊢
  unfold namedN numsN
  by_cases e1 : k = 1 ∨ k = 2
  · have e1' : (k : Int) = 1 ∨ (k : Int) = 2 := by omega
    simp only [if_pos e1, if_pos e1'] at h ⊢
    obtain ⟨p, r, e, h1, h2⟩ := num_read h
    refine ⟨p, e, by simp, ?_⟩
    intro n t ht
    rw [h1.uniq ht] at h2
    simpa [flatN] using h2
  · have e1' : ¬ ((k : Int) = 1 ∨ (k : Int) = 2) := by omega
    simp only [if_neg e1, if_neg e1'] at h ⊢
    by_cases e2 : k = 3
    · have e2' : (k : Int) = 3 := by omega
      simp only [if_pos e2, if_pos e2'] at h ⊢
      obtain ⟨p1, r1, e3, h1, h2⟩ := num_read h
      obtain ⟨p, r, e, h3, h4⟩ := num_read e3
      refine ⟨p, e, by simp, ?_⟩
      intro n t ht
      rw [h1.uniq ht] at h2
      rw [h3.uniq h2] at h4
      simpa [flatN] using h4
    · have e2' : ¬ (k : Int) = 3 := by omega
      simp only [if_neg e2, if_neg e2'] at h ⊢
      unfold rdPlaces at h ⊢
      have hb : ∀ q', (rdNum s 1024 83 st).2 = .ok q' → q' ≤ s.size := fun q' e => by
        obtain ⟨_, _, _, e2, _⟩ := num_read e
        exact e2.1
      obtain ⟨p1, xs, r1, e3, e4, e5, h1, h2⟩ := pl_read _ _ _ _ _ hb h
      obtain ⟨p, r, e, h3, h4⟩ := num_read e3
      refine ⟨p, e, by simp, ?_⟩
      intro n t ht
      rw [h1.uniq ht] at h2
      rw [h3.uniq h2, ← e5] at h4
      rw [e4, List.nil_append, show flatN (((xs.length : Int) :: gapL (-1) xs) ++ [(n : Int)]) = putVar xs.length ++ (flatN (gapL (-1) xs) ++ putVar n) by rw [flatN_append]; simp [flatN]]
      simpa using h4
/-- A proof that was written is read back. -/
theorem proof_write {s : ByteArray} {k wd a b n : Nat} {xs : List Int} {hs : List ByteArray} (x : Fit k wd a b n xs hs) (h : s.data.toList = proofBy k wd a b n xs hs) : unProof s = (⟨k, wd, a, b, n, xs, hs⟩, 0) := by
  have ht := taken_of k a b n xs (by rw [x.cnt])
  have h0 := Tl.start s
  rw [h] at h0
  unfold proofBy at h0
  rw [show ((wd : Int)).toNat = wd by omega, show ((k : Int)).toNat = k by omega] at h0
  simp only [List.append_assoc, List.cons_append, List.nil_append] at h0
  have hw1 := x.w1; have hw2 := x.w32; have hk1 := x.k1; have hk4 := x.k4
  obtain ⟨e1, h1⟩ := mark_write (l := 80) (by decide) h0
  obtain ⟨e2, h2⟩ := width_write (n := wd) (by omega) (by omega) h1
  have eW : upW s = (wd, .ok (0 + 1 + 1)) := by unfold upW; rw [e1, e2]
  obtain ⟨q1, e3, h3⟩ := num_write (max := 4) (k := 110) h2 (by omega) (by decide)
  have eK : upK s = (k, .ok q1) := by unfold upK; rw [eW]; exact e3
  have e3' : upSt3 s = .ok q1 := by unfold upSt3; rw [eK]; simp only; rw [if_neg (by omega)]
  obtain ⟨q2, e4, h4⟩ := fields_write ht x.named h3
  have eF : upF s = (a, b, xs, .ok q2) := by unfold upF; rw [e3', eK]; exact e4
  obtain ⟨q3, e5, h5⟩ := num_write (max := 4611686018427387904) (k := 10) h4 (by have := ht.n2; omega) (by decide)
  have eN : upN s = (n, .ok q3) := by unfold upN; rw [eF]; exact e5
  have eC : upC s = ((hs.length : Int), 0) := by unfold upC; rw [eK, eF, eN]; exact x.cnt
  have e5' : upSt5 s = .ok q3 := by unfold upSt5; rw [eC, eN]; simp
  rw [← List.append_nil (flatS hs)] at h5
  obtain ⟨q4, e6, h6⟩ := hashes_write (k := wd) hs q3 [] [] (fun z hz => by have := x.size z hz; omega) h5
  have eH : upH s = (hs, .ok q4) := by
    unfold upH
    rw [eC, eW, e5']
    simp only
    rw [show ((hs.length : Int)).toNat = hs.length by omega, e6]
    simp
  have eS : upSt s = .ok q4 := by unfold upSt; rw [eN, eH]
  unfold unProof upPF
  rw [eS, tl_end h6, eK, eW, eF, eN, eH]
  simp
/-- A proof that is read was written so. -/
theorem proof_read {s : ByteArray} (h : (unProof s).2 = 0) :
    Fit (unProof s).1.k (unProof s).1.wd (unProof s).1.a (unProof s).1.b (unProof s).1.n (unProof s).1.xs (unProof s).1.hs ∧
    s.data.toList = proofBy (unProof s).1.k (unProof s).1.wd (unProof s).1.a (unProof s).1.b (unProof s).1.n (unProof s).1.xs (unProof s).1.hs := by
  have h0 : rdEnd s (upSt s) = 0 := by
    unfold unProof at h
    by_cases h1 : rdEnd s (upSt s) = 0
    · exact h1
    · rw [if_neg h1] at h; exact h
  have eP : unProof s = (upPF s, 0) := by unfold unProof; rw [if_pos h0]
  rw [eP]
  simp only
  obtain ⟨q, e1, hq⟩ := end_zero h0 (nz_up s)
  unfold upSt at e1
  cases hN : (upN s).2 with
  | error e => rw [hN] at e1; simp at e1
  | ok q5 =>
    rw [hN] at e1
    simp only at e1
    have h5 : upSt5 s = .ok q5 ∧ (upC s).2 = 0 := by
      have e2 : ∀ e, upSt5 s ≠ .error e := fun e he => by
        unfold upH at e1
        rw [he, rdHashes_no] at e1
        simp at e1
      unfold upSt5 at e2 ⊢
      by_cases hc : (upC s).2 = 0
      · rw [if_neg (by simpa using hc), hN]; exact ⟨rfl, hc⟩
      · rw [if_pos hc, hN] at e2; exact absurd rfl (e2 _)
    obtain ⟨p4, r4, e4, t4, t4'⟩ := num_read hN
    have e1' := e1
    unfold upH at e1'
    obtain ⟨p5, hs, r5, e5, e6, e7, e8, t5, t5'⟩ := hashes_read _ _ _ _ (by rw [h5.1]; intro p hp; cases hp; exact t4.1) e1'
    have eH : (upH s).1 = hs := by unfold upH; rw [e6, List.nil_append]
    rw [h5.1] at e5
    cases e5
    obtain rfl : r5 = [] := by
      rw [← t5.2]
      exact List.drop_eq_nil_of_le (by rw [tl_len]; exact hq)
    rw [List.append_nil] at t5'
    have e4' : (rdFields s (upK s).1 (upSt3 s)).2.2.2 = .ok p4 := e4
    obtain ⟨p3, e9, hnm, t3⟩ := fields_read e4'
    have h3 : 1 ≤ (upK s).1 ∧ (upK s).2 = .ok p3 := by
      unfold upSt3 at e9
      by_cases hk : (upK s).1 < 1
      · rw [if_pos hk] at e9; exact (stNo_ok e9).elim
      · rw [if_neg hk] at e9; exact ⟨by omega, e9⟩
    obtain ⟨p2, r2, e10, t2, t2'⟩ := num_read h3.2
    have e10' : (rdWidth s (rdMark s 80 (.ok 0))).2 = .ok p2 := e10
    obtain ⟨hw, p1, r1, e11, t1, t1'⟩ := width_read e10'
    obtain ⟨p0, r0, e12, t0, t0'⟩ := mark_read e11
    cases e12
    have hk4 := rdNum_le s 4 110 (upW s).2
    have hcn : (upC s).1 = (hs.length : Int) := by
      have := countN_nonneg (upK s).1 (upF s).1 (upF s).2.1 (upN s).1 (upF s).2.2.1
      have e : (upC s).1 = (countN (upK s).1 (upF s).1 (upF s).2.1 (upN s).1 (upF s).2.2.1).1 := rfl
      omega
    have t3' := t3 (upN s).1 (flatS hs) (by rw [← t4.uniq t5']; exact t4')
    rw [t2.uniq t3', ] at t2'
    rw [t1.uniq t2'] at t1'
    rw [t0.uniq t1'] at t0'
    refine ⟨⟨?_, ?_, ?_, ?_, hnm, ?_, ?_⟩, ?_⟩
    · show (1 : Int) ≤ ((upK s).1 : Int); omega
    · show ((upK s).1 : Int) ≤ 4
      have : (upK s).1 ≤ 4 := hk4
      omega
    · show (1 : Int) ≤ ((upW s).1 : Int)
      have : 1 ≤ (upW s).1 := hw.1
      omega
    · show ((upW s).1 : Int) ≤ 32
      have : (upW s).1 ≤ 32 := hw.2
      omega
    · show upC s = (((upH s).1.length : Int), 0)
      rw [eH, ← hcn, ← h5.2]
    · show ∀ x ∈ (upH s).1, (x.size : Int) = ((upW s).1 : Int)
      rw [eH]
      intro x hx
      rw [e8 x hx]
    · show s.data.toList = proofBy (upK s).1 (upW s).1 (upF s).1 (upF s).2.1 (upN s).1 (upF s).2.2.1 (upH s).1
      rw [(Tl.start s).uniq t0', eH]
      unfold proofBy
      simp only [List.append_assoc, List.cons_append, List.nil_append, Int.toNat_natCast]
      rfl
/-- A range that may be. -/
structure FitF (n lo hi : Nat) (hs : List ByteArray) : Prop where
  w1 : 1 ≤ n
  w32 : n ≤ 32
  le : lo ≤ hi
  top : hi ≤ 4611686018427387904
  cnt : hs.length = (coverN lo hi).length
  size : ∀ x ∈ hs, x.size = n
def frontBy (n lo hi : Nat) (xs : List ByteArray) : List UInt8 := [70, UInt8.ofNat n] ++ putVar lo ++ putVar hi ++ flatS xs
theorem front_write {s : ByteArray} {n lo hi : Nat} {hs : List ByteArray} (x : FitF n lo hi hs) (h : s.data.toList = frontBy n lo hi hs) : unFrontier s = (⟨lo, hi, hs⟩, n, 0) := by
  have h0 := Tl.start s
  rw [h] at h0
  unfold frontBy at h0
  simp only [List.append_assoc, List.cons_append, List.nil_append] at h0
  obtain ⟨e1, h1⟩ := mark_write (l := 70) (by decide) h0
  obtain ⟨e2, h2⟩ := width_write (n := n) x.w1 x.w32 h1
  have hle := x.le
  have htop := x.top
  have eW : ufW s = (n, .ok (0 + 1 + 1)) := by unfold ufW; rw [e1, e2]
  obtain ⟨q1, e3, h3⟩ := num_write (max := 4611686018427387904) (k := 10) h2 (by omega) (by decide)
  have eL : ufLo s = (lo, .ok q1) := by unfold ufLo; rw [eW]; exact e3
  obtain ⟨q2, e4, h4⟩ := num_write (max := 4611686018427387904) (k := 10) h3 (by omega) (by decide)
  have eH : ufHi s = (hi, .ok q2) := by unfold ufHi; rw [eL]; exact e4
  have eS : ufSt s = .ok q2 := by unfold ufSt; rw [eL, eH]; simp only; rw [if_neg (by omega)]
  rw [← List.append_nil (flatS hs)] at h4
  obtain ⟨q3, e6, h6⟩ := hashes_write (k := n) hs q2 [] [] x.size h4
  have eHs : ufHs s = (hs, .ok q3) := by
    unfold ufHs
    rw [eW, eL, eH, eS]
    simp only
    rw [← x.cnt, e6]
    simp
  unfold unFrontier
  rw [eS]
  simp only
  rw [eHs, if_pos (tl_end h6), eW, eL, eH]
theorem front_read {s : ByteArray} (h : (unFrontier s).2.2 = 0) : FitF (unFrontier s).2.1 (unFrontier s).1.lo (unFrontier s).1.hi (unFrontier s).1.hs ∧
    s.data.toList = frontBy (unFrontier s).2.1 (unFrontier s).1.lo (unFrontier s).1.hi (unFrontier s).1.hs := by
  have nzW : Nz (ufW s).2 := nz_width (nz_mark (nz_ok 0))
  have nzL : Nz (ufLo s).2 := nz_num nzW (by decide)
  have nzH : Nz (ufHi s).2 := nz_num nzL (by decide)
  have nzS : Nz (ufSt s) := by
    unfold ufSt
    split
    · exact nz_stNo nzH (by decide)
    · exact nzH
  cases hS : ufSt s with
  | error k =>
    unfold unFrontier at h
    rw [hS] at h
    exact absurd h (nzS k hS)
  | ok q5 =>
    have eU : unFrontier s = if rdEnd s (ufHs s).2 = 0 then (⟨(ufLo s).1, (ufHi s).1, (ufHs s).1⟩, (ufW s).1, 0) else (noFr, 0, rdEnd s (ufHs s).2) := by unfold unFrontier; rw [hS]
    have h0 : rdEnd s (ufHs s).2 = 0 := by
      by_cases h1 : rdEnd s (ufHs s).2 = 0
      · exact h1
      · rw [eU, if_neg h1] at h; exact h
    rw [if_pos h0] at eU
    rw [eU]
    simp only
    obtain ⟨q, e1, hq⟩ := end_zero h0 (by unfold ufHs; exact nz_hashes _ _ _ nzS)
    have hst : (ufLo s).1 ≤ (ufHi s).1 ∧ (ufHi s).2 = .ok q5 := by
      unfold ufSt at hS
      by_cases hk : (ufHi s).1 < (ufLo s).1
      · rw [if_pos hk] at hS; exact (stNo_ok hS).elim
      · rw [if_neg hk] at hS; exact ⟨by omega, hS⟩
    obtain ⟨p4, r4, e4, t4, t4'⟩ := num_read hst.2
    obtain ⟨p3, r3, e3, t3, t3'⟩ := num_read e4
    have e3' : (rdWidth s (rdMark s 70 (.ok 0))).2 = .ok p3 := e3
    obtain ⟨hw, p1, r1, e11, t1, t1'⟩ := width_read e3'
    obtain ⟨p0, r0, e12, t0, t0'⟩ := mark_read e11
    cases e12
    have e1' := e1
    unfold ufHs at e1'
    obtain ⟨p5, hs, r5, e5, e6, e7, e8, t5, t5'⟩ := hashes_read _ _ _ _ (by rw [hS]; intro p hp; cases hp; exact t4.1) e1'
    have eH : (ufHs s).1 = hs := by unfold ufHs; rw [e6, List.nil_append]
    rw [hS] at e5
    cases e5
    obtain rfl : r5 = [] := by
      rw [← t5.2]
      exact List.drop_eq_nil_of_le (by rw [tl_len]; exact hq)
    rw [List.append_nil] at t5'
    rw [t4.uniq t5'] at t4'
    rw [t3.uniq t4'] at t3'
    rw [t1.uniq t3'] at t1'
    rw [t0.uniq t1'] at t0'
    refine ⟨⟨hw.1, hw.2, hst.1, rdNum_le s 4611686018427387904 10 (ufLo s).2, by rw [eH]; exact e7, by rw [eH]; exact e8⟩, ?_⟩
    rw [(Tl.start s).uniq t0', eH]
    unfold frontBy
    simp only [List.append_assoc, List.cons_append, List.nil_append]
    rfl
structure FitH (n : Nat) (hs : List ByteArray) : Prop where
  w1 : 1 ≤ n
  w32 : n ≤ 32
  few : hs.length ≤ 256
  size : ∀ x ∈ hs, x.size = n
def hashesBy (n : Nat) (xs : List ByteArray) : List UInt8 := [72, UInt8.ofNat n] ++ putVar xs.length ++ flatS xs
theorem row_write {s : ByteArray} {n : Nat} {hs : List ByteArray} (x : FitH n hs) (h : s.data.toList = hashesBy n hs) : unHashes s = (hs, n, 0) := by
  have h0 := Tl.start s
  rw [h] at h0
  unfold hashesBy at h0
  simp only [List.cons_append, List.nil_append] at h0
  obtain ⟨e1, h1⟩ := mark_write (l := 72) (by decide) h0
  obtain ⟨e2, h2⟩ := width_write (n := n) x.w1 x.w32 h1
  have eW : unHashesW s = (n, .ok (0 + 1 + 1)) := by unfold unHashesW; rw [e1, e2]
  obtain ⟨q1, e3, h3⟩ := num_write (max := 256) (k := 83) h2 x.few (by decide)
  have eN : unHashesN s = (hs.length, .ok q1) := by unfold unHashesN; rw [eW]; exact e3
  rw [← List.append_nil (flatS hs)] at h3
  obtain ⟨q3, e6, h6⟩ := hashes_write (k := n) hs q1 [] [] x.size h3
  have eH : unHashesSt s = (hs, .ok q3) := by
    unfold unHashesSt
    rw [eW, eN]
    simp only
    rw [e6]
    simp
  unfold unHashes
  rw [eH, if_pos (tl_end h6), eW]
theorem row_read {s : ByteArray} (h : (unHashes s).2.2 = 0) : FitH (unHashes s).2.1 (unHashes s).1 ∧ s.data.toList = hashesBy (unHashes s).2.1 (unHashes s).1 := by
  have nzW : Nz (unHashesW s).2 := nz_width (nz_mark (nz_ok 0))
  have nzN : Nz (unHashesN s).2 := nz_num nzW (by decide)
  have h0 : rdEnd s (unHashesSt s).2 = 0 := by
    by_cases h1 : rdEnd s (unHashesSt s).2 = 0
    · exact h1
    · unfold unHashes at h; rw [if_neg h1] at h; exact h
  have eU : unHashes s = ((unHashesSt s).1, (unHashesW s).1, 0) := by unfold unHashes; rw [if_pos h0]
  rw [eU]
  simp only
  obtain ⟨q, e1, hq⟩ := end_zero h0 (by unfold unHashesSt; exact nz_hashes _ _ _ nzN)
  obtain ⟨q5, hN⟩ := unHashesSt_ok s e1
  obtain ⟨p3, r3, e3, t3, t3'⟩ := num_read hN
  have e3' : (rdWidth s (rdMark s 72 (.ok 0))).2 = .ok p3 := e3
  obtain ⟨hw, p1, r1, e11, t1, t1'⟩ := width_read e3'
  obtain ⟨p0, r0, e12, t0, t0'⟩ := mark_read e11
  cases e12
  have e1' := e1
  unfold unHashesSt at e1'
  obtain ⟨p5, hs, r5, e5, e6, e7, e8, t5, t5'⟩ := hashes_read _ _ _ _ (by rw [hN]; intro p hp; cases hp; exact t3.1) e1'
  have eH : (unHashesSt s).1 = hs := by unfold unHashesSt; rw [e6, List.nil_append]
  rw [hN] at e5
  cases e5
  obtain rfl : r5 = [] := by
    rw [← t5.2]
    exact List.drop_eq_nil_of_le (by rw [tl_len]; exact hq)
  rw [List.append_nil] at t5'
  rw [t3.uniq t5'] at t3'
  rw [t1.uniq t3'] at t1'
  rw [t0.uniq t1'] at t0'
  have h256 := rdNum_le s 256 83 (unHashesW s).2
  refine ⟨⟨hw.1, hw.2, by rw [eH, e7]; exact h256, by rw [eH]; exact e8⟩, ?_⟩
  rw [(Tl.start s).uniq t0', eH]
  unfold hashesBy
  rw [e7]
  simp only [List.append_assoc, List.cons_append, List.nil_append]
  rfl
structure FitL (hs : List ByteArray) : Prop where
  few : hs.length ≤ 1024
  size : ∀ x ∈ hs, x.size ≤ 4096
theorem list_write {s : ByteArray} {hs : List ByteArray} (x : FitL hs) (h : s.data.toList = leavesB hs) : unLeaves s = (hs, 0) := by
  have h0 := Tl.start s
  rw [h] at h0
  unfold leavesB at h0
  obtain ⟨e1, h1⟩ := mark_write (l := 76) (by decide) h0
  obtain ⟨q1, e3, h3⟩ := num_write (max := 1024) (k := 83) h1 x.few (by decide)
  rw [← List.append_nil (hs.flatMap leafB)] at h3
  obtain ⟨q3, e6, h6⟩ := leaves_write hs q1 [] [] x.size h3
  have eH : unLeavesSt s = (hs, .ok q3) := by
    unfold unLeavesSt
    rw [e1, e3]
    simp only
    rw [e6]
    simp
  unfold unLeaves
  rw [eH, if_pos (tl_end h6)]
theorem list_read {s : ByteArray} (h : (unLeaves s).2 = 0) : FitL (unLeaves s).1 ∧ s.data.toList = leavesB (unLeaves s).1 := by
  have nzN : Nz (rdNum s 1024 83 (rdMark s 76 (.ok 0))).2 := nz_num (nz_mark (nz_ok 0)) (by decide)
  have h0 : rdEnd s (unLeavesSt s).2 = 0 := by
    by_cases h1 : rdEnd s (unLeavesSt s).2 = 0
    · exact h1
    · unfold unLeaves at h; rw [if_neg h1] at h; exact h
  have eU : unLeaves s = ((unLeavesSt s).1, 0) := by unfold unLeaves; rw [if_pos h0]
  rw [eU]
  simp only
  obtain ⟨q, e1, hq⟩ := end_zero h0 (by unfold unLeavesSt; exact nz_leaves _ _ _ nzN)
  have e1' := e1
  unfold unLeavesSt at e1'
  obtain ⟨p5, hs, r5, e5, e6, e7, e8, t5, t5'⟩ := leaves_read _ _ _ _ (fun q' e => by obtain ⟨_, _, _, e2, _⟩ := num_read e; exact e2.1) e1'
  have eH : (unLeavesSt s).1 = hs := by unfold unLeavesSt; rw [e6, List.nil_append]
  obtain ⟨p3, r3, e3, t3, t3'⟩ := num_read e5
  obtain ⟨p0, r0, e12, t0, t0'⟩ := mark_read e3
  cases e12
  obtain rfl : r5 = [] := by
    rw [← t5.2]
    exact List.drop_eq_nil_of_le (by rw [tl_len]; exact hq)
  rw [List.append_nil] at t5'
  rw [t3.uniq t5'] at t3'
  rw [t0.uniq t3'] at t0'
  have h1024 := rdNum_le s 1024 83 (rdMark s 76 (.ok 0))
  refine ⟨⟨by rw [eH, e7]; exact h1024, by rw [eH]; exact e8⟩, ?_⟩
  rw [(Tl.start s).uniq t0', eH]
  unfold leavesB
  rw [e7]
  rfl
end Go.Proofs.Ytocjjiacmedjmaa
