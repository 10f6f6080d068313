/- Reading undoes writing, and writing undoes reading: numbers, letters, rows, leaves. The plain part. -/
import Derived.Test.YtocjjiacmedjmaaPrefix
import Derived.Test.YtocjjiacmedjmaaUnProof
set_option maxRecDepth 100000
namespace Go.Proofs.Ytocjjiacmedjmaa
open Go Go.RowKit

/-- What stands at a place of the bytes, up to their end. -/
def Tl (s : ByteArray) (p : Nat) (r : List UInt8) : Prop := p ≤ s.size ∧ s.data.toList.drop p = r
theorem tl_len (s : ByteArray) : s.data.toList.length = s.size := by rw [Array.length_toList]; rfl
theorem Tl.start (s : ByteArray) : Tl s 0 s.data.toList := ⟨Nat.zero_le _, rfl⟩
theorem Tl.at (s : ByteArray) (p : Nat) (h : p ≤ s.size) : Tl s p (s.data.toList.drop p) := ⟨h, rfl⟩
theorem Tl.uniq {s : ByteArray} {p : Nat} {r t : List UInt8} (h : Tl s p r) (k : Tl s p t) : r = t := h.2.symm.trans k.2
theorem Tl.cons {s : ByteArray} {p : Nat} {c : UInt8} {r : List UInt8} (h : Tl s p (c :: r)) : ∃ hp : p < s.size, s[p]'hp = c ∧ Tl s (p + 1) r := by
  obtain ⟨h1, h2⟩ := h
  have h3 := congrArg List.length h2
  rw [List.length_drop, tl_len] at h3
  have hp : p < s.size := by simp only [List.length_cons] at h3; omega
  have h4 : p < s.data.toList.length := by rw [tl_len]; exact hp
  rw [List.drop_eq_getElem_cons h4] at h2
  simp only [List.cons.injEq] at h2
  refine ⟨hp, ?_, hp, h2.2⟩
  rw [← h2.1]
  simp only [Array.getElem_toList]
  rfl
theorem Tl.of_lt {s : ByteArray} {p : Nat} (hp : p < s.size) : ∃ r, Tl s (p + 1) r ∧ Tl s p (s[p]'hp :: r) := by
  have h4 : p < s.data.toList.length := by rw [tl_len]; exact hp
  refine ⟨_, Tl.at s (p + 1) hp, Nat.le_of_lt hp, ?_⟩
  rw [List.drop_eq_getElem_cons h4]
  congr 1
theorem Tl.skip {s : ByteArray} {p : Nat} {l r : List UInt8} (h : Tl s p (l ++ r)) : Tl s (p + l.length) r := by
  obtain ⟨h1, h2⟩ := h
  have h3 := congrArg List.length h2
  rw [List.length_drop, tl_len, List.length_append] at h3
  refine ⟨by omega, ?_⟩
  rw [← List.drop_drop, h2, List.drop_left]
theorem Tl.nil {s : ByteArray} {p : Nat} (h : Tl s p []) : p = s.size := by
  have h3 := congrArg List.length h.2
  rw [List.length_drop, tl_len] at h3
  have := h.1
  simp only [List.length_nil] at h3
  omega
theorem tl_end {s : ByteArray} {p : Nat} (h : Tl s p []) : rdEnd s (.ok p) = 0 := by
  have := h.nil
  unfold rdEnd
  simp only
  rw [if_neg (by omega)]
theorem end_zero {s : ByteArray} {st : St} (h : rdEnd s st = 0) (hk : ∀ k, st = .error k → k ≠ 0) : ∃ p, st = .ok p ∧ s.size ≤ p := by
  cases st with
  | error k => exact absurd h (hk k rfl)
  | ok p =>
    refine ⟨p, rfl, ?_⟩
    unfold rdEnd at h
    simp only at h
    by_cases hp : p < s.size
    · rw [if_pos hp] at h; exact absurd h (by decide)
    · omega
theorem byte_back (c : UInt8) : UInt8.ofNat c.toNat = c := UInt8.ofNat_toNat
theorem byte_lt (c : UInt8) : c.toNat < 256 := UInt8.toNat_lt c

/-- A number that was written is read. -/
theorem varAt_write (s : ByteArray) (p : Nat) (k : Nat) : ∀ v i acc r, v ≤ k → acc < 128 ^ i → acc + v * 128 ^ i < 18446744073709551616 → (0 < i → 0 < v) → Tl s (p + i) (putVar v ++ r) →
    ∃ q, varAt s p i acc = (acc + v * 128 ^ i, q, 0) ∧ Tl s q r := by
  induction k using Nat.strongRecOn with
  | _ k ih =>
    intro v i acc r hv ha hm hz h
    have hi : i ≤ 9 := by
      rcases Nat.lt_or_ge 9 i with h9 | h9
      · have h1 : 128 ^ 10 ≤ 128 ^ i := Nat.pow_le_pow_right (by decide) h9
        have h2 : 1 * 128 ^ i ≤ v * 128 ^ i := Nat.mul_le_mul_right _ (hz (by omega))
        omega
      · exact h9
    have hi' : i < 10 := by omega
    have h9 : i = 9 → v ≤ 1 := by
      rintro rfl
      omega
    by_cases hs : v ≤ 127
    · rw [putVar_small v hs] at h
      obtain ⟨hp, hc, ht⟩ := Tl.cons h
      have hc' : (s[p + i]'hp).toNat = v := by rw [hc, byte_ofNat v (by omega)]
      refine ⟨p + i + 1, ?_, ht⟩
      rw [varAt_end s p i acc hi' hp (by rw [hc']; intro e; have := h9 e.1; omega) (by rw [hc']; intro e; have := hz e.1; omega) (by omega), hc', Nat.mod_eq_of_lt (by omega)]
    · rw [putVar_more v hs] at h
      obtain ⟨hp, hc, ht⟩ := Tl.cons h
      have hc' : (s[p + i]'hp).toNat = v % 128 + 128 := by rw [hc, byte_ofNat _ (by omega)]
      have h8 : i ≠ 9 := by intro e; have := h9 e; omega
      have e : 128 ^ (i + 1) = 128 ^ i * 128 := Nat.pow_succ ..
      have e2 : (v / 128) * 128 ^ (i + 1) + v % 128 * 128 ^ i = v * 128 ^ i := by
        rw [e, ← Nat.mul_assoc, Nat.mul_right_comm, ← Nat.add_mul, Nat.mul_comm (v / 128) 128, Nat.div_add_mod]
      have hp2 := pow_step i hi (v % 128 + 128) acc (by omega) ha
      have e3 : (v % 128 + 128) % 128 = v % 128 := by omega
      rw [e3] at hp2
      obtain ⟨q, hq, hr⟩ := ih (v / 128) (by omega) (v / 128) (i + 1) (acc + v % 128 * 128 ^ i) r (Nat.le_refl _) (hp2.2.1 (by omega)) (by omega) (fun _ => by omega) ht
      refine ⟨q, ?_, hr⟩
      rw [varAt_on s p i acc hi' hp (by omega) (by omega) (by omega), hc', e3, hq]
      congr 1
      omega
/-- A number that is read was written so. -/
theorem varAt_read (s : ByteArray) (p : Nat) (k : Nat) : ∀ i acc, 10 - i ≤ k → i ≤ 9 → acc < 128 ^ i → (varAt s p i acc).2.2 = 0 →
    ∃ u r, (varAt s p i acc).1 = acc + u * 128 ^ i ∧ Tl s (varAt s p i acc).2.1 r ∧ Tl s (p + i) (putVar u ++ r) ∧ (0 < i → 0 < u) := by
  induction k with
  | zero => intro i acc h h2; omega
  | succ k ih =>
    intro i acc h hi ha h0
    have hi' : i < 10 := by omega
    by_cases h2 : p + i < s.size
    · by_cases h3 : i = 9 ∧ 1 < (s[p + i]'h2).toNat
      · rw [varAt_big s p i acc hi' h2 h3] at h0; simp at h0
      · by_cases h4 : 0 < i ∧ (s[p + i]'h2).toNat = 0
        · rw [varAt_zero s p i acc hi' h2 h3 h4] at h0; simp at h0
        · have hp := pow_step i hi (s[p + i]'h2).toNat acc (by omega) ha
          obtain ⟨r, hr1, hr2⟩ := Tl.of_lt h2
          by_cases h5 : (s[p + i]'h2).toNat < 128
          · rw [varAt_end s p i acc hi' h2 h3 h4 h5]
            refine ⟨(s[p + i]'h2).toNat % 128, r, rfl, hr1, ?_, fun e => by omega⟩
            rw [Nat.mod_eq_of_lt h5, putVar_small _ (by omega), byte_back]
            exact hr2
          · rw [varAt_on s p i acc hi' h2 h3 h4 h5] at h0 ⊢
            have h9 : i < 9 := by omega
            obtain ⟨u, t, e1, e2, e3, e4⟩ := ih (i + 1) _ (by omega) (by omega) (hp.2.1 h9) h0
            have hu := e4 (by omega)
            have hc := byte_lt (s[p + i]'h2)
            have e : 128 ^ (i + 1) = 128 ^ i * 128 := Nat.pow_succ ..
            refine ⟨u * 128 + (s[p + i]'h2).toNat % 128, t, ?_, e2, ?_, fun _ => by omega⟩
            · rw [e1, e, Nat.add_mul, Nat.mul_assoc u 128, Nat.mul_comm 128]
              omega
            · rw [putVar_more _ (by omega), show (u * 128 + (s[p + i]'h2).toNat % 128) % 128 + 128 = (s[p + i]'h2).toNat by omega, show (u * 128 + (s[p + i]'h2).toNat % 128) / 128 = u by omega, byte_back]
              have := hr1.uniq e3
              rw [this] at hr2
              exact hr2
    · rw [varAt_short s p i acc hi' h2] at h0; simp at h0
theorem num_write {s : ByteArray} {p v max : Nat} {k : Int} {r : List UInt8} (h : Tl s p (putVar v ++ r)) (hv : v ≤ max) (hm : max < 18446744073709551616) : ∃ q, rdNum s max k (.ok p) = (v, .ok q) ∧ Tl s q r := by
  obtain ⟨q, hq, hr⟩ := varAt_write s p v v 0 0 r (Nat.le_refl _) (by decide) (by omega) (fun e => absurd e (by omega)) h
  refine ⟨q, ?_, hr⟩
  unfold rdNum
  simp only [hq]
  rw [if_neg (by simp), if_neg (by omega)]
  simp
theorem num_read {s : ByteArray} {max q : Nat} {k : Int} {st : St} (h : (rdNum s max k st).2 = .ok q) : ∃ p r, st = .ok p ∧ Tl s q r ∧ Tl s p (putVar (rdNum s max k st).1 ++ r) := by
  cases st with
  | error e => simp [rdNum] at h
  | ok p =>
    by_cases h1 : (varAt s p 0 0).2.2 = 0
    · by_cases h2 : max < (varAt s p 0 0).1
      · unfold rdNum at h; simp [h1, h2] at h
      · have e : rdNum s max k (.ok p) = ((varAt s p 0 0).1, .ok (varAt s p 0 0).2.1) := by
          unfold rdNum; simp only; rw [if_neg (by simpa using h1), if_neg h2]
        rw [e] at h ⊢
        simp only at h
        obtain ⟨u, r, e1, e2, e3, _⟩ := varAt_read s p 10 0 0 (by omega) (by omega) (by decide) h1
        refine ⟨p, r, rfl, ?_, ?_⟩
        · cases h; exact e2
        · simp only at e1 ⊢
          rw [show (varAt s p 0 0).1 = u by omega]
          exact e3
    · unfold rdNum at h; simp [h1] at h
theorem numI_write {s : ByteArray} {p v : Nat} {max k : Int} {r : List UInt8} (h : Tl s p (putVar v ++ r)) (hv : (v : Int) ≤ max) (hm : max < 18446744073709551616) : ∃ q, rdNumI s max k (.ok p) = (v, .ok q) ∧ Tl s q r := by
  unfold rdNumI
  rw [if_neg (by omega)]
  exact num_write h (by omega) (by omega)
theorem numI_read {s : ByteArray} {max : Int} {q : Nat} {k : Int} {st : St} (h : (rdNumI s max k st).2 = .ok q) : ((rdNumI s max k st).1 : Int) ≤ max ∧ ∃ p r, st = .ok p ∧ Tl s q r ∧ Tl s p (putVar (rdNumI s max k st).1 ++ r) := by
  unfold rdNumI at h ⊢
  by_cases hm : max < 0
  · rw [if_pos hm] at h
    exfalso
    cases st with
    | error e => simp at h
    | ok p => simp only at h; split at h <;> simp at h
  · rw [if_neg hm] at h ⊢
    have := rdNum_le s max.toNat k st
    exact ⟨by omega, num_read h⟩
theorem mark_write {s : ByteArray} {p l : Nat} {r : List UInt8} (hl : l < 256) (h : Tl s p (UInt8.ofNat l :: r)) : rdMark s l (.ok p) = .ok (p + 1) ∧ Tl s (p + 1) r := by
  obtain ⟨hp, hc, ht⟩ := Tl.cons h
  refine ⟨?_, ht⟩
  unfold rdMark
  simp only
  rw [dif_pos hp, if_pos (by rw [hc, byte_ofNat l hl])]
theorem mark_read {s : ByteArray} {l q : Nat} {st : St} (h : rdMark s l st = .ok q) : ∃ p r, st = .ok p ∧ Tl s q r ∧ Tl s p (UInt8.ofNat l :: r) := by
  cases st with
  | error e => simp [rdMark] at h
  | ok p =>
    unfold rdMark at h
    simp only at h
    by_cases hp : p < s.size
    · rw [dif_pos hp] at h
      by_cases hl : (s[p]'hp).toNat = l
      · rw [if_pos hl] at h
        cases h
        obtain ⟨r, h1, h2⟩ := Tl.of_lt hp
        refine ⟨p, r, rfl, h1, ?_⟩
        rw [← hl, byte_back]
        exact h2
      · rw [if_neg hl] at h; simp at h
    · rw [dif_neg hp] at h; simp at h
theorem width_write {s : ByteArray} {p n : Nat} {r : List UInt8} (h1 : 1 ≤ n) (h2 : n ≤ 32) (h : Tl s p (UInt8.ofNat n :: r)) : rdWidth s (.ok p) = (n, .ok (p + 1)) ∧ Tl s (p + 1) r := by
  obtain ⟨hp, hc, ht⟩ := Tl.cons h
  refine ⟨?_, ht⟩
  have e : (s[p]'hp).toNat = n := by rw [hc, byte_ofNat n (by omega)]
  unfold rdWidth
  simp only
  rw [dif_pos hp, e, if_neg (by omega)]
theorem width_read {s : ByteArray} {q : Nat} {st : St} (h : (rdWidth s st).2 = .ok q) : (1 ≤ (rdWidth s st).1 ∧ (rdWidth s st).1 ≤ 32) ∧ ∃ p r, st = .ok p ∧ Tl s q r ∧ Tl s p (UInt8.ofNat (rdWidth s st).1 :: r) := by
  cases st with
  | error e => simp [rdWidth] at h
  | ok p =>
    unfold rdWidth at h ⊢
    simp only at h ⊢
    by_cases hp : p < s.size
    · rw [dif_pos hp] at h ⊢
      by_cases hl : (s[p]'hp).toNat < 1 ∨ 32 < (s[p]'hp).toNat
      · rw [if_pos hl] at h; simp at h
      · rw [if_neg hl] at h ⊢
        simp only at h ⊢
        cases h
        obtain ⟨r, h1, h2⟩ := Tl.of_lt hp
        refine ⟨by omega, p, r, rfl, h1, ?_⟩
        rw [byte_back]
        exact h2
    · rw [dif_neg hp] at h; simp at h
theorem tl_extract {s : ByteArray} {p : Nat} {x : ByteArray} {r : List UInt8} (h : Tl s p (x.data.toList ++ r)) : s.extract p (p + x.size) = x := by
  apply ByteArray.ext
  apply Array.toList_inj.1
  have e : (s.extract p (p + x.size)).data.toList = (s.data.toList.drop p).take x.size := by simp [ByteArray.data_extract]
  rw [e, h.2, ← tl_len x, List.take_left]
theorem bytes_write {s : ByteArray} {p : Nat} {x : ByteArray} {r : List UInt8} (h : Tl s p (x.data.toList ++ r)) : rdBytes s x.size (.ok p) = (x, .ok (p + x.size)) ∧ Tl s (p + x.size) r := by
  have h1 := h.skip
  rw [tl_len] at h1
  refine ⟨?_, h1⟩
  unfold rdBytes
  simp only
  have := h1.1
  rw [if_neg (by omega), tl_extract h]
theorem bytes_read {s : ByteArray} {n q : Nat} {st : St} (h : (rdBytes s n st).2 = .ok q) (hs : ∀ p, st = .ok p → p ≤ s.size) : (rdBytes s n st).1.size = n ∧ ∃ p r, st = .ok p ∧ Tl s q r ∧ Tl s p ((rdBytes s n st).1.data.toList ++ r) := by
  cases st with
  | error e => simp [rdBytes] at h
  | ok p =>
    have hp := hs p rfl
    unfold rdBytes at h ⊢
    simp only at h ⊢
    by_cases hn : s.size - p < n
    · rw [if_pos hn] at h; simp at h
    · rw [if_neg hn] at h ⊢
      simp only at h ⊢
      cases h
      refine ⟨by rw [ByteArray.size_extract]; omega, p, _, rfl, Tl.at s (p + n) (by omega), hp, ?_⟩
      have e : (s.extract p (p + n)).data.toList = (s.data.toList.drop p).take n := by simp [ByteArray.data_extract]
      rw [e, ← List.drop_drop, List.take_append_drop]
theorem hashes_write {s : ByteArray} {k : Nat} : ∀ (hs : List ByteArray) (p : Nat) (acc : List ByteArray) (r : List UInt8), (∀ x ∈ hs, x.size = k) → Tl s p (flatS hs ++ r) → ∃ q, rdHashes s k hs.length (.ok p) acc = (acc ++ hs, .ok q) ∧ Tl s q r := by
  intro hs
  induction hs with
  | nil => intro p acc r _ h; exact ⟨p, by simp [rdHashes], h⟩
  | cons x hs ih =>
    intro p acc r hz h
    rw [show flatS (x :: hs) = x.data.toList ++ flatS hs from rfl, List.append_assoc] at h
    obtain ⟨e, h2⟩ := bytes_write h
    rw [hz x (List.mem_cons_self ..)] at e
    obtain ⟨q, e2, h3⟩ := ih _ (acc ++ [x]) r (fun y hy => hz y (List.mem_cons_of_mem _ hy)) h2
    refine ⟨q, ?_, h3⟩
    rw [List.length_cons, rdHashes_step' s k (hs.length + 1) hs.length p acc rfl, e]
    simp only
    rw [hz x (List.mem_cons_self ..)] at e2
    simpa using e2
theorem hashes_read {s : ByteArray} {k : Nat} : ∀ (n : Nat) (st : St) (acc : List ByteArray) (q : Nat), (∀ p, st = .ok p → p ≤ s.size) → (rdHashes s k n st acc).2 = .ok q →
    ∃ p hs r, st = .ok p ∧ (rdHashes s k n st acc).1 = acc ++ hs ∧ hs.length = n ∧ (∀ x ∈ hs, x.size = k) ∧ Tl s q r ∧ Tl s p (flatS hs ++ r) := by
  intro n
  induction n with
  | zero =>
    intro st acc q hs h
    simp only [rdHashes] at h ⊢
    subst h
    exact ⟨q, [], _, rfl, by simp, rfl, by simp, Tl.at s q (hs q rfl), Tl.at s q (hs q rfl)⟩
  | succ n ih =>
    intro st acc q hs h
    cases st with
    | error e => rw [rdHashes_no] at h; simp at h
    | ok p =>
      rw [rdHashes_step' s k _ n p acc rfl] at h ⊢
      have hb : ∀ q', (rdBytes s k (.ok p)).2 = .ok q' → q' ≤ s.size := fun q' e => by
        obtain ⟨_, _, _, _, e2, _⟩ := bytes_read e hs
        exact e2.1
      obtain ⟨p2, l, r, e1, e2, e3, e4, e5, e6⟩ := ih _ _ q hb h
      obtain ⟨hz, p3, r3, e7, e8, e9⟩ := bytes_read e1 hs
      cases e7
      refine ⟨p, (rdBytes s k (.ok p)).1 :: l, r, rfl, by rw [e2]; simp, by rw [List.length_cons, e3], ?_, e5, ?_⟩
      · intro x hx
        rcases List.mem_cons.1 hx with rfl | hx
        · exact hz
        · exact e4 x hx
      · rw [show flatS ((rdBytes s k (.ok p)).1 :: l) = (rdBytes s k (.ok p)).1.data.toList ++ flatS l from rfl, List.append_assoc, ← e8.uniq e6]
        exact e9
theorem leaves_write {s : ByteArray} : ∀ (hs : List ByteArray) (p : Nat) (acc : List ByteArray) (r : List UInt8), (∀ x ∈ hs, x.size ≤ 4096) → Tl s p (hs.flatMap leafB ++ r) → ∃ q, rdLeaves s hs.length (.ok p) acc = (acc ++ hs, .ok q) ∧ Tl s q r := by
  intro hs
  induction hs with
  | nil => intro p acc r _ h; exact ⟨p, by simp [rdLeaves], h⟩
  | cons x hs ih =>
    intro p acc r hz h
    rw [List.flatMap_cons, show leafB x = putVar x.size ++ x.data.toList from rfl, List.append_assoc, List.append_assoc] at h
    obtain ⟨q1, e1, h1⟩ := num_write (k := 121) h (hz x (List.mem_cons_self ..)) (by decide)
    obtain ⟨e, h2⟩ := bytes_write h1
    obtain ⟨q, e2, h3⟩ := ih _ (acc ++ [x]) r (fun y hy => hz y (List.mem_cons_of_mem _ hy)) h2
    refine ⟨q, ?_, h3⟩
    rw [List.length_cons, rdLeaves_step, e1]
    simp only
    rw [e]
    simpa using e2
theorem leaves_read {s : ByteArray} : ∀ (n : Nat) (st : St) (acc : List ByteArray) (q : Nat), (∀ p, st = .ok p → p ≤ s.size) → (rdLeaves s n st acc).2 = .ok q →
    ∃ p hs r, st = .ok p ∧ (rdLeaves s n st acc).1 = acc ++ hs ∧ hs.length = n ∧ (∀ x ∈ hs, x.size ≤ 4096) ∧ Tl s q r ∧ Tl s p (hs.flatMap leafB ++ r) := by
  intro n
  induction n with
  | zero =>
    intro st acc q hs h
    simp only [rdLeaves] at h ⊢
    subst h
    exact ⟨q, [], _, rfl, by simp, rfl, by simp, Tl.at s q (hs q rfl), Tl.at s q (hs q rfl)⟩
  | succ n ih =>
    intro st acc q hs h
    cases st with
    | error e => rw [rdLeaves_no] at h; simp at h
    | ok p =>
      rw [rdLeaves_step s n p acc] at h ⊢
      have hn : ∀ q', (rdNum s 4096 121 (.ok p)).2 = .ok q' → q' ≤ s.size := fun q' e => by
        obtain ⟨_, _, _, e2, _⟩ := num_read e
        exact e2.1
      have hb : ∀ q', (rdBytes s (rdNum s 4096 121 (.ok p)).1 (rdNum s 4096 121 (.ok p)).2).2 = .ok q' → q' ≤ s.size := fun q' e => by
        obtain ⟨_, _, _, _, e2, _⟩ := bytes_read e hn
        exact e2.1
      obtain ⟨p2, l, r, e1, e2, e3, e4, e5, e6⟩ := ih _ _ q hb h
      obtain ⟨hz, p3, r3, e7, e8, e9⟩ := bytes_read e1 hn
      obtain ⟨p4, r4, e10, e11, e12⟩ := num_read e7
      cases e10
      have hz2 := rdNum_le s 4096 121 (.ok p)
      obtain ⟨y, hy⟩ : ∃ y, y = (rdBytes s (rdNum s 4096 121 (.ok p)).1 (rdNum s 4096 121 (.ok p)).2).1 := ⟨_, rfl⟩
      obtain ⟨m, hm⟩ : ∃ m, m = (rdNum s 4096 121 (.ok p)).1 := ⟨_, rfl⟩
      rw [← hy] at e2 e9 hz ⊢
      rw [← hm] at hz hz2 e12
      refine ⟨p, y :: l, r, rfl, by rw [e2]; simp, by rw [List.length_cons, e3], ?_, e5, ?_⟩
      · intro x hx
        rcases List.mem_cons.1 hx with rfl | hx
        · omega
        · exact e4 x hx
      · rw [List.flatMap_cons, show leafB y = putVar y.size ++ y.data.toList from rfl, List.append_assoc, List.append_assoc, ← e8.uniq e6, ← e11.uniq e9, hz]
        exact e12
theorem pl_write {s : ByteArray} : ∀ (xs : List Int) (p : Nat) (l : Int) (acc : List Int) (r : List UInt8), -1 ≤ l → Rise l xs → Tl s p (flatN (gapL l xs) ++ r) → ∃ q, rdPl s xs.length l (.ok p) acc = (acc ++ xs, .ok q) ∧ Tl s q r := by
  intro xs
  induction xs with
  | nil => intro p l acc r _ _ h; exact ⟨p, by simp [rdPl], h⟩
  | cons x xs ih =>
    intro p l acc r hl hR h
    obtain ⟨h1, h2, h3⟩ := hR
    rw [show flatN (gapL l (x :: xs)) = putVar (x - l - 1).toNat ++ flatN (gapL x xs) from rfl, List.append_assoc] at h
    obtain ⟨q1, e1, h4⟩ := numI_write (max := 4611686018427387904 - l - 1) (k := 10) h (by omega) (by omega)
    have e : l + (((x - l - 1).toNat : Int) + 1) = x := by omega
    obtain ⟨q, e2, h5⟩ := ih q1 x (acc ++ [x]) r (by omega) h3 h4
    refine ⟨q, ?_, h5⟩
    rw [List.length_cons, rdPl_step s (xs.length + 1) xs.length p l acc rfl, e1]
    simp only
    rw [e]
    simpa using e2
theorem pl_read {s : ByteArray} : ∀ (n : Nat) (l : Int) (st : St) (acc : List Int) (q : Nat), (∀ p, st = .ok p → p ≤ s.size) → (rdPl s n l st acc).2 = .ok q →
    ∃ p xs r, st = .ok p ∧ (rdPl s n l st acc).1 = acc ++ xs ∧ xs.length = n ∧ Tl s q r ∧ Tl s p (flatN (gapL l xs) ++ r) := by
  intro n
  induction n with
  | zero =>
    intro l st acc q hs h
    simp only [rdPl] at h ⊢
    subst h
    exact ⟨q, [], _, rfl, by simp, rfl, Tl.at s q (hs q rfl), Tl.at s q (hs q rfl)⟩
  | succ n ih =>
    intro l st acc q hs h
    cases st with
    | error e => rw [rdPl_no] at h; simp at h
    | ok p =>
      rw [rdPl_step s _ n p l acc rfl] at h ⊢
      have hb : ∀ q', (rdNumI s (4611686018427387904 - l - 1) 10 (.ok p)).2 = .ok q' → q' ≤ s.size := fun q' e => by
        obtain ⟨_, _, _, _, e2, _⟩ := numI_read e
        exact e2.1
      obtain ⟨p2, xs, r, e1, e2, e3, e5, e6⟩ := ih _ _ _ q hb h
      obtain ⟨hz, p3, r3, e7, e8, e9⟩ := numI_read e1
      cases e7
      obtain ⟨m, hm⟩ : ∃ m, m = (rdNumI s (4611686018427387904 - l - 1) 10 (.ok p)).1 := ⟨_, rfl⟩
      rw [← hm] at e2 e6 e9 ⊢
      refine ⟨p, (l + ((m : Int) + 1)) :: xs, r, rfl, by rw [e2]; simp, by rw [List.length_cons, e3], e5, ?_⟩
      rw [show flatN (gapL l ((l + ((m : Int) + 1)) :: xs)) = putVar (l + ((m : Int) + 1) - l - 1).toNat ++ flatN (gapL (l + ((m : Int) + 1)) xs) from rfl, show (l + ((m : Int) + 1) - l - 1).toNat = m by omega, List.append_assoc, ← e8.uniq e6]
      exact e9
end Go.Proofs.Ytocjjiacmedjmaa
