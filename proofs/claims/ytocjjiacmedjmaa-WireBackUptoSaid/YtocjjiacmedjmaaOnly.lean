/- Of bytes that one of the readers takes none takes a proper beginning; one reader takes them at most. The plain part. -/
import Derived.Test.YtocjjiacmedjmaaUndo2
set_option maxRecDepth 100000
namespace Go.Proofs.Ytocjjiacmedjmaa
open Go Go.RowKit

theorem front_cancel {n lo hi n' lo' hi' : Nat} {hs hs' : List ByteArray} (x : FitF n lo hi hs) (y : FitF n' lo' hi' hs') (r t : List UInt8) (h : frontBy n lo hi hs ++ r = frontBy n' lo' hi' hs' ++ t) : r = t := by
  unfold frontBy at h
  simp only [List.append_assoc, List.cons_append, List.nil_append, List.cons.injEq, true_and] at h
  have hw := byte_eq (by have := x.w32; omega) (by have := y.w32; omega) h.1
  obtain ⟨rfl, e2⟩ := putVar_cancel _ _ _ _ _ (Nat.le_refl _) h.2
  obtain ⟨rfl, e3⟩ := putVar_cancel _ _ _ _ _ (Nat.le_refl _) e2
  exact (flatS_cancel n hs hs' r t (x.cnt.trans y.cnt.symm) x.size (fun z hz => by rw [y.size z hz, hw]) e3).2
theorem row_cancel {n n' : Nat} {hs hs' : List ByteArray} (x : FitH n hs) (y : FitH n' hs') (r t : List UInt8) (h : hashesBy n hs ++ r = hashesBy n' hs' ++ t) : r = t := by
  unfold hashesBy at h
  simp only [List.append_assoc, List.cons_append, List.nil_append, List.cons.injEq, true_and] at h
  have hw := byte_eq (by have := x.w32; omega) (by have := y.w32; omega) h.1
  obtain ⟨e1, e3⟩ := putVar_cancel _ _ _ _ _ (Nat.le_refl _) h.2
  exact (flatS_cancel n hs hs' r t e1 x.size (fun z hz => by rw [y.size z hz, hw]) e3).2
theorem leaf_cancel : ∀ (l m : List ByteArray) (r t : List UInt8), l.length = m.length → l.flatMap leafB ++ r = m.flatMap leafB ++ t → l = m ∧ r = t := by
  intro l
  induction l with
  | nil =>
    intro m r t hl h
    obtain rfl := List.length_eq_zero_iff.1 hl.symm
    exact ⟨rfl, h⟩
  | cons x l ih =>
    intro m r t hl h
    cases m with
    | nil => simp at hl
    | cons y m =>
      rw [List.flatMap_cons, List.flatMap_cons, show leafB x = putVar x.size ++ x.data.toList from rfl, show leafB y = putVar y.size ++ y.data.toList from rfl] at h
      simp only [List.append_assoc] at h
      obtain ⟨e1, e2⟩ := putVar_cancel _ _ _ _ _ (Nat.le_refl _) h
      obtain ⟨e3, e4⟩ := List.append_inj e2 (by rw [tl_len, tl_len, e1])
      obtain ⟨rfl, e5⟩ := ih m r t (by simpa using hl) e4
      have : x = y := ByteArray.ext (Array.toList_inj.1 e3)
      rw [this]
      exact ⟨rfl, e5⟩
theorem list_cancel {hs hs' : List ByteArray} (r t : List UInt8) (h : leavesB hs ++ r = leavesB hs' ++ t) : r = t := by
  unfold leavesB at h
  simp only [List.append_assoc, List.cons_append, List.cons.injEq, true_and] at h
  obtain ⟨e1, e3⟩ := putVar_cancel _ _ _ _ _ (Nat.le_refl _) h
  exact (leaf_cancel hs hs' r t e1 e3).2

/-- One of the four readers takes these bytes: which one, by its letter. -/
inductive Took (b : ByteArray) : Nat → Prop where
  | proof (h : (unProof b).2 = 0) : Took b 80
  | front (h : (unFrontier b).2.2 = 0) : Took b 70
  | row (h : (unHashes b).2.2 = 0) : Took b 72
  | list (h : (unLeaves b).2 = 0) : Took b 76
theorem Took.lead {b : ByteArray} {l : Nat} (h : Took b l) : ∃ r, b.data.toList = UInt8.ofNat l :: r := by
  cases h with
  | proof h => exact ⟨_, (proof_read h).2⟩
  | front h => exact ⟨_, (front_read h).2⟩
  | row h => exact ⟨_, (row_read h).2⟩
  | list h => exact ⟨_, (list_read h).2⟩
theorem Took.lt {b : ByteArray} {l : Nat} (h : Took b l) : l < 256 := by cases h <;> decide
/-- Where two begin alike, one reader takes both. -/
theorem Took.same {a b : ByteArray} {l m : Nat} (h : Took a l) (k : Took b m) (r : List UInt8) (e : b.data.toList = a.data.toList ++ r) : l = m := by
  obtain ⟨x, hx⟩ := h.lead
  obtain ⟨y, hy⟩ := k.lead
  rw [hx, hy, List.cons_append] at e
  simp only [List.cons.injEq] at e
  exact byte_eq h.lt k.lt e.1.symm
theorem Took.one {b : ByteArray} {l m : Nat} (h : Took b l) (k : Took b m) : l = m := h.same k [] (by simp)
theorem Took.whole {a b : ByteArray} {l m : Nat} (h : Took a l) (k : Took b m) (r : List UInt8) (e : b.data.toList = a.data.toList ++ r) : r = [] := by
  obtain rfl := h.same k r e
  have e0 : b.data.toList ++ [] = a.data.toList ++ r := by rw [List.append_nil]; exact e
  cases h with
  | proof h =>
    cases k with
    | proof k =>
      obtain ⟨f1, e1⟩ := proof_read h
      obtain ⟨f2, e2⟩ := proof_read k
      rw [e1, e2] at e0
      exact (proof_cancel f2 f1 _ _ e0).2.symm
  | front h =>
    cases k with
    | front k =>
      obtain ⟨f1, e1⟩ := front_read h
      obtain ⟨f2, e2⟩ := front_read k
      rw [e1, e2] at e0
      exact (front_cancel f2 f1 _ _ e0).symm
  | row h =>
    cases k with
    | row k =>
      obtain ⟨f1, e1⟩ := row_read h
      obtain ⟨f2, e2⟩ := row_read k
      rw [e1, e2] at e0
      exact (row_cancel f2 f1 _ _ e0).symm
  | list h =>
    cases k with
    | list k =>
      obtain ⟨f1, e1⟩ := list_read h
      obtain ⟨f2, e2⟩ := list_read k
      rw [e1, e2] at e0
      exact (list_cancel _ _ e0).symm
open Classical in
/-- What again answers. -/
noncomputable def againN (b : ByteArray) : ByteArray × Nat := if ∃ l, Took b l then (b, 1) else (⟨#[]⟩, 0)
theorem again_no {b : ByteArray} (h : ∀ l, ¬ Took b l) : againN b = (⟨#[]⟩, 0) := by
  unfold againN
  rw [if_neg (by rintro ⟨l, hl⟩; exact h l hl)]
theorem again_yes {b : ByteArray} {l : Nat} (h : Took b l) : againN b = (b, 1) := by
  unfold againN
  rw [if_pos ⟨l, h⟩]
theorem again_one (b : ByteArray) : (∃ l, Took b l) ∨ ∀ l, ¬ Took b l := by
  by_cases h : ∃ l, Took b l
  · exact .inl h
  · exact .inr fun l hl => h ⟨l, hl⟩
theorem again_cut {b : ByteArray} {l : Nat} (h : Took b l) (k : Nat) (hk : k < b.size) : againN (b.extract 0 k) = (⟨#[]⟩, 0) := by
  refine again_no fun m hm => ?_
  have e : (b.extract 0 k).data.toList = b.data.toList.take k := by simp [ByteArray.data_extract]
  have := hm.whole h (b.data.toList.drop k) (by rw [e, List.take_append_drop])
  have h2 := congrArg List.length this
  rw [List.length_drop, tl_len] at h2
  simp only [List.length_nil] at h2
  omega
theorem again_more {b : ByteArray} {l : Nat} (h : Took b l) (x : ByteArray) (hx : 0 < x.size) : againN (b ++ x) = (⟨#[]⟩, 0) := by
  refine again_no fun m hm => ?_
  have e : (b ++ x).data.toList = b.data.toList ++ x.data.toList := by simp [ByteArray.data_append]
  have := h.whole hm _ e
  have h2 := congrArg List.length this
  rw [tl_len] at h2
  simp only [List.length_nil] at h2
  omega
end Go.Proofs.Ytocjjiacmedjmaa
