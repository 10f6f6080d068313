/- What WireBack writes and reads: numbers out of Fit, the bytes' reach, their first letter. The plain part. -/
import Derived.Test.YtocjjiacmedjmaaAgain
import Derived.Test.YtocjjiacmedjmaaFitted
set_option maxRecDepth 100000
namespace Go.Proofs.Ytocjjiacmedjmaa
open Go Go.RowKit

theorem fit_nat {k wd a b n : Int} {xs : List Int} {hs : List ByteArray} (f : Fit k wd a b n xs hs) : ∃ k' wd' a' b' n' : Nat, k = k' ∧ wd = wd' ∧ a = a' ∧ b = b' ∧ n = n' := by
  have ht := taken_of k a b n xs (by rw [f.cnt])
  have h1 := f.k1
  have h2 := f.w1
  have hab : 0 ≤ a ∧ 0 ≤ b := by
    have hn := f.named
    have hs := ht.small
    unfold namedN at hn
    unfold numsN at hs
    by_cases e1 : k = 1 ∨ k = 2
    · rw [if_pos e1] at hn hs
      simp only [decide_eq_true_eq] at hn
      exact ⟨(hs a (by simp)).1, by omega⟩
    · rw [if_neg e1] at hn hs
      by_cases e2 : k = 3
      · rw [if_pos e2] at hn hs
        exact ⟨(hs a (by simp)).1, (hs b (by simp)).1⟩
      · rw [if_neg e2] at hn hs
        simp only [decide_eq_true_eq] at hn
        omega
  have hn0 := ht.n0
  exact ⟨k.toNat, wd.toNat, a.toNat, b.toNat, n.toNat, by omega, by omega, by omega, by omega, by omega⟩
theorem flatS_of {wd : Nat} {hs : List ByteArray} (h : ∀ x ∈ hs, x.size = wd) (hw : wd ≤ 32) : (flatS hs).length ≤ 4096 * hs.length :=
  flatS_all hs fun i hi => by have := h _ (List.getElem_mem hi); omega
theorem numsN_len (k a b n : Int) (xs : List Int) : (numsN k a b n xs).length ≤ xs.length + 3 := by
  unfold numsN
  split
  · simp
  · split
    · simp
    · simp only [List.length_append, List.length_cons, gapL_length, List.length_nil]; omega
theorem fit_size {k wd a b n : Nat} {xs : List Int} {hs : List ByteArray} (f : Fit k wd a b n xs hs) (h1 : xs.length ≤ 1024) (h2 : hs.length ≤ 65536) : (⟨(proofB k wd a b n xs hs).toArray⟩ : ByteArray).size ≤ 140737488355328 := by
  have ht := taken_of k a b n xs (by rw [f.cnt])
  have h3 := flatN_len _ ht.small
  have h4 := numsN_len k a b n xs
  have hw := f.w32
  have h5 := flatS_of (wd := wd) (fun x hx => by have := f.size x hx; omega) (by omega)
  have h6 := putVar_len 9 k (by have := f.k4; omega)
  rw [str_size]
  unfold proofB
  simp only [List.length_append, List.length_cons, List.length_nil, Int.toNat_natCast]
  omega
theorem front_size {n lo hi : Nat} {hs : List ByteArray} (f : FitF n lo hi hs) : (⟨(frontBy n lo hi hs).toArray⟩ : ByteArray).size ≤ 140737488355328 := by
  have h5 := flatS_of f.size f.w32
  have h1 := f.le
  have h2 := f.top
  have h6 := putVar_len 9 lo (by omega)
  have h7 := putVar_len 9 hi (by omega)
  have h8 := cover_len lo hi h2
  have h9 := f.cnt
  rw [str_size]
  unfold frontBy
  simp only [List.length_append, List.length_cons, List.length_nil]
  omega
theorem row_size {n : Nat} {hs : List ByteArray} (f : FitH n hs) : (⟨(hashesBy n hs).toArray⟩ : ByteArray).size ≤ 140737488355328 := by
  have h5 := flatS_of f.size f.w32
  have h1 := f.few
  have h6 := putVar_len 9 hs.length (by omega)
  rw [str_size]
  unfold hashesBy
  simp only [List.length_append, List.length_cons, List.length_nil]
  omega
theorem list_size {hs : List ByteArray} (f : FitL hs) : (⟨(leavesB hs).toArray⟩ : ByteArray).size ≤ 140737488355328 := by
  have h5 := flat_len hs (fun i hi => f.size _ (List.getElem_mem hi)) hs.length (Nat.le_refl _)
  have h1 := f.few
  have h6 := putVar_len 9 hs.length (by omega)
  rw [List.take_length] at h5
  rw [str_size]
  unfold leavesB
  simp only [List.length_append, List.length_cons]
  omega
/-- Bytes that begin with this letter. -/
structure Led (s : ByteArray) (x : Nat) : Prop where
  some_ : 0 < s.size
  at0 : ((s[0]'some_).toNat : Int) = x
  full : s.toList.isEmpty = false
theorem led_of {x : Nat} (hx : x < 256) (l : List UInt8) : Led ⟨(UInt8.ofNat x :: l).toArray⟩ x := by
  have h : 0 < (⟨(UInt8.ofNat x :: l).toArray⟩ : ByteArray).size := by rw [str_size]; simp
  refine ⟨h, ?_, lead_not⟩
  show (((UInt8.ofNat x).toNat : Nat) : Int) = x
  rw [byte_ofNat x hx]
/-- A proof that may be, written: its bytes, and what is read of them. -/
theorem back_of_proof {k wd a b n : Nat} {xs : List Int} {hs : List ByteArray} (f : Fit k wd a b n xs hs) (h1 : xs.length ≤ 1024) (h2 : hs.length ≤ 65536) :
    ∃ s : ByteArray, proofR k wd a b n xs hs = (s, 0) ∧ unProof s = (⟨k, wd, a, b, n, xs, hs⟩, 0) ∧ s.size ≤ 140737488355328 ∧ Led s 80 :=
  ⟨_, fit_proofR f, proof_write f (by simp [proofBy, proofB]), fit_size f h1 h2, led_of (by decide) _⟩
theorem back_of_front {n lo hi : Nat} {hs : List ByteArray} (f : FitF n lo hi hs) :
    ∃ s : ByteArray, frontR n lo hi hs = (s, 0) ∧ unFrontier s = (⟨lo, hi, hs⟩, n, 0) ∧ s.size ≤ 140737488355328 ∧ Led s 70 :=
  ⟨_, fit_frontR f, front_write f (by simp), front_size f, led_of (by decide) _⟩
theorem back_of_row {n : Nat} {hs : List ByteArray} (f : FitH n hs) :
    ∃ s : ByteArray, hashesR n hs = (s, 0) ∧ unHashes s = (hs, n, 0) ∧ s.size ≤ 140737488355328 ∧ Led s 72 :=
  ⟨_, fit_hashesR f, row_write f (by simp), row_size f, led_of (by decide) _⟩
theorem back_of_list {hs : List ByteArray} (f : FitL hs) :
    ∃ s : ByteArray, (⟨(leavesB hs).toArray⟩ : ByteArray) = s ∧ unLeaves s = (hs, 0) ∧ s.size ≤ 140737488355328 ∧ Led s 76 :=
  ⟨_, rfl, list_write f (by simp), list_size f, led_of (by decide) _⟩
end Go.Proofs.Ytocjjiacmedjmaa
