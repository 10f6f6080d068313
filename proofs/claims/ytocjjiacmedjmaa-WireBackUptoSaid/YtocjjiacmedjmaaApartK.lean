/- Proofs that may be, rows and letters: what WireApart, WireBack and WireOnly share. -/
import Derived.Test.YtocjjiacmedjmaaPrefix
import Derived.Test.YtocjjiacmedjmaaOwns
import Derived.Test.YtocjjiacmedjmaaUnlike
import Derived.Test.YtocjjiacmedjmaaLeaves
set_option maxRecDepth 100000
namespace Go.Proofs.Ytocjjiacmedjmaa
open Go Go.RowKit

theorem Owns.proofI {w0 w w1 : World} {l : List OwnR} (h : Owns w0 w l) {k wd a b n : Int} {xs : List Int} {zs : List ByteArray} {ao ho : Option Addr} {c d : Nat}
    (ox : w1.ownsRow w.heap.size 3 1 (.slice ao xs.length c) xs.length (ints xs)) (oz : w1.ownsRow w.heap.size 9 1 (.slice ho zs.length d) zs.length (strs' zs)) (b1 : Below w.heap.size w w1) :
    ∃ W, w1.alloc (.cells #[.int .i64 k, .int .i64 wd, .int .i64 a, .int .i64 b, .int .i64 n, .slice ao xs.length c, .slice ho zs.length d] 25) = W ∧
      Owns w0 W (boxR w1.heap.size 25 [.int .i64 k, .int .i64 wd, .int .i64 a, .int .i64 b, .int .i64 n, .slice ao xs.length c, .slice ho zs.length d] :: ⟨9, 1, .slice ho zs.length d, zs.length, strs' zs⟩ :: ⟨3, 1, .slice ao xs.length c, xs.length, ints xs⟩ :: l) :=
  ⟨_, rfl, (h.push2 b1 ox oz (by decide)).box _ _ _ _ _ _ _ _⟩
theorem Owns.getR {w0 w : World} {l : List OwnR} (h : Owns w0 w l) (i : Nat) {e : TypeId} {size n : Nat} {v : Value} {xs : List Value} (hi : l[i]? = some ⟨e, size, v, n, xs⟩) : w.ownsRow w0.heap.size e size v n xs := h.get i hi
theorem own_cap {w : World} {lo n cap : Nat} {e : TypeId} {ao : Option Addr} {xs : List Value} (h : w.ownsRow lo e 1 (.slice ao n cap) n xs) : n ≤ cap := by
  rcases h.2 with ⟨hv, hn⟩ | ⟨g, cap', cur, hv, _, _, hle, _⟩
  · cases hv; omega
  · cases hv; exact hle
theorem row_take {w : World} {ao : Option Addr} {xs : List ByteArray} (h : RowAt w ao (strs' xs)) (n : Nat) : RowAt w ao (strs' (xs.take n)) := by
  have e : xs.take n ++ xs.drop n = xs := List.take_append_drop n xs
  rw [← e] at h
  exact h.front
theorem big_of (xs : List ByteArray) (h : ∀ x ∈ xs, x.size ≤ 4096) : bigLeaf xs = false := by
  unfold bigLeaf
  rw [List.any_eq_false]
  intro x hx
  have := h x hx
  simp; omega
theorem fit_proofR {k wd a b n : Int} {xs : List Int} {hs : List ByteArray} (f : Fit k wd a b n xs hs) : proofR k wd a b n xs hs = (⟨(proofB k wd a b n xs hs).toArray⟩, 0) := by
  unfold proofR
  have h1 := f.w1
  have h2 := f.w32
  rw [if_neg (by omega), if_neg (by rw [f.cnt]; simp), if_neg (by rw [f.named]; simp), if_neg (by rw [sized_all (fun i hi => by have := f.size _ (List.getElem_mem hi); omega)]; simp), if_neg (by rw [f.cnt]; simp)]
theorem proof_lead (k wd a b n : Int) (xs : List Int) (hs : List ByteArray) : ∃ r, proofB k wd a b n xs hs = 80 :: r := ⟨_, rfl⟩
theorem begins_self (a : ByteArray) : beginsB a a = true := (begins_iff a a).2 ⟨[], by simp⟩
theorem begins_lead {x y : UInt8} {l m : List UInt8} (h : x ≠ y) : beginsB ⟨(x :: l).toArray⟩ ⟨(y :: m).toArray⟩ = false := by
  cases hb : beginsB ⟨(x :: l).toArray⟩ ⟨(y :: m).toArray⟩ with
  | false => rfl
  | true =>
    obtain ⟨r, hr⟩ := (begins_iff _ _).1 hb
    simp at hr
    exact absurd hr.1.symm h
theorem begins_proof {k wd a b n k' wd' a' b' n' : Int} {xs xs' : List Int} {hs hs' : List ByteArray} (x : Fit k wd a b n xs hs) (y : Fit k' wd' a' b' n' xs' hs') (hne : ¬ (k = k' ∧ wd = wd' ∧ a = a' ∧ b = b' ∧ n = n' ∧ xs = xs' ∧ hs = hs')) :
    beginsB ⟨(proofB k wd a b n xs hs).toArray⟩ ⟨(proofB k' wd' a' b' n' xs' hs').toArray⟩ = false := by
  cases hb : beginsB ⟨(proofB k wd a b n xs hs).toArray⟩ ⟨(proofB k' wd' a' b' n' xs' hs').toArray⟩ with
  | false => rfl
  | true =>
    obtain ⟨r, hr⟩ := (begins_iff _ _).1 hb
    exact absurd (proof_cancel x y r [] (by simpa [proofBy, proofB] using hr.symm)).1 hne
theorem lead_ne {x : UInt8} {l : List UInt8} : ((⟨(x :: l).toArray⟩ : ByteArray).toList == (⟨#[]⟩ : ByteArray).toList) = false := by
  rw [beq_eq_false_iff_ne, ByteArray.toList_eq, ByteArray.toList_eq]
  simp
theorem lead_not {x : UInt8} {l : List UInt8} : (⟨(x :: l).toArray⟩ : ByteArray).toList.isEmpty = false := by
  rw [ByteArray.toList_eq]
  simp
theorem alike_any (k wd a b n k' wd' a' b' n' : Int) (xs ys : List Int) (hs gs : List ByteArray) (ao bo ho gp : Option Addr) (c1 c2 d1 d2 : Nat)
    (hl1 : xs.length ≤ 4611686018427387904) (hl2 : hs.length ≤ 4611686018427387904) (hl3 : ys.length ≤ 4611686018427387904) (hl4 : gs.length ≤ 4611686018427387904) (x : Fit k wd a b n xs hs) (y : Fit k' wd' a' b' n' ys gs) :
    ∃ one : Bool, (∀ w : World, RowAt w ao (ints xs) → RowAt w bo (ints ys) → RowAt w ho (strs' hs) → RowAt w gp (strs' gs) → Calls Try.prog 10 #[proofV k wd a b n ao xs c1 ho hs d1, proofV k' wd' a' b' n' bo ys c2 gp gs d2] w fun e w' => e = .returned (.bool one) ∧ Below w.heap.size w w') ∧
      beginsB ⟨(proofB k wd a b n xs hs).toArray⟩ ⟨(proofB k' wd' a' b' n' ys gs).toArray⟩ = one ∧ beginsB ⟨(proofB k' wd' a' b' n' ys gs).toArray⟩ ⟨(proofB k wd a b n xs hs).toArray⟩ = one := by
  by_cases h : k = k' ∧ wd = wd' ∧ a = a' ∧ b = b' ∧ n = n' ∧ xs = ys ∧ hs = gs
  · obtain ⟨rfl, rfl, rfl, rfl, rfl, rfl, rfl⟩ := h
    exact ⟨true, fun w h1 h2 h3 h4 => law_alike _ _ _ _ _ _ _ _ _ _ _ _ _ _ _ w hl1 hl2 h1 h2 h3 h4, begins_self _, begins_self _⟩
  · exact ⟨false, fun w h1 h2 h3 h4 => law_unlike _ _ _ _ _ _ _ _ _ _ _ _ _ _ _ _ _ _ _ _ _ _ w hl1 hl2 hl3 hl4 h1 h2 h3 h4 h, begins_proof x y h, begins_proof y x (fun ⟨e1, e2, e3, e4, e5, e6, e7⟩ => h ⟨e1.symm, e2.symm, e3.symm, e4.symm, e5.symm, e6.symm, e7.symm⟩)⟩
end Go.Proofs.Ytocjjiacmedjmaa
