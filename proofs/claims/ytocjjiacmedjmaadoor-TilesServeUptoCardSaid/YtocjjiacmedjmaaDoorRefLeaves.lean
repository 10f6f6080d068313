/- Walk of the reference's Leaves; wire.Leaves in one contract. -/
import Derived.Test.YtocjjiacmedjmaaDoorLeaves
set_option maxRecDepth 100000
namespace Go.Proofs.YtocjjiacmedjmaaDoor
open Go Go.RowKit

/-- The bytes l, a row of the call's own. -/
def Own (B : Nat) (v : Value) (l : List UInt8) (w : World) : Prop := w.ownsRow B 5 1 v (bytesV l).length (bytesV l)

theorem own_eq {B : Nat} {v : Value} {l m : List UInt8} {w : World} (h : Own B v l w) (e : l = m) : Own B v m w := e ▸ h
theorem own_bytes {B : Nat} {v : Value} {c : Nat} {w : World} (h : w.ownsRow B 5 1 v ([] ++ [Value.int .u8 (c : Int)]).length ([] ++ [Value.int .u8 (c : Int)])) (hc : c < 256 := by decide) : Own B v [UInt8.ofNat c] w := by
  have e : bytesV [UInt8.ofNat c] = [] ++ [Value.int .u8 (c : Int)] := by
    unfold bytesV; simp only [List.map_cons, List.map_nil, byte_ofNat c hc, List.nil_append]
  unfold Own; rw [e]; exact h
theorem Own.below {B : Nat} {v : Value} {l : List UInt8} {w w' : World} (h : Own B v l w) (hb : Below w.heap.size w w') : Own B v l w' :=
  h.kept (row := none) ⟨hb.os, hb.tape, hb.output, hb.size, fun k hk _ => hb.block k hk⟩ (by cases v.ownBlock <;> simp)

theorem big_at (xs : List ByteArray) (i : Nat) (hi : i < xs.length) (h : 4096 < xs[i].size) : bigLeaf xs = true := by
  unfold bigLeaf
  rw [List.any_eq_true]
  exact ⟨xs[i], List.getElem_mem hi, by simpa using h⟩
theorem big_none (xs : List ByteArray) (h : ∀ i (hi : i < xs.length), xs[i].size ≤ 4096) : bigLeaf xs = false := by
  unfold bigLeaf
  rw [List.any_eq_false]
  intro x hx
  obtain ⟨i, hi, rfl⟩ := List.getElem_of_mem hx
  have := h i hi
  simp; omega
/-- The bytes of the first i leaves. -/
def leavesTo (xs : List ByteArray) (i : Nat) : List UInt8 := 76 :: (putVar xs.length ++ (xs.take i).flatMap leafB)
theorem leavesTo_step (xs : List ByteArray) (i : Nat) (hi : i < xs.length) : leavesTo xs (i + 1) = leavesTo xs i ++ putVar xs[i].size ++ xs[i].data.toList := by
  unfold leavesTo
  rw [flat_take xs i hi]; simp [leafB]
theorem leavesTo_len (xs : List ByteArray) (h : xs.length ≤ 1024) (i : Nat) (hi : i ≤ xs.length) (hs : ∀ k (hk : k < i), (xs[k]'(by omega)).size ≤ 4096) : (leavesTo xs i).length ≤ 4106 * i + 12 := by
  induction i with
  | zero =>
    have := putVar_len 9 xs.length (by omega)
    unfold leavesTo; simp; omega
  | succ i ih =>
    rw [leavesTo_step xs i (by omega), List.length_append, List.length_append]
    have := ih (by omega) (fun k hk => hs k (by omega))
    have h2 := leafB_len xs[i] (hs i (by omega))
    unfold leafB at h2
    rw [List.length_append] at h2
    omega

end Go.Proofs.YtocjjiacmedjmaaDoor
