/- Walks of the readers over a list of hashes: the program's (its function values) and the reference's. -/
import Derived.Test.YtaaldkkfedinpaaDoorRefNode
import Derived.Test.YtaaldkkfedinpaaDoorSpan
import Derived.Test.YtaaldkkfedinpaaDoorArgs
import Derived.Deep.RegionHeld3
set_option maxRecDepth 100000
namespace Go.Proofs.YtaaldkkfedinpaaDoor
open Go Go.RowKit

/-- The node of a level over these leaves. -/
def nodeAt (k : Int) (hs : List ByteArray) : Nat → Nat → ByteArray
  | 0, i => hs.getD i ⟨#[]⟩
  | l + 1, i => nodeS k (nodeAt k hs l (2 * i)) (nodeAt k hs l (2 * i + 1))
theorem nodeAt_up (k : Int) (hs : List ByteArray) (l i : Nat) : nodeAt k hs (l + 1) i = nodeS k (nodeAt k hs l (2 * i)) (nodeAt k hs l (2 * i + 1)) := rfl
theorem nodeAt_size (k : Int) (hs : List ByteArray) (S : Nat) (hS : 32 ≤ S) (hz : ∀ x ∈ hs, x.size ≤ S) (l i : Nat) : (nodeAt k hs l i).size ≤ S := by
  cases l with
  | zero =>
    show (hs.getD i ⟨#[]⟩).size ≤ S
    rw [List.getD_eq_getElem?_getD]
    by_cases h : i < hs.length
    · rw [List.getElem?_eq_getElem h]; exact hz _ (List.getElem_mem h)
    · rw [List.getElem?_eq_none (by omega)]; exact Nat.zero_le _
  | succ l =>
    rw [nodeAt_up]
    have := nodeS_size k (nodeAt k hs l (2 * i)) (nodeAt k hs l (2 * i + 1))
    have h2 := wid_le k
    omega
theorem str_at {w : World} {ao : Option Addr} {xs : List ByteArray} (h : RowAt w ao (strs' xs)) {k : Nat} (hk : k < xs.length) :
    ∃ b off, ao = some ⟨b, off, none⟩ ∧ w.cell? ⟨b, off + k, none⟩ = some (.string (xs.getD k ⟨#[]⟩)) := by
  rcases h with h | ⟨b, off, rfl, hc⟩
  · have := congrArg List.length h
    rw [strs'_length] at this
    simp only [List.length_nil] at this
    omega
  refine ⟨b, off, rfl, ?_⟩
  have := hc k (by rw [strs'_length]; exact hk)
  rw [this]
  simp [strs', List.getD_eq_getElem?_getD, List.getElem?_eq_getElem hk]
/-- What a reader over these leaves says of an address. -/
def lookN (k : Int) (hs : List ByteArray) (l i : Int) : ByteArray × Int :=
  if (spanN l i).2.2 ≠ 0 then (⟨#[]⟩, (spanN l i).2.2) else if (hs.length : Int) < (spanN l i).2.1 then (⟨#[]⟩, 80) else (nodeAt k hs l.toNat i.toNat, 0)
def saidV (r : ByteArray × Int) : Value := .tuple #[.string r.1, .int .i64 r.2]
theorem span_err (l i : Int) : ((spanN l i).2.2 = 50 ∧ validN l i = false) ∨ (∃ l' i' : Nat, l = l' ∧ i = i' ∧ l' ≤ 62 ∧ (i' + 1) * 2 ^ l' ≤ 4611686018427387904 ∧ spanN l i = (((i' * 2 ^ l' : Nat) : Int), (((i' + 1) * 2 ^ l' : Nat) : Int), 0)) := by
  cases hv : validN l i with
  | false => exact .inl ⟨by rw [span_no hv], rfl⟩
  | true =>
    obtain ⟨l', i', rfl, rfl, h1, h2⟩ := valid_nats hv
    exact .inr ⟨l', i', rfl, rfl, h1, h2, span_yes hv⟩
end Go.Proofs.YtaaldkkfedinpaaDoor
