/- Walks of wire.UnHashes and of the reference's. -/
import Derived.Test.YtpdjiflbidjcbaaRdHashes
set_option maxRecDepth 100000
namespace Go.Proofs.Ytpdjiflbidjcbaa
open Go Go.RowKit

def unHashesW (s : ByteArray) : Nat × St := rdWidth s (rdMark s 72 (.ok 0))
def unHashesN (s : ByteArray) : Nat × St := rdNum s 256 83 (unHashesW s).2
def unHashesSt (s : ByteArray) : List ByteArray × St := rdHashes s (unHashesW s).1 (unHashesN s).1 (unHashesN s).2 []
/-- The hashes read, their width, and the refusal. -/
def unHashes (s : ByteArray) : List ByteArray × Nat × Int := if rdEnd s (unHashesSt s).2 = 0 then ((unHashesSt s).1, (unHashesW s).1, 0) else ([], 0, rdEnd s (unHashesSt s).2)
theorem unHashes_ok (s : ByteArray) {p : Nat} (h : (unHashesN s).2 = .ok p) : ∃ q, (unHashesW s).2 = .ok q := by
  cases h2 : (unHashesW s).2 with
  | ok q => exact ⟨q, rfl⟩
  | error e => unfold unHashesN at h; rw [h2] at h; simp [rdNum] at h
theorem unHashesSt_ok (s : ByteArray) {p : Nat} (h : (unHashesSt s).2 = .ok p) : ∃ q, (unHashesN s).2 = .ok q := by
  cases h2 : (unHashesN s).2 with
  | ok q => exact ⟨q, rfl⟩
  | error e => unfold unHashesSt at h; rw [h2, rdHashes_no] at h; simp at h
/-- What the reader of hashes answers. -/
def UnHs (r : List ByteArray × Nat × Int) (w : World) (e : Ending) (w' : World) : Prop :=
  ∃ v, e = .returned (.tuple #[v, .int .i64 r.2.1, .int .i64 r.2.2]) ∧ w'.ownsRow w.heap.size 9 1 v (strs' r.1).length (strs' r.1) ∧ Below w.heap.size w w'
end Go.Proofs.Ytpdjiflbidjcbaa
