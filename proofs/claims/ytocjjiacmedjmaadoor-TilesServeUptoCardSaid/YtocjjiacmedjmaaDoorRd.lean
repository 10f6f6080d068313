/- A reader over bytes, in memory: what it holds, what its steps leave alone, what each step answers. -/
import Derived.Test.YtocjjiacmedjmaaDoorVar
set_option maxRecDepth 100000
namespace Go.Proofs.YtocjjiacmedjmaaDoor
open Go Go.RowKit

/-- Where a reader stands: at a place, or refused. -/
abbrev St := Except Int Nat
/-- The reader at block b reads s and stands at st. -/
def Rd (b : Nat) (s : ByteArray) (st : St) (w : World) : Prop :=
  w.cell? ⟨b, 0, none⟩ = some (.string s) ∧ w.frozen? ⟨b, 1, none⟩ = false ∧ w.frozen? ⟨b, 2, none⟩ = false ∧
  (match st with
    | .ok p => w.cell? ⟨b, 1, none⟩ = some (.int .i64 p) ∧ w.cell? ⟨b, 2, none⟩ = some (.int .i64 0) ∧ p ≤ s.size
    | .error k => k ≠ 0 ∧ w.cell? ⟨b, 2, none⟩ = some (.int .i64 k) ∧ ∃ p : Nat, w.cell? ⟨b, 1, none⟩ = some (.int .i64 p) ∧ p ≤ s.size)
/-- Of what was there, only the reader's place and refusal are changed. -/
structure Only (b : Nat) (w w' : World) : Prop where
  os : w'.os = w.os
  tape : w'.tape = w.tape
  output : w'.output = w.output
  size : w.heap.size ≤ w'.heap.size
  block : ∀ k, k ≠ b → k < w.heap.size → w'.heap[k]? = w.heap[k]?
  cell : ∀ i, i ≠ 1 → i ≠ 2 → w'.cell? ⟨b, i, none⟩ = w.cell? ⟨b, i, none⟩
  frozen : ∀ i, w'.frozen? ⟨b, i, none⟩ = w.frozen? ⟨b, i, none⟩
theorem Only.refl (b : Nat) (w : World) : Only b w w := ⟨rfl, rfl, rfl, Nat.le_refl _, fun _ _ _ => rfl, fun _ _ _ => rfl, fun _ => rfl⟩
theorem Only.trans {b : Nat} {a c d : World} (h : Only b a c) (k : Only b c d) : Only b a d :=
  ⟨k.os.trans h.os, k.tape.trans h.tape, k.output.trans h.output, Nat.le_trans h.size k.size, fun i hi h2 => (k.block i hi (Nat.lt_of_lt_of_le h2 h.size)).trans (h.block i hi h2),
   fun i h1 h2 => (k.cell i h1 h2).trans (h.cell i h1 h2), fun i => (k.frozen i).trans (h.frozen i)⟩
theorem Only.drewN (b : Nat) (w : World) (n : Nat) : Only b w (w.drewN n) := ⟨rfl, rfl, rfl, Nat.le_refl _, fun _ _ _ => rfl, fun _ _ _ => rfl, fun _ => rfl⟩
theorem Only.set (b : Nat) (w : World) (i : Nat) (hi : i = 1 ∨ i = 2) (v : Value) : Only b w (w.setCell ⟨b, i, none⟩ v) := by
  refine ⟨rfl, rfl, rfl, by simp, fun k hk _ => Below.heap_setCell w ⟨b, i, none⟩ v k hk, fun j h1 h2 => World.cell?_setCell_other _ _ _ _ ?_, fun j => by simp⟩
  intro e
  cases e
  omega
/-- Below a boundary under the reader's block nothing is changed. -/
theorem Only.below {b B : Nat} {w w' : World} (h : Only b w w') (hB : B ≤ b) (hs : B ≤ w.heap.size) : Below B w w' :=
  ⟨h.os, h.tape, h.output, h.size, fun k hk => h.block k (by omega) (by omega)⟩
theorem Only.of {b : Nat} {w w' : World} (h : Below w.heap.size w w') (hb : b < w.heap.size) : Only b w w' :=
  ⟨h.os, h.tape, h.output, h.size, fun k _ hk => h.block k hk, fun _ _ _ => h.cell hb, fun _ => h.frozen hb⟩

theorem Rd.lt {b : Nat} {s : ByteArray} {st : St} {w : World} (h : Rd b s st w) : b < w.heap.size := World.block_lt_of_cell? _ _ h.1
theorem Rd.below {b : Nat} {s : ByteArray} {st : St} {w w' : World} (h : Rd b s st w) (hb : Below w.heap.size w w') : Rd b s st w' := by
  have hl := h.lt
  have hc : ∀ i, w'.cell? ⟨b, i, none⟩ = w.cell? ⟨b, i, none⟩ := fun i => hb.cell hl
  have hf : ∀ i, w'.frozen? ⟨b, i, none⟩ = w.frozen? ⟨b, i, none⟩ := fun i => hb.frozen hl
  unfold Rd at h ⊢
  rw [hc, hf, hf]
  refine ⟨h.1, h.2.1, h.2.2.1, ?_⟩
  have h4 := h.2.2.2
  cases st <;> simpa only [hc] using h4
theorem Rd.drewN {b : Nat} {s : ByteArray} {st : St} {w : World} (h : Rd b s st w) (n : Nat) : Rd b s st (w.drewN n) := h

/-- A refusal: the first one stays. -/
def stNo (k : Int) (st : St) : St := match st with | .ok _ => .error k | .error e => .error e
/-- n bytes. -/
def rdBytes (s : ByteArray) (n : Nat) (st : St) : ByteArray × St :=
  match st with | .error k => (⟨#[]⟩, .error k) | .ok p => if s.size - p < n then (⟨#[]⟩, .error 12) else (s.extract p (p + n), .ok (p + n))
/-- One byte, which must be this one. -/
def rdMark (s : ByteArray) (l : Nat) (st : St) : St :=
  match st with | .error k => .error k | .ok p => if h : p < s.size then (if (s[p]'h).toNat = l then .ok (p + 1) else .error 110) else .error 12
/-- A number, at most max. -/
def rdNum (s : ByteArray) (max : Nat) (k : Int) (st : St) : Nat × St :=
  match st with
  | .error e => (0, .error e)
  | .ok p => if (varAt s p 0 0).2.2 ≠ 0 then (0, .error (varAt s p 0 0).2.2) else if max < (varAt s p 0 0).1 then (0, .error k) else ((varAt s p 0 0).1, .ok (varAt s p 0 0).2.1)
/-- The end. -/
def rdEnd (s : ByteArray) (st : St) : Int := match st with | .error k => k | .ok p => if p < s.size then 111 else 0
theorem rdNum_le (s : ByteArray) (max : Nat) (k : Int) (st : St) : (rdNum s max k st).1 ≤ max := by
  unfold rdNum
  cases st with
  | error e => simp
  | ok p =>
    simp only
    split
    · simp
    · split
      · simp
      · simp only; omega
theorem Rd.set {b : Nat} {s : ByteArray} {p : Nat} {w : World} (h : Rd b s (.ok p) w) {q : Nat} (hq : q ≤ s.size) : Rd b s (.ok q) (w.setCell ⟨b, 1, none⟩ (.int .i64 q)) := by
  obtain ⟨h0, h1, h2, h3, h4, h5⟩ := h
  exact ⟨by rw [World.cell?_setCell_other _ _ _ _ (by simp)]; exact h0, by simpa using h1, by simpa using h2, World.cell?_setCell_same _ _ _ h3, by rw [World.cell?_setCell_other _ _ _ _ (by simp)]; exact h4, hq⟩
theorem Rd.no {b : Nat} {s : ByteArray} {p : Nat} {w : World} (h : Rd b s (.ok p) w) {k : Int} (hk : k ≠ 0) : Rd b s (.error k) (w.setCell ⟨b, 2, none⟩ (.int .i64 k)) := by
  obtain ⟨h0, h1, h2, h3, h4, h5⟩ := h
  exact ⟨by rw [World.cell?_setCell_other _ _ _ _ (by simp)]; exact h0, by simpa using h1, by simpa using h2, hk, World.cell?_setCell_same _ _ _ h4, p, by rw [World.cell?_setCell_other _ _ _ _ (by simp)]; exact h3, h5⟩

theorem i64_wrap_in (x : Nat) (h : x ≤ 9223372036854775807) : IntKind.i64.wrap (x : Int) = (x : Int) := by
  rw [IntKind.wrap_i64]; omega

theorem rdBytes_one (s : ByteArray) (p : Nat) (h : p < s.size) : rdBytes s 1 (.ok p) = (⟨[s[p]].toArray⟩, .ok (p + 1)) := by
  have : ¬ s.size - p < 1 := by omega
  simp only [rdBytes, if_neg this]
  congr 1
  apply ByteArray.ext
  rw [ByteArray.data_extract]
  apply Array.ext
  · simp; omega
  · intro i h1 h2
    have : i = 0 := by simpa using h2
    subst this
    simp; rfl

end Go.Proofs.YtocjjiacmedjmaaDoor
