/- A strings.Builder of the call's own, with the frame: what is neither it nor a row of bytes stays. -/
import Derived.Test.YtocjjiacmedjmaaLeaves
import Derived.Shelf.Strings.BuilderK
set_option maxRecDepth 100000
namespace Go.Proofs.Ytocjjiacmedjmaa
open Go Go.RowKit

/-- A strings.Builder of the call's own that holds these bytes. -/
def BldK (B b : Nat) (l : List UInt8) (w : World) : Prop := Lib.IsBuilderF 65 5 B b (Lib.byteCells l) w ∧ B ≤ w.heap.size
/-- Behind a write: what lay below B, and every block that is neither the builder's nor a row of bytes. -/
def KeptK (B b : Nat) (w w' : World) : Prop := Below B w w' ∧ Lib.OthersKept 5 (some b) w w'
theorem bldk_new (w : World) : BldK w.heap.size w.heap.size [] (w.alloc (.cells #[.pointer none, .slice none 0 0] 65)) :=
  ⟨Lib.IsBuilderF.of (Lib.fresh_isBuilder _ _ w), by simp⟩
theorem bldk_string (B b : Nat) (l : List UInt8) (s : ByteArray) (w : World) (h : BldK B b l w) (hlen : l.length + s.size ≤ 140737488355328) :
    Calls Try.prog 26 #[.pointer (some ⟨b, 0, none⟩), .string s] w fun e w' => e = .returned (.tuple #[.int .i64 s.size, .nilIface]) ∧ BldK B b (l ++ s.data.toList) w' ∧ KeptK B b w w' :=
  (Any.Builder_WriteString_k Try.lays166 Try.Builder_Extra_156 B b _ s w h.1 (by simpa [Lib.byteCells] using hlen) h.2).mono fun e w' ⟨he, hb, hbe, hk⟩ =>
    ⟨he, ⟨.inr (by
      have e : Lib.byteCells (l ++ s.data.toList) = Lib.byteCells l ++ Lib.strCells s := by simp [Lib.byteCells, Lib.strCells]
      rw [e]; exact hb), Nat.le_trans h.2 hbe.size⟩, hbe, hk⟩
theorem bldk_done (B b : Nat) (l : List UInt8) (w : World) (h : BldK B b l w) :
    Calls Try.prog 31 #[.pointer (some ⟨b, 0, none⟩)] w fun e w' => e = .returned (.string ⟨l.toArray⟩) ∧ Below B w w' :=
  (Any.Builder_String_any_k Try.lays169 Try.Builder_Extra_156 B b l w h.1 h.2).mono fun e w' h => ⟨h.1, h.2.2.1⟩
theorem bldk_below {B b : Nat} {l : List UInt8} {w w' : World} (h : BldK B b l w) (hb : Below w.heap.size w w') : BldK B b l w' := by
  refine ⟨?_, Nat.le_trans h.2 hb.size⟩
  have key : ∀ p, Lib.BuilderAtF 65 5 B b p (Lib.byteCells l) w → Lib.BuilderAtF 65 5 B b p (Lib.byteCells l) w' := by
    rintro p ⟨h1, v, h2, h3, h4⟩
    have hlt : b < w.heap.size := (Array.getElem?_eq_some_iff.1 h2).1
    refine ⟨h1, v, by rw [hb.block b hlt]; exact h2, ⟨h3.1, ?_⟩, h4⟩
    rcases h3.2 with h5 | ⟨g, cap, cur, fz, k1, k2, k3, k4⟩
    · exact .inl h5
    · exact .inr ⟨g, cap, cur, fz, k1, k2, by rw [hb.block g (Array.getElem?_eq_some_iff.1 k3).1]; exact k3, k4⟩
  exact h.1.imp (key _) (key _)
theorem bldk_lt {B b : Nat} {l : List UInt8} {w : World} (h : BldK B b l w) : b < w.heap.size := by
  rcases h.1 with ⟨_, v, h2, _⟩ | ⟨_, v, h2, _⟩ <;> exact (Array.getElem?_eq_some_iff.1 h2).1
theorem KeptK.of {B b : Nat} {w w' : World} (h : Below w.heap.size w w') (hB : B ≤ w.heap.size) : KeptK B b w w' :=
  ⟨h.mono hB, fun k o hk _ _ => by rw [h.block k (Array.getElem?_eq_some_iff.1 hk).1]; exact hk⟩
theorem KeptK.trans {B b : Nat} {w w' w2 : World} (h : KeptK B b w w') (k : KeptK B b w' w2) : KeptK B b w w2 := ⟨h.1.trans k.1, h.2.trans k.2⟩
theorem KeptK.refl (B b : Nat) (w : World) : KeptK B b w w := ⟨Below.refl _ _, Lib.OthersKept.refl _ _ _⟩
/-- A row that is no row of bytes is kept. -/
theorem KeptK.own {B b : Nat} {w w' : World} (h : KeptK B b w w') {lo n size : Nat} {e : TypeId} {v : Value} {xs : List Value} (ho : w.ownsRow lo e size v n xs) (he : e ≠ 5) (hb : ∀ k, v.ownBlock = some k → k ≠ b) : w'.ownsRow lo e size v n xs := by
  refine ⟨ho.1, ?_⟩
  rcases ho.2 with h1 | ⟨g, cap, cur, h1, h2, h3, h4⟩
  · exact .inl h1
  · refine .inr ⟨g, cap, cur, h1, h2, ?_, h4⟩
    exact h.2 g _ h3 (fun e2 => by
      have := hb g (by rw [h1]; rfl)
      exact this (Option.some.inj e2)) (fun c fz e2 => by
      simp only [Obj.cells.injEq] at e2
      exact he e2.2.1)
end Go.Proofs.Ytocjjiacmedjmaa
