/- Walks of wire.UnLeaves and of the reference's. -/
import Derived.Test.YtocjjiacmedjmaaDoorRd
import Derived.Test.YtocjjiacmedjmaaDoorArgs
import Derived.Deep.RegionLaw
import Derived.Deep.AppendLies
set_option maxRecDepth 100000
namespace Go.Proofs.YtocjjiacmedjmaaDoor
open Go Go.RowKit

section
variable {P : Program} {ops : Array Oper} {o : Oper} {a : Act} {K : Act → World → Prop} {Q : Exit → Act → World → Prop} {E : Prop}
/-- v = append(v, y), v a row of the call's own: at a step of a region that draws. -/
theorem step_append1 {W : World} (base : Nat) (hgd : o.guard = none) (s x : Operand) (t e : TypeId) (z : Value) (bytes : Nat)
    (ho : o.op = .call { callee := .builtin .append, args := #[s, x], argTypes := #[t, t] })
    (ht : P.underlying t = some (.slice e)) (hinfo : (P.info? e).map (fun i => (i.zero, i.size, i.bytes)) = some (some z, 1, bytes)) (hz : z.cells.size = 1) (hb0 : 0 < bytes)
    (v : Value) (xs : List Value) (y : Value) (hs : a.eval s = v) (hx : a.eval x = .slice (some ⟨W.heap.size, 0, none⟩) 1 1) (h1 : y.oneCell' = true)
    (HO : W.ownsRow base e 1 v xs.length xs) (hbase : base ≤ W.heap.size) (hl : (xs.length + 1) * bytes ≤ 140737488355328)
    (h : ∀ g cap w1, w1.ownsRow base e 1 (.slice (some ⟨g, 0, none⟩) (xs.length + 1) cap) (xs ++ [y]).length (xs ++ [y]) → Below base W w1 → K (a.put o.dst (.slice (some ⟨g, 0, none⟩) (xs.length + 1) cap)) w1) :
    if Region.wanted o (yielded ops a.tmps) = true then Oper.wp P o a (W.alloc (.cells #[y] e)) K Q else E := by
  obtain ⟨i0, hi, hz0, hz1, hz2⟩ := info_parts hinfo
  have hlen : xs.length + 1 ≤ 140737488355328 := Nat.le_trans (Nat.le_mul_of_pos_right _ hb0) hl
  refine step_append_lies (W.alloc (.cells #[y] e)) hgd s x t ho base e i0 z 1 bytes ht hi hz0 hz1 hz2 hz (by omega) v xs.length xs hs (HO.alloc _) ⟨W.heap.size, 0, none⟩ 1 1 [y] hx rfl
    ?_ (by simpa using h1) (by omega) (by unfold maxLen; omega) hl (by simp; omega) _ rfl ?_
  · intro j u hj
    match j, hj with
    | 0, hj => simp at hj; subst hj; simp [Addr.add, go_sem]
  · intro g cap w1 hown hg _ _
    refine h g cap w1 (by simpa using hown) ?_
    refine ((Below.refl base W).alloc hbase _).grown hg (by simp; omega) ?_
    intro k hk
    exact (HO.lt k hk).1
end

/-- Leaves read, at most n more. -/
def rdLeaves (s : ByteArray) : Nat → St → List ByteArray → List ByteArray × St
  | 0, st, acc => (acc, st)
  | n + 1, st, acc => match st with
    | .error k => (acc, .error k)
    | .ok p => rdLeaves s n (rdBytes s (rdNum s 4096 121 (.ok p)).1 (rdNum s 4096 121 (.ok p)).2).2 (acc ++ [(rdBytes s (rdNum s 4096 121 (.ok p)).1 (rdNum s 4096 121 (.ok p)).2).1])
def unLeavesSt (s : ByteArray) : List ByteArray × St := rdLeaves s (rdNum s 1024 83 (rdMark s 76 (.ok 0))).1 (rdNum s 1024 83 (rdMark s 76 (.ok 0))).2 []
/-- The leaves read, and the refusal. -/
def unLeaves (s : ByteArray) : List ByteArray × Int := if rdEnd s (unLeavesSt s).2 = 0 then ((unLeavesSt s).1, 0) else ([], rdEnd s (unLeavesSt s).2)

theorem Rd.upto {b B : Nat} {s : ByteArray} {st : St} {w w' : World} (h : Rd b s st w) (hb : Below B w w') (hl : b < B) : Rd b s st w' := by
  have hc : ∀ i, w'.cell? ⟨b, i, none⟩ = w.cell? ⟨b, i, none⟩ := fun _ => hb.cell hl
  have hf : ∀ i, w'.frozen? ⟨b, i, none⟩ = w.frozen? ⟨b, i, none⟩ := fun _ => hb.frozen hl
  unfold Rd at h ⊢
  rw [hc, hf, hf]
  refine ⟨h.1, h.2.1, h.2.2.1, ?_⟩
  have h4 := h.2.2.2
  cases st <;> simpa only [hc] using h4
theorem Rd.far {b : Nat} {s : ByteArray} {st : St} {w : World} (h : Rd b s st w) {i : Nat} (hi : 3 ≤ i) (v : Value) : Rd b s st (w.setCell ⟨b, i, none⟩ v) := by
  have hc : ∀ j, j < 3 → (w.setCell ⟨b, i, none⟩ v).cell? ⟨b, j, none⟩ = w.cell? ⟨b, j, none⟩ := fun j hj => World.cell?_setCell_other _ _ _ _ (by intro e; cases e; omega)
  unfold Rd at h ⊢
  rw [hc 0 (by decide)]
  refine ⟨h.1, by simpa using h.2.1, by simpa using h.2.2.1, ?_⟩
  have h4 := h.2.2.2
  cases st <;> simpa only [hc 1 (by decide), hc 2 (by decide)] using h4

theorem rdLeaves_no (s : ByteArray) (n : Nat) (k : Int) (acc : List ByteArray) : rdLeaves s n (.error k) acc = (acc, .error k) := by
  cases n <;> rfl
theorem rdLeaves_step (s : ByteArray) (n : Nat) (p : Nat) (acc : List ByteArray) : rdLeaves s (n + 1) (.ok p) acc =
    rdLeaves s n (rdBytes s (rdNum s 4096 121 (.ok p)).1 (rdNum s 4096 121 (.ok p)).2).2 (acc ++ [(rdBytes s (rdNum s 4096 121 (.ok p)).1 (rdNum s 4096 121 (.ok p)).2).1]) := rfl
theorem rdLeaves_step' (s : ByteArray) (m n : Nat) (p : Nat) (acc : List ByteArray) (h : m = n + 1) : rdLeaves s m (.ok p) acc =
    rdLeaves s n (rdBytes s (rdNum s 4096 121 (.ok p)).1 (rdNum s 4096 121 (.ok p)).2).2 (acc ++ [(rdBytes s (rdNum s 4096 121 (.ok p)).1 (rdNum s 4096 121 (.ok p)).2).1]) := by subst h; rfl
theorem own_mono {B B' : Nat} {e : TypeId} {v : Value} {n : Nat} {xs : List Value} {w : World} (h : w.ownsRow B e 1 v n xs) (hB : B' ≤ B) : w.ownsRow B' e 1 v n xs := by
  refine ⟨h.1, ?_⟩
  rcases h.2 with h | ⟨g, cap, cur, h1, h2, h3⟩
  · exact .inl h
  · exact .inr ⟨g, cap, cur, h1, by omega, h3⟩
theorem info_string : (Tryd.prog.info? 9).map (fun i => (i.zero, i.size, i.bytes)) = some (some (.string ⟨#[]⟩), 1, 16) := by kernel_rfl
theorem own_only {B b : Nat} {e : TypeId} {v : Value} {n : Nat} {xs : List Value} {w w' : World} (h : w.ownsRow B e 1 v n xs) (hb : Only b w w') (hlt : b < B) : w'.ownsRow B e 1 v n xs := by
  refine h.kept (row := some b) ⟨hb.os, hb.tape, hb.output, hb.size, fun k hk hne => hb.block k (fun e => hne (by rw [e])) hk⟩ ?_
  rcases h.2 with ⟨rfl, _⟩ | ⟨g, cap, cur, rfl, hg, _⟩
  · simp [Value.ownBlock]
  · simp [Value.ownBlock]; omega

end Go.Proofs.YtocjjiacmedjmaaDoor
