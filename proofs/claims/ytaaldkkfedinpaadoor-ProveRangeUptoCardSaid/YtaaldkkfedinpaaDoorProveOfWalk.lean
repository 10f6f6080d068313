/- Walk of the law ProveOf. -/
import Derived.Test.YtaaldkkfedinpaaDoorRefOf
import Derived.Laws.EntriesVeiled
import Derived.Laws.ResultCell
set_option maxRecDepth 100000
namespace Go.Proofs.YtaaldkkfedinpaaDoor
open Go Go.RowKit

theorem info_str : (Tryd.prog.info? 9).map (fun i => (i.zero, i.size, i.bytes)) = some (some (.string ⟨#[]⟩), 1, 16) := by kernel_rfl
theorem strs'_one (xs : List ByteArray) : ∀ u ∈ strs' xs, u.oneCell' = true := by
  intro u hu
  unfold strs' at hu
  obtain ⟨x, _, rfl⟩ := List.mem_map.1 hu
  rfl
theorem nil_yes (w : World) : Sem.run Tryd.prog (binOp BinOp.eql 36 (.slice none 0 0) (.slice none 0 0)) w = .ok (.bool true) w := by kernel_rfl
theorem nil_no (p : Addr) (n c : Nat) (w : World) : Sem.run Tryd.prog (binOp BinOp.eql 36 (.slice (some p) n c) (.slice none 0 0)) w = .ok (.bool false) w := by
  rfl
theorem results_cell1 {fn : Func} {p : Tmp} {ty : TypeId} (h : fn.results = #[.cell p ty]) (tmps : Array Value) (P : Program) (w : World) :
    (results fn tmps).run P w = ((asAddr (tmps.getD p undef)).run P w).andThen fun a w₁ => (loadVar ty a).run P w₁ := by
  simp only [results, h]
  simp [Sem.run_bind, Result.andThen]
theorem set3_far (W : World) {B q : Nat} (h : q ≠ B) (i : Nat) (a b c : Value) : (((W.setCell ⟨B, 0, none⟩ a).setCell ⟨B, 1, none⟩ b).setCell ⟨B, 2, none⟩ c).cell? ⟨q, i, none⟩ = W.cell? ⟨q, i, none⟩ := by
  have hn : ∀ j, (⟨B, j, none⟩ : Addr) ≠ ⟨q, i, none⟩ := fun j e => h (by cases e; rfl)
  rw [World.cell?_setCell_other _ _ _ _ (hn 2), World.cell?_setCell_other _ _ _ _ (hn 1), World.cell?_setCell_other _ _ _ _ (hn 0)]
theorem own_base {B B' : Nat} {e : TypeId} {v : Value} {n : Nat} {xs : List Value} {w : World} (h : w.ownsRow B e 1 v n xs) (hB : B' ≤ B) : w.ownsRow B' e 1 v n xs := by
  refine ⟨h.1, ?_⟩
  rcases h.2 with h | ⟨g, cap, cur, h1, h2, h3⟩
  · exact .inl h
  · exact .inr ⟨g, cap, cur, h1, by omega, h3⟩
end Go.Proofs.YtaaldkkfedinpaaDoor
