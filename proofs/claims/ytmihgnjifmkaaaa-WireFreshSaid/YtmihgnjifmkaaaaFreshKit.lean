/- What WireFresh wants besides: readers of leaves in slice form, rows of numbers written over and grown. -/
import Derived.Test.YtmihgnjifmkaaaaWireUnProofWalk
import Derived.Test.YtmihgnjifmkaaaaWireLeavesWalk
import Derived.Test.YtmihgnjifmkaaaaOwns
import Derived.Test.YtmihgnjifmkaaaaWritten
set_option maxRecDepth 100000
namespace Go.Proofs.Ytmihgnjifmkaaaa
open Go Go.RowKit

/-- What a reader of leaves answers, in slice form. -/
def UnLx (r : List ByteArray × Int) (w : World) (e : Ending) (w' : World) : Prop :=
  ∃ ao c, e = .returned (.tuple #[.slice ao r.1.length c, .int .i64 r.2]) ∧ w'.ownsRow w.heap.size 9 1 (.slice ao r.1.length c) r.1.length (strs' r.1) ∧ Below w.heap.size w w'
theorem unLx_of {r : List ByteArray × Int} {w w' : World} {e : Ending} (h : ∃ v, e = .returned (.tuple #[v, .int .i64 r.2]) ∧ w'.ownsRow w.heap.size 9 1 v (strs' r.1).length (strs' r.1) ∧ Below w.heap.size w w') : UnLx r w e w' := by
  obtain ⟨v, h1, h2, h3⟩ := h
  rw [strs'_length] at h2
  obtain ⟨ao, c, rfl⟩ := own_val h2
  exact ⟨ao, c, h1, h2, h3⟩
theorem wire_UnLeaves' (s : ByteArray) (hs : s.size ≤ 140737488355328) (w : World) : Calls Try.prog 18 #[.string s] w (UnLx (unLeaves s) w) := (wire_UnLeaves s hs w).mono fun _ _ h => unLx_of h
theorem ref11_UnLeaves' (s : ByteArray) (hs : s.size ≤ 140737488355328) (w : World) : Calls Try.prog 19 #[.string s] w (UnLx (unLeaves s) w) := (ref11_UnLeaves s hs w).mono fun _ _ h => unLx_of h
theorem unLx_open {xs : List ByteArray} {er : Int} {w w' : World} {e : Ending} (h : UnLx (xs, er) w e w') :
    ∃ ao c, e = .returned (.tuple #[.slice ao xs.length c, .int .i64 er]) ∧ w'.ownsRow w.heap.size 9 1 (.slice ao xs.length c) xs.length (strs' xs) ∧ Below w.heap.size w w' := h
theorem ints_ones (xs : List Int) : ∀ u ∈ ints xs, u.oneCell' = true := by
  intro u hu
  obtain ⟨x, _, rfl⟩ := List.mem_map.1 hu
  rfl
theorem ints_set (xs : List Int) (i : Nat) (c : Int) : (ints xs).set i (.int .i64 c) = ints (xs.set i c) := by
  unfold ints; rw [List.map_set]
theorem set_frontI {i : Nat} (xs : List Int) (c : Int) (hi : i < xs.length) : (List.replicate i c ++ xs.drop i).set i c = List.replicate (i + 1) c ++ xs.drop (i + 1) := by
  apply List.ext_getElem
  · simp; omega
  · intro j h1 h2
    simp at h1
    rw [List.getElem_set]
    by_cases hj : i = j
    · subst hj
      rw [if_pos rfl, List.getElem_append_left (by simp), List.getElem_replicate]
    · rw [if_neg hj]
      by_cases hlt : j < i
      · rw [List.getElem_append_left (by simpa using hlt), List.getElem_append_left (by simp; omega), List.getElem_replicate, List.getElem_replicate]
      · rw [List.getElem_append_right (by simp; omega), List.getElem_append_right (by simp; omega), List.getElem_drop, List.getElem_drop]
        congr 1; simp; omega
theorem neg_more (n : Nat) : ints (List.replicate n (-1)) ++ [Value.int .i64 (-1)] = ints (List.replicate (n + 1) (-1)) := by
  rw [List.replicate_succ']; simp [ints]
end Go.Proofs.Ytmihgnjifmkaaaa
