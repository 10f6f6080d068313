/- tree.Fold and the reference's: a row of hashes folded from its end. -/
import Derived.Test.YtaaldkkfedinpaaDoorBackward
import Derived.Test.YtaaldkkfedinpaaDoorTree
import Derived.Test.YtaaldkkfedinpaaDoorSpan
set_option maxRecDepth 100000
namespace Go.Proofs.YtaaldkkfedinpaaDoor
open Go Go.RowKit
attribute [local go_sem] Oper.semAt_some

def foldS (k : Int) : List ByteArray → ByteArray
  | [] => emptyS k
  | [x] => x
  | x :: y :: r => nodeS k x (foldS k (y :: r))
theorem foldS_step (k : Int) (x : ByteArray) (l : List ByteArray) (h : l ≠ []) : foldS k (x :: l) = nodeS k x (foldS k l) := by
  cases l with
  | nil => exact absurd rfl h
  | cons y r => rfl
def rootL (k : Int) (last : ByteArray) (pre : List (Nat × Sm)) : ByteArray := pre.foldl (fun r x => nodeS k x.2.1 r) last
theorem rootL_snoc (k : Int) (last : ByteArray) (pre : List (Nat × Sm)) (x : Nat × Sm) : rootL k last (pre ++ [x]) = nodeS k x.2.1 (rootL k last pre) := by unfold rootL; rw [List.foldl_append]; rfl
theorem rootL_size (k : Int) (last : ByteArray) (pre : List (Nat × Sm)) : (rootL k last pre).size ≤ max last.size 32 := by
  rcases List.eq_nil_or_concat pre with rfl | ⟨l, x, rfl⟩
  · exact Nat.le_max_left _ _
  · rw [List.concat_eq_append, rootL_snoc, nodeS_size]
    exact Nat.le_trans (wid_le k).1 (Nat.le_max_right _ _)
/-- From the last on, round by round. -/
theorem rootL_fold (k : Int) (ys : List ByteArray) (hsm : ∀ x ∈ ys, x.size ≤ 1048576) (last : ByteArray) : ∀ j, j ≤ ys.length → rootL k last (backTo ys j) = foldS k (ys.drop (ys.length - j) ++ [last]) := by
  intro j
  induction j with
  | zero => intro _; rw [Nat.sub_zero, List.drop_length]; rfl
  | succ j ih =>
    intro hj
    have hlt : ys.length - 1 - j < ys.length := by omega
    have hd : ys.drop (ys.length - (j + 1)) = ys[ys.length - 1 - j] :: ys.drop (ys.length - j) := by
      have := List.drop_eq_getElem_cons hlt
      rw [show ys.length - (j + 1) = ys.length - 1 - j by omega, this]
      congr 2
      omega
    rw [backTo_succ, rootL_snoc, ih (by omega), hd, List.cons_append, foldS_step _ _ _ (by simp)]
    congr 1
    unfold backAt
    simp only
    rw [List.getElem?_eq_getElem hlt]
    exact congrArg Subtype.val (clip_of (hsm _ (List.getElem_mem hlt)))
theorem rootL_all (k : Int) (ys : List ByteArray) (hsm : ∀ x ∈ ys, x.size ≤ 1048576) (last : ByteArray) : rootL k last (backTo ys ys.length) = foldS k (ys ++ [last]) := by
  rw [rootL_fold k ys hsm last ys.length (Nat.le_refl _), Nat.sub_self, List.drop_zero]
theorem keeps_below {W W' : World} (h : Below W.heap.size W W') : KeepsOthers W W' := ⟨h.size, fun j o hj _ => (h.block j (Array.getElem?_eq_some_iff.1 hj).1).trans hj⟩
theorem boxed_below {W W' : World} {B : Nat} {t : TypeId} {v : Value} (b : Boxed W B t v) (h : Below W.heap.size W W') : Boxed W' B t v := (h.block B b.lt).trans b
set_option maxHeartbeats 1000000 in
theorem fold_in (n : Nat) (hn : 3 ≤ n) (k : Int) (b off cap : Nat) (ys : List ByteArray) (last : ByteArray) (hreach : ys.length ≤ 1000000) (hcap : ys.length + 1 ≤ cap) (w : World) (hg : GlobP w)
    (hc : ∀ j (h : j < (ys ++ [last]).length), w.cell? ⟨b, off + j, none⟩ = some (.string (ys ++ [last])[j])) (hsz : ∀ x ∈ ys ++ [last], x.size ≤ 1048576) :
    CallsIn Fence.wide n Tryd.prog 71 #[.int .i64 k, .slice (some ⟨b, off, none⟩) (ys.length + 1) cap] w fun e W' => e = .returned (.string (foldS k (ys ++ [last]))) ∧ Below w.heap.size w W' := by
  have h1 : 1 ≤ n := by omega
  have hb : b < w.heap.size := World.block_lt_of_cell? w _ (hc 0 (by simp))
  have hlast : w.cell? ⟨b, off + ys.length, none⟩ = some (.string last) := by
    have := hc ys.length (by simp)
    rw [List.getElem_append_right (Nat.le_refl _)] at this
    simpa using this
  have hys : ∀ j (h : j < ys.length), w.cell? ⟨b, off + j, none⟩ = some (.string ys[j]) := by
    intro j h
    have := hc j (by simp; omega)
    rwa [List.getElem_append_left h] at this
  have hl32 : last.size ≤ 1048576 := hsz last (by simp)
  have hy32 : ∀ x ∈ ys, x.size ≤ 1048576 := fun x hx => hsz x (List.mem_append_left _ hx)
  refine callsIn_of_wp_marks Tryd.func71 rfl trivial ?_ rfl
  simp only [Tryd.ntmps71, List.size_toArray, List.length_cons, List.length_nil, Nat.reduceAdd, Nat.reduceSub, Array.replicate_succ, Array.replicate_zero, List.push_toArray, List.append_toArray, List.nil_append, List.cons_append]
  have hlen0 : ¬ ((ys.length : Int) + 1 = 0) := by omega
  have hlen1 : (((ys.length : Int) + 1) == 0) = false := beq_eq_false_iff_ne.2 hlen0
  have hw0 : IntKind.i64.wrap ((ys.length : Int) + 1 - 1) = (ys.length : Int) := by rw [IntKind.wrap_i64]; omega
  have hcl : (w.alloc (.cells #[.int .i64 k] 3)).cell? ⟨b, off + ys.length, none⟩ = some (.string last) := (((Below.refl w.heap.size w).alloc (Nat.le_refl _) _).cell (p := ⟨b, off + ys.length, none⟩) hb).trans hlast
  have HC := hid hc
  have HYS := hid hys
  have HY := hid hy32
  have HG := hid hg
  clear hc hys hlast hy32 hg hsz
  obtain ⟨m, hm⟩ : ∃ m, m = ys.length := ⟨_, rfl⟩
  rw [← hm] at hlen1 hw0 hcl hreach hcap ⊢
  have HM := hid hm
  clear hlen0 hm
  gi_wp2_with (refine ⟨trivial, ?_⟩; gi_at_call 90; refine (back_in (n - 1) _ _ _ _).mono ?_; rintro e w' ⟨rfl, rfl⟩)
  have bK := ((Boxed.new w 3 (.int .i64 k)).alloc (.cells #[.string last] 9)).alloc (.cells #[.slice (some ⟨b, off, none⟩) m cap] 36)
  have bR := (Boxed.new (w.alloc (.cells #[.int .i64 k] 3)) 9 (.string last)).alloc (.cells #[.slice (some ⟨b, off, none⟩) m cap] 36)
  have bS := Boxed.new ((w.alloc (.cells #[.int .i64 k] 3)).alloc (.cells #[.string last] 9)) 36 (.slice (some ⟨b, off, none⟩) m cap)
  simp only [World.size_alloc] at bR bS
  have hB0 : Below w.heap.size w (((w.alloc (.cells #[.int .i64 k] 3)).alloc (.cells #[.string last] 9)).alloc (.cells #[.slice (some ⟨b, off, none⟩) m cap] 36)) := (((Below.refl _ w).alloc (Nat.le_refl _) _).alloc (by simp) _).alloc (by simp; omega) _
  have hsz : (((w.alloc (.cells #[.int .i64 k] 3)).alloc (.cells #[.string last] 9)).alloc (.cells #[.slice (some ⟨b, off, none⟩) m cap] 36)).heap.size = w.heap.size + 3 := by simp
  obtain ⟨W0, hW0⟩ : ∃ W0, ((w.alloc (.cells #[.int .i64 k] 3)).alloc (.cells #[.string last] 9)).alloc (.cells #[.slice (some ⟨b, off, none⟩) m cap] 36) = W0 := ⟨_, rfl⟩
  rw [hW0] at bK bR bS hB0 hsz ⊢
  clear hW0
  have hm := HM.out
  subst hm
  have hcW : ∀ j (h : j < ys.length), W0.cell? ⟨b, off + j, none⟩ = some (.string ys[j]) := fun j h => (hB0.cell (p := ⟨b, off + j, none⟩) hb).trans (HYS.out j h)
  refine wpIn_rangeFunc_ownF rfl h1 (gf := 118) (lb := #[.pointer (some ⟨w.heap.size + 1 + 1, 0, none⟩)]) rfl trivial (enters_of Tryd.func118 (by kernel_rfl) rfl)
    (back_stops (n - 1) (by omega) (w.heap.size + 1 + 1) w.heap.size b off cap ys (by omega) hb HY.out W0 (by omega) (by omega) bS.cell hcW) (fun h k => ⟨fun v hv => k.1 v (h.1 v hv), h.2.trans k.2⟩)
    (fun W l o o' hl ho hc _ => ⟨fun v hv => by rw [← hv]; exact World.cell?_of_block (World.putObj_heap_other (by show w.heap.size + 1 + 1 ≠ l; omega)), belowK_b (n₀ := w.heap.size) (w := W0) (by omega) W l o o' hl ho hc ‹_›⟩) (Below.refl _ _) (fun _ => rfl)
    (fun pre W => (Boxed W (w.heap.size + 1) 9 (.string (rootL k last pre)) ∧ Boxed W w.heap.size 3 (.int .i64 k)) ∧ Below w.heap.size w W)
    (fun _ _ _ => False)
    (OwnFrom.and (OwnFrom.and (Own.from (boxed_own _ _ (fun pre => .string (rootL k last pre))) _) (Own.from (boxed_own _ _ (fun _ => .int .i64 k)) _)) (ownFrom_below (Nat.le_refl _) (by omega)))
    (fun _ _ _ _ _ hs _ _ => hs)
    ⟨⟨bR, bK⟩, hB0⟩
    (fun x => { tmps := #[.int .i64 k, .slice (some ⟨b, off, none⟩) (ys.length + 1) cap, .pointer (some ⟨w.heap.size, 0, none⟩), undef, .string ⟨#[]⟩, .int .i64 ys.length, .pointer (some ⟨w.heap.size + 1, 0, none⟩), undef, .string x.2.1, .slice (some ⟨b, off, none⟩) (ys.length + 1) cap, .int .i64 ((ys.length : Int) + 1), .bool false, undef, undef, .slice (some ⟨b, off, none⟩) (ys.length + 1) cap, .int .i64 ((ys.length : Int) + 1), .int .i64 ys.length, .slice (some ⟨b, off, none⟩) (ys.length + 1) cap, .int .i64 ys.length, .pointer (some ⟨b, off + ys.length, none⟩), .string last, .slice (some ⟨b, off, none⟩) (ys.length + 1) cap, .int .i64 ys.length, .slice (some ⟨b, off, none⟩) ys.length cap, .func (.func 118) #[] #[.pointer (some ⟨w.heap.size + 1 + 1, 0, none⟩)], .int .i64 x.1, .string x.2.1, undef, undef, undef, undef, undef], defers := [] })
    ?assign ?body ?done ?stop
  case assign =>
    intro l x W K hK
    unfold backV
    gi_wp2
    exact hK
  case body =>
    rintro l pre x W ⟨⟨bR1, bK1⟩, hB1⟩ hlt
    have hc0 := bR1.cell
    have hc1 := bK1.cell
    have hrs := rootL_size k last pre
    have HN := hid (tree_Node k x.2.1 (rootL k last pre) (by have := x.2.2; omega) W (HG.out.below hB1))
    gi_wp2_with fail
    refine ⟨trivial, (fun h => by cases h), ?_⟩
    refine (CallsIn.inRound l (callsIn_wide.2 HN.out)).mono ?_
    rintro e w' ⟨rfl, hb'⟩
    have HBN := hid hb'
    have bR2 := boxed_below bR1 hb'
    have bK2 := boxed_below bK1 hb'
    have hc2 := bR2.cell
    have hf2 := bR2.frozen
    clear hb' hc0 hc1
    gi_wp2
    have hlt' : w.heap.size < w'.heap.size := bK2.lt
    refine ⟨(keeps_below HBN.out).trans (KeepsOthers.setCell _ _ _), ⟨fun v hv => ?_, ?_⟩, ⟨?_, ?_⟩, ?_⟩
    · rw [World.cell?_setCell_other _ _ _ _ (by simp)]
      exact (HBN.out.cell (World.block_lt_of_cell? _ _ hv)).trans hv
    · exact (HBN.out.mono hB1.size).trans ((Below.refl _ _).setCell (p := ⟨w.heap.size + 1, 0, none⟩) (by show w.heap.size ≤ w.heap.size + 1; omega) _)
    · rw [rootL_snoc]; exact bR2.set _
    · exact bK2.other (by omega) _
    · exact (Below.then' hB1 HBN.out).setCell (p := ⟨w.heap.size + 1, 0, none⟩) (by show w.heap.size ≤ w.heap.size + 1; omega) _
  case done =>
    rintro D zs W hD rfl ⟨⟨bR1, bK1⟩, hB1⟩ hK
    have hc0 := bR1.cell
    have hR := rootL_all k ys HY.out last
    gi_wp2
    refine ⟨by simp, .inl ⟨_, _, rfl, run_takeDeferred hK, ?_⟩⟩
    exact ⟨_, results_tmp rfl _ _ _, by rw [← hR]; rfl, hB1.trans (belowK_b (w := w) (Nat.le_refl _) W D _ _ (by omega) hK rfl rfl)⟩
  case stop =>
    rintro D c pre W _ _ h _
    exact h.elim
end Go.Proofs.YtaaldkkfedinpaaDoor
