/- Rows and boxes of any kind that the call made: each in a block of its own. And a row that grows, its cells known. -/
import Derived.Test.YtocjjiacmedjmaaHeld
import Derived.Test.YtocjjiacmedjmaaProof
set_option maxRecDepth 100000
namespace Go.Proofs.Ytocjjiacmedjmaa
open Go Go.RowKit

structure OwnR where
  e : TypeId
  size : Nat
  v : Value
  n : Nat
  xs : List Value
def OwnR.Off (a b : OwnR) : Prop := ∀ k, a.v.ownBlock = some k → b.v.ownBlock ≠ some k
/-- All these rows, made since w0, the newest first; and nothing of w0 is changed. -/
structure Owns (w0 w : World) (l : List OwnR) : Prop where
  each : ∀ r ∈ l, w.ownsRow w0.heap.size r.e r.size r.v r.n r.xs
  apart : l.Pairwise OwnR.Off
  bel : Below w0.heap.size w0 w
theorem own_keep {w w' : World} {lo size n : Nat} {e : TypeId} {v : Value} {ys : List Value} (h : w.ownsRow lo e size v n ys) (hb : Below w.heap.size w w') : w'.ownsRow lo e size v n ys :=
  h.kept (grownBy_of_below hb none) (by cases v.ownBlock <;> simp)
theorem own_type {w : World} {lo size n k : Nat} {e : TypeId} {v : Value} {ys : List Value} (h : w.ownsRow lo e size v n ys) (hk : v.ownBlock = some k) : ∃ cur, w.heap[k]? = some (.cells cur e (0, 0)) := by
  rcases h.2 with ⟨rfl, _⟩ | ⟨g, cap, cur, rfl, _, hg, _⟩
  · simp [Value.ownBlock] at hk
  · simp [Value.ownBlock] at hk; subst hk; exact ⟨cur, hg⟩
theorem own_at {w : World} {lo n cap : Nat} {e : TypeId} {size : Nat} {ao : Option Addr} {xs : List Value} (h : w.ownsRow lo e size (.slice ao n cap) n xs) : RowAt w ao xs := (Held.new h).rowAt
theorem Owns.nil (w : World) : Owns w w [] := ⟨(fun _ h => by cases h), List.Pairwise.nil, Below.refl _ _⟩
section
variable {w0 w w' : World} {l : List OwnR}
theorem Owns.below (h : Owns w0 w l) (hb : Below w.heap.size w w') : Owns w0 w' l := ⟨fun r hr => own_keep (h.each r hr) hb, h.apart, Below.then h.bel h.bel.size hb⟩
theorem Owns.push (h : Owns w0 w l) (hb : Below w.heap.size w w') {e : TypeId} {size n : Nat} {v : Value} {xs : List Value} (ho : w'.ownsRow w.heap.size e size v n xs) :
    Owns w0 w' (⟨e, size, v, n, xs⟩ :: l) := by
  refine ⟨fun r hr => ?_, List.Pairwise.cons (fun r hr k hk hk2 => ?_) h.apart, Below.then h.bel h.bel.size hb⟩
  · rcases List.mem_cons.1 hr with rfl | hr
    · exact own_lower ho h.bel.size
    · exact own_keep (h.each r hr) hb
  · have h1 := (ho.lt k hk).1
    have h2 := ((h.each r hr).lt k hk2).2
    omega
theorem Owns.push2 (h : Owns w0 w l) (hb : Below w.heap.size w w') {e e2 : TypeId} {size n size2 n2 : Nat} {v v2 : Value} {xs xs2 : List Value} (ho : w'.ownsRow w.heap.size e size v n xs) (ho2 : w'.ownsRow w.heap.size e2 size2 v2 n2 xs2) (he : e ≠ e2) :
    Owns w0 w' (⟨e2, size2, v2, n2, xs2⟩ :: ⟨e, size, v, n, xs⟩ :: l) := by
  have hp := h.push hb ho
  refine ⟨fun r hr => ?_, List.Pairwise.cons (fun r hr k hk hk2 => ?_) hp.apart, hp.bel⟩
  · rcases List.mem_cons.1 hr with rfl | hr
    · exact own_lower ho2 h.bel.size
    · exact hp.each r hr
  · rcases List.mem_cons.1 hr with rfl | hr
    · obtain ⟨c1, h1⟩ := own_type ho hk2
      obtain ⟨c2, h2⟩ := own_type ho2 hk
      rw [h1] at h2
      simp at h2
      exact he h2.2
    · have h1 := (ho2.lt k hk).1
      have h2 := ((h.each r hr).lt k hk2).2
      omega
/-- A box of seven cells, as a row of one. -/
def boxR (p : Nat) (e : TypeId) (cs : List Value) : OwnR := ⟨e, 7, .slice (some ⟨p, 0, none⟩) 1 1, 1, cs⟩
theorem Owns.box (h : Owns w0 w l) (e : TypeId) (k wd a b n at_ hs : Value) : Owns w0 (w.alloc (.cells #[k, wd, a, b, n, at_, hs] e)) (boxR w.heap.size e [k, wd, a, b, n, at_, hs] :: l) :=
  h.push ((Below.refl _ _).alloc (Nat.le_refl _) _) ⟨rfl, .inr ⟨w.heap.size, 1, #[k, wd, a, b, n, at_, hs], rfl, Nat.le_refl _, heap_alloc_new w _, Nat.le_refl _, by unfold maxLen; omega, rfl, rfl⟩⟩
theorem Owns.get (h : Owns w0 w l) (i : Nat) {r : OwnR} (hi : l[i]? = some r) : w.ownsRow w0.heap.size r.e r.size r.v r.n r.xs := h.each r (List.mem_of_getElem? hi)
theorem box_cell {lo p : Nat} {e : TypeId} {cs : List Value} (h : w.ownsRow lo e 7 (.slice (some ⟨p, 0, none⟩) 1 1) 1 cs) (i : Nat) (v : Value) (hi : cs[i]? = some v) : w.cell? ⟨p, i, none⟩ = some v := by
  have := h.cells (g := p) rfl i v hi
  have ha : (⟨p, 0, none⟩ : Addr).add i = ⟨p, i, none⟩ := by unfold Addr.add; split <;> simp_all
  rwa [ha] at this
/-- The cells of a box. -/
theorem Owns.seven (h : Owns w0 w l) (i : Nat) {p : Nat} {e : TypeId} {k wd a b n at_ hs : Value} (hi : l[i]? = some (boxR p e [k, wd, a, b, n, at_, hs])) :
    w.cell? ⟨p, 0, none⟩ = some k ∧ w.cell? ⟨p, 1, none⟩ = some wd ∧ w.cell? ⟨p, 2, none⟩ = some a ∧ w.cell? ⟨p, 3, none⟩ = some b ∧ w.cell? ⟨p, 4, none⟩ = some n ∧ w.cell? ⟨p, 5, none⟩ = some at_ ∧ w.cell? ⟨p, 6, none⟩ = some hs := by
  have g := h.get i hi
  exact ⟨box_cell g 0 _ rfl, box_cell g 1 _ rfl, box_cell g 2 _ rfl, box_cell g 3 _ rfl, box_cell g 4 _ rfl, box_cell g 5 _ rfl, box_cell g 6 _ rfl⟩
/-- Row i is written over in its own block, and nothing else is. -/
theorem Owns.write (h : Owns w0 w l) (i : Nat) {r : OwnR} (hi : l[i]? = some r) {xs : List Value} (hn : w'.ownsRow w0.heap.size r.e r.size r.v r.n xs) (hg : w.grownBy w' r.v.ownBlock) :
    Owns w0 w' (l.set i { r with xs := xs }) := by
  obtain ⟨hil, hir⟩ := List.getElem?_eq_some_iff.1 hi
  have hap := List.pairwise_iff_getElem.1 h.apart
  have hget : ∀ j (hj : j < l.length), (l.set i { r with xs := xs })[j]'(by simpa using hj) = if i = j then { r with xs := xs } else l[j] := fun j hj => by rw [List.getElem_set]
  have hv : ∀ j (hj : j < l.length), ((l.set i { r with xs := xs })[j]'(by simpa using hj)).v = l[j].v := fun j hj => by
    rw [hget j hj]
    by_cases e : i = j
    · subst e; simp [hir]
    · simp [e]
  refine ⟨fun q hq => ?_, List.pairwise_iff_getElem.2 (fun a b ha hb hab => ?_), h.bel.trans (below_of_grown hg h.bel.size (fun k hk => ((h.get i hi).lt k hk).1))⟩
  · obtain ⟨j, hj, rfl⟩ := List.getElem_of_mem hq
    have hj' : j < l.length := by simpa using hj
    rw [hget j hj']
    by_cases e : i = j
    · subst e; rw [if_pos rfl]; exact hn
    · rw [if_neg e]
      have h1 := h.each l[j] (List.getElem_mem hj')
      refine World.ownsRow.kept h1 hg ?_
      cases hb : l[j].v.ownBlock with
      | none => exact .inl rfl
      | some k =>
        refine .inr (fun e2 => ?_)
        rcases Nat.lt_or_ge i j with hlt | hge
        · exact hap i j hil hj' hlt k (by rw [hir]; exact e2.symm) hb
        · exact hap j i hj' hil (by omega) k hb (by rw [hir]; exact e2.symm)
  · have ha' : a < l.length := by simpa using ha
    have hb' : b < l.length := by simpa using hb
    unfold OwnR.Off
    rw [hv a ha', hv b hb']
    exact hap a b ha' hb' hab
end
/-- What was said of a row with a bound above, without it. -/
theorem wr_own {lo hi : Nat} {e : TypeId} {size n : Nat} {v r : Value} {xs : List Value} {w w' : World} {en : Ending} (h : WrPost lo hi e size v n xs r w en w') : en = .returned r ∧ w'.ownsRow lo e size v n xs ∧ w.grownBy w' v.ownBlock :=
  ⟨h.1, h.2.1.own, h.2.2⟩
/-- Behind a call that read a proof, and the box that the answer is laid in. -/
theorem Owns.proof {w0 w w1 : World} {l : List OwnR} (h : Owns w0 w l) {k wd a b n : Nat} {xs : List Int} {zs : List ByteArray} {ao ho : Option Addr} {c d : Nat}
    (ox : w1.ownsRow w.heap.size 3 1 (.slice ao xs.length c) xs.length (ints xs)) (oz : w1.ownsRow w.heap.size 9 1 (.slice ho zs.length d) zs.length (strs' zs)) (b1 : Below w.heap.size w w1) :
    ∃ W, w1.alloc (.cells #[.int .i64 k, .int .i64 wd, .int .i64 a, .int .i64 b, .int .i64 n, .slice ao xs.length c, .slice ho zs.length d] 25) = W ∧
      Owns w0 W (boxR w1.heap.size 25 [.int .i64 k, .int .i64 wd, .int .i64 a, .int .i64 b, .int .i64 n, .slice ao xs.length c, .slice ho zs.length d] :: ⟨9, 1, .slice ho zs.length d, zs.length, strs' zs⟩ :: ⟨3, 1, .slice ao xs.length c, xs.length, ints xs⟩ :: l) :=
  ⟨_, rfl, (h.push2 b1 ox oz (by decide)).box _ _ _ _ _ _ _ _⟩

/-- v0 is as it was, v the row that it grew into, ys its cells. -/
structure GrewX (w0 : World) (lo : Nat) (e : TypeId) (size : Nat) (v0 : Value) (n0 : Nat) (xs0 : List Value) (v : Value) (m : Nat) (ys : List Value) (w : World) : Prop where
  own0 : w.ownsRow lo e size v0 n0 xs0
  kept : w0.grownBy w v0.ownBlock
  lt0 : ∀ k, v0.ownBlock = some k → k < w0.heap.size
  own : w.ownsRow lo e size v m ys ∧ ((∃ g cap zs, v0 = .slice (some ⟨g, 0, none⟩) n0 cap ∧ v = .slice (some ⟨g, 0, none⟩) m cap ∧ ys = xs0 ++ zs) ∨ ∀ k, v.ownBlock = some k → w0.heap.size ≤ k)
theorem GrewX.start {w : World} {lo : Nat} {e : TypeId} {size : Nat} {v : Value} {n : Nat} {xs : List Value} (h : w.ownsRow lo e size v n xs) : GrewX w lo e size v n xs v n xs w := by
  refine ⟨h, grownBy_id _ _, fun k hk => (h.lt k hk).2, h, ?_⟩
  rcases h.2 with ⟨rfl, _⟩ | ⟨g, cap, cur, rfl, _⟩
  · exact .inr (fun k hk => by simp [Value.ownBlock] at hk)
  · exact .inl ⟨g, cap, [], rfl, rfl, by simp⟩
section
variable {P : Program}
variable {ops : Array Oper} {rest : List Oper} {o : Oper} {a : Act} {Q : Exit → Act → World → Prop}
/-- v = append(v, y), v such a row, its cells known: behind 'at_builtin'. -/
theorem wp_append_grewX {w0 W : World} (lo : Nat) (hgd : o.guard = none) (s x : Operand) (t e : TypeId) (z : Value) (size bytes : Nat)
    (ho : o.op = .call { callee := .builtin .append, args := #[s, x], argTypes := #[t, t] })
    (ht : P.underlying t = some (.slice e)) (hinfo : (P.info? e).map (fun i => (i.zero, i.size, i.bytes)) = some (some z, size, bytes)) (hz : z.cells.size = size) (hs0 : 0 < size) (hb0 : 0 < bytes)
    (v0 : Value) (n0 : Nat) (xs0 : List Value) (v : Value) (n : Nat) (xs ys : List Value) (hs : a.eval s = v) (H : Nat) (hH : W.heap.size = H) (hx : a.eval x = .slice (some ⟨H, 0, none⟩) 1 1) (hys : ys.length = size) (h1 : ∀ u ∈ ys, u.oneCell' = true)
    (HM : GrewX w0 lo e size v0 n0 xs0 v n xs W) (hn : n0 ≤ n) (hlo : lo ≤ w0.heap.size) (hl : (n + 1) * bytes ≤ 140737488355328)
    (h : ∀ g cap w1, GrewX w0 lo e size v0 n0 xs0 (.slice (some ⟨g, 0, none⟩) (n + 1) cap) (n + 1) (xs ++ ys) w1 → wpList P ops Q rest (a.put o.dst (.slice (some ⟨g, 0, none⟩) (n + 1) cap)) w1) :
    wpList P ops Q (o :: rest) a (W.alloc (.cells ys.toArray e)) := by
  subst hH
  obtain ⟨i0, hi, hz0, hz1, hz2⟩ := info_parts hinfo
  obtain ⟨HO, hcase⟩ := HM.own
  have hlen : n + 1 ≤ 140737488355328 := Nat.le_trans (Nat.le_mul_of_pos_right _ hb0) hl
  have hsz : w0.heap.size ≤ W.heap.size := HM.kept.size
  have hsA : (W.alloc (.cells ys.toArray e)).heap.size = W.heap.size + 1 := by simp
  refine wpList_plain hgd fun K hK' => ?_
  obtain ⟨g, cap, w1, hrun, hown, hc⟩ := run_append_keep (P := P) (W.alloc (.cells ys.toArray e)) t o.type lo e i0 z size bytes ht hi hz0 hz1 hz2 hz hs0 v n xs (HO.alloc _) ⟨W.heap.size, 0, none⟩ 1 1 ys (by omega)
    news_alloc h1 (by omega) (by unfold maxLen; omega) hl (by rw [hsA]; omega)
  unfold Oper.wp
  simp [execOp, ho, resolve, invoke, builtin, hs, hx, hrun, Result.andThen]
  refine hK' _ _ (h g cap w1 ?_)
  have hA : w0.grownBy (W.alloc (.cells ys.toArray e)) v0.ownBlock := grownBy_two HM.kept (World.grownBy_alloc W _ _)
  have hO0 : (W.alloc (.cells ys.toArray e)).ownsRow lo e size v0 n0 xs0 := HM.own0.alloc _
  rcases hc with ⟨rfl, hg⟩ | ⟨hge, hg⟩
  · rcases hcase with ⟨g', cap', zs, hv0, hv, rfl⟩ | hnew
    · simp only [Value.slice.injEq, Option.some.injEq, Addr.mk.injEq, and_true, true_and] at hv
      obtain ⟨rfl, rfl⟩ := hv
      rw [List.append_assoc] at hown
      have hl0 := HM.own0.1
      refine ⟨?_, grownBy_two hA (by rw [hv0]; exact hg), HM.lt0, by rw [List.append_assoc]; exact hown, .inl ⟨g, cap, zs ++ ys, hv0, rfl, by rw [List.append_assoc]⟩⟩
      rw [hv0]
      exact own_prefix hown hl0 (by omega)
    · have hgn := hnew g rfl
      refine ⟨hO0.kept hg ?_, grownBy_new hA hg hgn, HM.lt0, hown, .inr (fun k hk => by cases hk; exact hgn)⟩
      cases hv : v0.ownBlock with
      | none => exact .inl rfl
      | some k => exact .inr (fun e => by cases e; have := HM.lt0 g hv; omega)
  · have hge2 : w0.heap.size ≤ g := by rw [hsA] at hge; omega
    exact ⟨hO0.kept hg (by cases v0.ownBlock <;> simp), grownBy_two hA (grownBy_some hg), HM.lt0, hown, .inr (fun k hk => by cases hk; exact hge2)⟩
end
end Go.Proofs.Ytocjjiacmedjmaa
