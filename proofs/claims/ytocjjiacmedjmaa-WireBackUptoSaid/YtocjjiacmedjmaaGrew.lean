/- A row of the call's own that grows into another one beside it: the old one stays as it was. -/
import Derived.Test.YtocjjiacmedjmaaOwnS
import Derived.ArgAppend
import Derived.Laws.OwnMore
set_option maxRecDepth 100000
namespace Go.Proofs.Ytocjjiacmedjmaa
open Go Go.RowKit

theorem own_lower {B B' : Nat} {e : TypeId} {size : Nat} {v : Value} {n : Nat} {xs : List Value} {w : World} (h : w.ownsRow B e size v n xs) (hB : B' ≤ B) : w.ownsRow B' e size v n xs := by
  refine ⟨h.1, ?_⟩
  rcases h.2 with h | ⟨g, cap, cur, h1, h2, h3⟩
  · exact .inl h
  · exact .inr ⟨g, cap, cur, h1, by omega, h3⟩
theorem grownBy_id (w : World) (r : Option Nat) : w.grownBy w r := ⟨rfl, rfl, rfl, Nat.le_refl _, fun _ _ _ => rfl⟩
theorem grownBy_two {a b c : World} {r : Option Nat} (h : a.grownBy b r) (k : b.grownBy c r) : a.grownBy c r :=
  ⟨k.os.trans h.os, k.tape.trans h.tape, k.output.trans h.output, Nat.le_trans h.size k.size, fun i hi hne => (k.block i (Nat.lt_of_lt_of_le hi h.size) hne).trans (h.block i hi hne)⟩
theorem grownBy_some {a b : World} {r : Option Nat} (h : a.grownBy b none) : a.grownBy b r := ⟨h.os, h.tape, h.output, h.size, fun i hi _ => h.block i hi (by simp)⟩
theorem grownBy_new {a b c : World} {r : Option Nat} {g : Nat} (h : a.grownBy b r) (k : b.grownBy c (some g)) (hg : a.heap.size ≤ g) : a.grownBy c r :=
  ⟨k.os.trans h.os, k.tape.trans h.tape, k.output.trans h.output, Nat.le_trans h.size k.size, fun i hi hne => (k.block i (Nat.lt_of_lt_of_le hi h.size) (fun e => by cases e; omega)).trans (h.block i hi hne)⟩
theorem below_of_grown {a b : World} {r : Option Nat} {B : Nat} (h : a.grownBy b r) (hB : B ≤ a.heap.size) (hr : ∀ k, r = some k → B ≤ k) : Below B a b := (Below.refl B a).grown h hB hr
theorem grownBy_of_below {a b : World} (h : Below a.heap.size a b) (r : Option Nat) : a.grownBy b r := ⟨h.os, h.tape, h.output, h.size, fun k hk _ => h.block k hk⟩

/-- v0 is as it was, v the row that it grew into. -/
structure Grew (w0 : World) (lo : Nat) (e : TypeId) (size : Nat) (v0 : Value) (n0 : Nat) (xs0 : List Value) (v : Value) (m : Nat) (w : World) : Prop where
  own0 : w.ownsRow lo e size v0 n0 xs0
  kept : w0.grownBy w v0.ownBlock
  lt0 : ∀ k, v0.ownBlock = some k → k < w0.heap.size
  own : ∃ ys, w.ownsRow lo e size v m ys ∧ ((∃ g cap zs, v0 = .slice (some ⟨g, 0, none⟩) n0 cap ∧ v = .slice (some ⟨g, 0, none⟩) m cap ∧ ys = xs0 ++ zs) ∨ ∀ k, v.ownBlock = some k → w0.heap.size ≤ k)
theorem Grew.start {w : World} {lo : Nat} {e : TypeId} {size : Nat} {v : Value} {n : Nat} {xs : List Value} (h : w.ownsRow lo e size v n xs) : Grew w lo e size v n xs v n w := by
  refine ⟨h, grownBy_id _ _, fun k hk => (h.lt k hk).2, xs, h, ?_⟩
  rcases h.2 with ⟨rfl, _⟩ | ⟨g, cap, cur, rfl, _⟩
  · exact .inr (fun k hk => by simp [Value.ownBlock] at hk)
  · exact .inl ⟨g, cap, [], rfl, rfl, by simp⟩
theorem own_prefix {w : World} {lo : Nat} {e : TypeId} {size : Nat} {g cap n m : Nat} {xs zs : List Value} (h : w.ownsRow lo e size (.slice (some ⟨g, 0, none⟩) m cap) m (xs ++ zs)) (hx : xs.length = n * size) (hn : n ≤ m) :
    w.ownsRow lo e size (.slice (some ⟨g, 0, none⟩) n cap) n xs := by
  rcases h.2 with ⟨h', _⟩ | ⟨g', cap', cur, h', hb, hg, hnc, hcm, hcs, htake⟩
  · simp at h'
  · simp only [Value.slice.injEq, Option.some.injEq, Addr.mk.injEq, and_true, true_and] at h'
    obtain ⟨rfl, rfl⟩ := h'
    refine ⟨hx, .inr ⟨g, cap, cur, rfl, hb, hg, by omega, hcm, hcs, ?_⟩⟩
    have h2 := congrArg (List.take (n * size)) htake
    rw [List.take_take, Nat.min_eq_left (Nat.mul_le_mul_right _ hn)] at h2
    rw [h2, ← hx, List.take_left]

section
variable {P : Program}
/-- One append of known cells: in place, or into a new row. -/
theorem run_append_keep (w : World) (t ty : TypeId) (base : Nat) (e : TypeId) (i : TypeInfo) (z : Value) (size bytes : Nat) (ht : P.underlying t = some (.slice e)) (hi : P.info? e = some i) (hz : i.zero = some z)
    (hsize : i.size = size) (hby : i.bytes = bytes) (hzs : z.cells.size = size) (hsz : 0 < size)
    (v : Value) (n : Nat) (xs : List Value) (hown : w.ownsRow base e size v n xs)
    (ad : Addr) (m c : Nat) (news : List Value) (hl : news.length = m * size) (hnews : ∀ j u, news[j]? = some u → w.cell? (ad.add j) = some u) (h1 : ∀ u ∈ news, u.oneCell' = true)
    (hm : 0 < m) (h63 : n + m ≤ maxLen) (hbytes : (n + m) * bytes ≤ 140737488355328) (hbase : base ≤ w.heap.size) :
    ∃ g cap w', (Builtin.append_ #[t, t] ty #[v, .slice (some ad) m c]).run P w = .ok (.slice (some ⟨g, 0, none⟩) (n + m) cap) w' ∧
      w'.ownsRow base e size (.slice (some ⟨g, 0, none⟩) (n + m) cap) (n + m) (xs ++ news) ∧
      ((v = .slice (some ⟨g, 0, none⟩) n cap ∧ w.grownBy w' (some g)) ∨ (w.heap.size ≤ g ∧ w.grownBy w' none)) := by
  rcases hown.2 with ⟨rfl, rfl⟩ | ⟨g, cap, cur, rfl, hb, hg, hnc, hcm, hcs, htake⟩
  · obtain ⟨v', w', hrun, h2, h3, _⟩ := run_append_own (P := P) w w.heap.size t ty e i z size bytes ht hi hz hsize hby hzs hsz (.slice none 0 0) 0 [] (World.ownsRow_nil w _ e size) ad m c news hl hnews h1 h63 hbytes (Nat.le_refl _)
    obtain rfl : xs = [] := List.eq_nil_of_length_eq_zero (by have := hown.1; simpa using this)
    obtain ⟨g, cap, rfl, hb, _⟩ := h2.form (by omega)
    refine ⟨g, cap, w', hrun, ?_, .inr ⟨hb, h3⟩⟩
    exact own_lower h2 hbase
  · by_cases hroom : n + m ≤ cap
    · obtain ⟨w', hrun, h2, h3⟩ := run_append_fits (P := P) w base t ty e i size ht hi hsize g n cap xs hown ad m c news hl hnews h1 hroom
      exact ⟨g, cap, w', hrun, h2, .inl ⟨rfl, h3⟩⟩
    · obtain ⟨v', w', hrun, h2, h3⟩ := run_append_arg_grows (P := P) w t ty e i z size bytes ht hi hz hsize hby hzs hsz ⟨g, 0, none⟩ n cap xs hown.1 (fun j u hj => hown.cells (g := g) rfl j u hj) ad m c news hl hnews (by omega) h63 hbytes
      obtain ⟨g2, cap2, rfl, hb2, _⟩ := h2.form (by omega)
      exact ⟨g2, cap2, w', hrun, own_lower h2 hbase, .inr ⟨hb2, h3⟩⟩
variable {ops : Array Oper} {rest : List Oper} {o : Oper} {a : Act} {Q : Exit → Act → World → Prop}
/-- v = append(v, y), v such a row: behind 'at_builtin'. -/
theorem wp_append_grew {w0 W : World} (lo : Nat) (hgd : o.guard = none) (s x : Operand) (t e : TypeId) (z : Value) (size bytes : Nat)
    (ho : o.op = .call { callee := .builtin .append, args := #[s, x], argTypes := #[t, t] })
    (ht : P.underlying t = some (.slice e)) (hinfo : (P.info? e).map (fun i => (i.zero, i.size, i.bytes)) = some (some z, size, bytes)) (hz : z.cells.size = size) (hs0 : 0 < size) (hb0 : 0 < bytes)
    (v0 : Value) (n0 : Nat) (xs0 : List Value) (v : Value) (n : Nat) (ys : List Value) (hs : a.eval s = v) (H : Nat) (hH : W.heap.size = H) (hx : a.eval x = .slice (some ⟨H, 0, none⟩) 1 1) (hys : ys.length = size) (h1 : ∀ u ∈ ys, u.oneCell' = true)
    (HM : Grew w0 lo e size v0 n0 xs0 v n W) (hn : n0 ≤ n) (hlo : lo ≤ w0.heap.size) (hl : (n + 1) * bytes ≤ 140737488355328)
    (h : ∀ g cap w1, Grew w0 lo e size v0 n0 xs0 (.slice (some ⟨g, 0, none⟩) (n + 1) cap) (n + 1) w1 → wpList P ops Q rest (a.put o.dst (.slice (some ⟨g, 0, none⟩) (n + 1) cap)) w1) :
    wpList P ops Q (o :: rest) a (W.alloc (.cells ys.toArray e)) := by
  subst hH
  obtain ⟨i0, hi, hz0, hz1, hz2⟩ := info_parts hinfo
  obtain ⟨xs, HO, hcase⟩ := HM.own
  have hlen : n + 1 ≤ 140737488355328 := Nat.le_trans (Nat.le_mul_of_pos_right _ hb0) hl
  have hsz : w0.heap.size ≤ W.heap.size := HM.kept.size
  have hsA : (W.alloc (.cells ys.toArray e)).heap.size = W.heap.size + 1 := by simp
  refine wpList_plain hgd fun K hK' => ?_
  obtain ⟨g, cap, w1, hrun, hown, hc⟩ := run_append_keep (P := P) (W.alloc (.cells ys.toArray e)) t o.type lo e i0 z size bytes ht hi hz0 hz1 hz2 hz hs0 v n xs (HO.alloc _) ⟨W.heap.size, 0, none⟩ 1 1 ys (by omega)
    news_alloc h1 (by omega) (by unfold maxLen; omega) hl (by rw [hsA]; omega)
  unfold Oper.wp
  simp [execOp, ho, resolve, invoke, builtin, hs, hx, hrun, Result.andThen]
  refine hK' _ _ (h g cap w1 ?_)
  have hA : w0.grownBy (W.alloc (.cells ys.toArray e)) v0.ownBlock := grownBy_two HM.kept (World.grownBy_alloc W _ _)
  have hO0 : (W.alloc (.cells ys.toArray e)).ownsRow lo e size v0 n0 xs0 := HM.own0.alloc _
  rcases hc with ⟨rfl, hg⟩ | ⟨hge, hg⟩
  · rcases hcase with ⟨g', cap', zs, hv0, hv, rfl⟩ | hnew
    · simp only [Value.slice.injEq, Option.some.injEq, Addr.mk.injEq, and_true, true_and] at hv
      obtain ⟨rfl, rfl⟩ := hv
      rw [List.append_assoc] at hown
      have hl0 := HM.own0.1
      refine ⟨?_, grownBy_two hA (by rw [hv0]; exact hg), HM.lt0, _, hown, .inl ⟨g, cap, zs ++ ys, hv0, rfl, rfl⟩⟩
      rw [hv0]
      exact own_prefix hown hl0 (by omega)
    · have hgn := hnew g rfl
      refine ⟨hO0.kept hg ?_, grownBy_new hA hg hgn, HM.lt0, _, hown, .inr (fun k hk => by cases hk; exact hgn)⟩
      cases hv : v0.ownBlock with
      | none => exact .inl rfl
      | some k => exact .inr (fun e => by cases e; have := HM.lt0 g hv; omega)
  · have hge2 : w0.heap.size ≤ g := by rw [hsA] at hge; omega
    exact ⟨hO0.kept hg (by cases v0.ownBlock <;> simp), grownBy_two hA (grownBy_some hg), HM.lt0, _, hown, .inr (fun k hk => by cases hk; exact hge2)⟩
end
end Go.Proofs.Ytocjjiacmedjmaa
