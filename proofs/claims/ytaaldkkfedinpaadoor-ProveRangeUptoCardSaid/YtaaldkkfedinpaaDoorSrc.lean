/- A source as the laws read it: a list of leaves' hashes or a rule; what it says, what was asked of it, how it lies in memory. -/
import Derived.Test.YtaaldkkfedinpaaDoorRefOf
import Derived.Test.YtaaldkkfedinpaaDoorOwnS
import Derived.Test.YtaaldkkfedinpaaDoorShelfItoa
import Derived.Deep.AppendLies
set_option maxRecDepth 100000
namespace Go.Proofs.YtaaldkkfedinpaaDoor
open Go Go.RowKit

structure Src where
  k : Int
  size : Int
  leaves : List ByteArray
  made : Bool
  fails : Int
  code : Int
def nodeText (l i : Int) : ByteArray := ⟨#[110, 111, 100, 101, 32]⟩ ++ ⟨(Lib.decDigits l.toNat).toArray⟩ ++ ⟨#[32]⟩ ++ ⟨(Lib.decDigits i.toNat).toArray⟩
/-- What stands at an address. -/
def lookG (s : Src) (l i : Int) : ByteArray × Int :=
  if (spanN l i).2.2 ≠ 0 then (⟨#[]⟩, (spanN l i).2.2) else if s.size < (spanN l i).2.1 then (⟨#[]⟩, 80) else
  if s.made = true then (cutS (nodeText l i).data.toList s.k, 0) else (nodeAt s.k s.leaves l.toNat i.toNat, 0)
/-- What the ask of number n is answered. -/
def nodeG (s : Src) (n : Nat) (l i : Int) : ByteArray × Int :=
  if (lookG s l i).2 ≠ 0 ∨ (n : Int) ≠ s.fails then lookG s l i else if s.code ≠ 0 then (⟨#[]⟩, s.code) else
  if (lookG s l i).1.size = 0 then (⟨#[120]⟩, 0) else ((lookG s l i).1.extract 1 (lookG s l i).1.size, 0)
def askV (l : List (Int × Int)) : List Value := l.flatMap fun a => [.int .i64 a.1, .int .i64 a.2]
theorem askV_add (l : List (Int × Int)) (a b : Int) : askV (l ++ [(a, b)]) = askV l ++ [.int .i64 a, .int .i64 b] := by simp [askV]
/-- Of the old memory only the source and what was asked of it are changed. -/
structure SStep (p : Nat) (v : Value) (W : World) (v' : Value) (W' : World) : Prop where
  os : W'.os = W.os
  tape : W'.tape = W.tape
  output : W'.output = W.output
  size : W.heap.size ≤ W'.heap.size
  block : ∀ b, b < W.heap.size → b ≠ p → v.ownBlock ≠ some b → W'.heap[b]? = W.heap[b]?
  fresh : v'.ownBlock = v.ownBlock ∨ ∀ q, v'.ownBlock = some q → W.heap.size ≤ q
theorem SStep.refl (p : Nat) (v : Value) (W : World) : SStep p v W v W := ⟨rfl, rfl, rfl, Nat.le_refl _, fun _ _ _ _ => rfl, .inl rfl⟩
theorem SStep.trans {p : Nat} {v v' v'' : Value} {W W' W'' : World} (h : SStep p v W v' W') (k : SStep p v' W' v'' W'') : SStep p v W v'' W'' := by
  refine ⟨k.os.trans h.os, k.tape.trans h.tape, k.output.trans h.output, Nat.le_trans h.size k.size, fun b hb hp hv => ?_, ?_⟩
  · refine (k.block b (Nat.lt_of_lt_of_le hb h.size) hp ?_).trans (h.block b hb hp hv)
    intro e
    rcases h.fresh with f | f
    · exact hv (f ▸ e)
    · have := f b e; omega
  · rcases k.fresh with f | f
    · rw [f]; exact h.fresh
    · exact .inr fun q hq => Nat.le_trans h.size (f q hq)
theorem SStep.of {p : Nat} {v : Value} {W W' : World} (h : Below W.heap.size W W') : SStep p v W v W' := ⟨h.os, h.tape, h.output, h.size, fun b hb _ _ => h.block b hb, .inl rfl⟩
theorem SStep.below {A p : Nat} {v v' : Value} {W W' : World} (h : SStep p v W v' W') (hp : A ≤ p) (hv : ∀ q, v.ownBlock = some q → A ≤ q) (hA : A ≤ W.heap.size) : Below A W W' :=
  ⟨h.os, h.tape, h.output, h.size, fun b hb => h.block b (by omega) (by omega) (fun e => by have := hv b e; omega)⟩
theorem SStep.cell {p : Nat} {v v' : Value} {W W' : World} (h : SStep p v W v' W') {q j : Nat} {u : Value} (hc : W.cell? ⟨q, j, none⟩ = some u) (hp : q ≠ p) (hv : v.ownBlock ≠ some q) : W'.cell? ⟨q, j, none⟩ = some u :=
  (World.cell?_of_block (w := W) (h.block q (World.block_lt_of_cell? _ _ hc) hp hv)).trans hc
theorem SStep.frozen {p : Nat} {v v' : Value} {W W' : World} (h : SStep p v W v' W') {q j : Nat} (hq : q < W.heap.size) (hp : q ≠ p) (hv : v.ownBlock ≠ some q) : W'.frozen? ⟨q, j, none⟩ = W.frozen? ⟨q, j, none⟩ :=
  World.frozen?_of_block (w := W) (h.block q hq hp hv)
theorem SStep.own {p : Nat} {v v' : Value} {W W' : World} (h : SStep p v W v' W') {B n size : Nat} {e : TypeId} {r : Value} {xs : List Value} (ho : W.ownsRow B e size r n xs) (hr : ∀ q, r.ownBlock = some q → q ≠ p ∧ v.ownBlock ≠ some q) : W'.ownsRow B e size r n xs := by
  refine ⟨ho.1, ?_⟩
  rcases ho.2 with h1 | ⟨g, cap, cur, hv, hb, hg, h3⟩
  · exact .inl h1
  · have hlt := (Array.getElem?_eq_some_iff.1 hg).1
    have := hr g (by rw [hv]; rfl)
    exact .inr ⟨g, cap, cur, hv, hb, (h.block g hlt this.1 this.2).trans hg, h3⟩
theorem own_off {W : World} {B B2 n n2 size size2 : Nat} {e e2 : TypeId} {r r2 : Value} {xs xs2 : List Value} (h : W.ownsRow B e size r n xs) (h2 : W.ownsRow B2 e2 size2 r2 n2 xs2) (he : e ≠ e2) {q : Nat} (hq : r.ownBlock = some q) : r2.ownBlock ≠ some q := by
  intro hq2
  rcases h.2 with ⟨rfl, _⟩ | ⟨g, cap, cur, rfl, _, hg, _⟩
  · simp [Value.ownBlock] at hq
  rcases h2.2 with ⟨rfl, _⟩ | ⟨g2, cap2, cur2, rfl, _, hg2, _⟩
  · simp [Value.ownBlock] at hq2
  simp [Value.ownBlock] at hq hq2
  subst hq; subst hq2
  rw [hg] at hg2
  simp at hg2
  exact he hg2.2
/-- A source in memory: its box at p, its leaves lv, what was asked of it v. -/
structure SrcM (B p : Nat) (s : Src) (lv v : Value) (asked : List (Int × Int)) (W : World) : Prop where
  c0 : W.cell? ⟨p, 0, none⟩ = some (.int .i64 s.k)
  c1 : W.cell? ⟨p, 1, none⟩ = some (.int .i64 s.size)
  c2 : W.cell? ⟨p, 2, none⟩ = some lv
  c3 : W.cell? ⟨p, 3, none⟩ = some (.bool s.made)
  c4 : W.cell? ⟨p, 4, none⟩ = some (.int .i64 s.fails)
  c5 : W.cell? ⟨p, 5, none⟩ = some (.int .i64 s.code)
  c6 : W.cell? ⟨p, 6, none⟩ = some v
  fz : ∀ j, W.frozen? ⟨p, j, none⟩ = false
  lown : W.ownsRow B 9 1 lv s.leaves.length (strs' s.leaves)
  vown : W.ownsRow B 84 2 v asked.length (askV asked)
  le : B ≤ p
  ne1 : ∀ q, lv.ownBlock = some q → q ≠ p
  ne2 : ∀ q, v.ownBlock = some q → q ≠ p
  sz : s.made = false → s.size = s.leaves.length
section
variable {B p : Nat} {s : Src} {lv v v' : Value} {asked : List (Int × Int)} {W W' : World}
theorem SrcM.lt (h : SrcM B p s lv v asked W) : p < W.heap.size := World.block_lt_of_cell? _ _ h.c0
theorem SrcM.below (h : SrcM B p s lv v asked W) (hb : Below W.heap.size W W') : SrcM B p s lv v asked W' := by
  have hk := fun {p : Addr} {v : Value} (hc : W.cell? p = some v) => (hb.cell (World.block_lt_of_cell? _ _ hc)).trans hc
  have hg : W.grownBy W' none := ⟨hb.os, hb.tape, hb.output, hb.size, fun b hlt _ => hb.block b hlt⟩
  refine ⟨hk h.c0, hk h.c1, hk h.c2, hk h.c3, hk h.c4, hk h.c5, hk h.c6, fun j => (hb.frozen h.lt).trans (h.fz j), World.ownsRow.kept h.lown hg ?_, World.ownsRow.kept h.vown hg ?_, h.le, h.ne1, h.ne2, h.sz⟩
  · cases lv.ownBlock <;> simp
  · cases v.ownBlock <;> simp
/-- Another source is asked: this one stays. -/
theorem SrcM.other {p2 : Nat} {u u' : Value} (h : SrcM B p s lv v asked W) (k : SStep p2 u W u' W') (h1 : p ≠ p2) (h2 : u.ownBlock ≠ some p) (h3 : ∀ q, lv.ownBlock = some q → q ≠ p2 ∧ u.ownBlock ≠ some q) (h4 : ∀ q, v.ownBlock = some q → q ≠ p2 ∧ u.ownBlock ≠ some q) : SrcM B p s lv v asked W' :=
  ⟨k.cell h.c0 h1 h2, k.cell h.c1 h1 h2, k.cell h.c2 h1 h2, k.cell h.c3 h1 h2, k.cell h.c4 h1 h2, k.cell h.c5 h1 h2, k.cell h.c6 h1 h2, fun j => (k.frozen h.lt h1 h2).trans (h.fz j), k.own h.lown h3, k.own h.vown h4, h.le, h.ne1, h.ne2, h.sz⟩
theorem SrcM.at (h : SrcM B p s lv v asked W) (hg : GlobR W) (hm : s.made = false) : ∃ ao cap, lv = .slice ao s.leaves.length cap ∧ SrcAt s.k ao s.leaves cap p W := by
  obtain ⟨ao, cap, rfl, _, hr⟩ := own_row h.lown
  exact ⟨ao, cap, rfl, h.c0, by rw [← h.sz hm]; exact h.c1, h.c2, by rw [← hm]; exact h.c3, hr, hg⟩
end
theorem lookG_plain (s : Src) (hm : s.made = false) (hs : s.size = s.leaves.length) (l i : Int) : lookG s l i = lookN s.k s.leaves l i := by
  unfold lookG lookN
  rw [hs, hm]
  simp
/-- v = append(v, y), v a row of structs: at a step of a region that drew. What is changed besides. -/
theorem step_append_two {P : Program} {ops : Array Oper} {o : Oper} {a : Act} {K : Act → World → Prop} {Q : Exit → Act → World → Prop} {E : Prop} {W : World} (base : Nat) (hgd : o.guard = none) (s x : Operand) (t e : TypeId) (z : Value) (size bytes : Nat)
    (ho : o.op = .call { callee := .builtin .append, args := #[s, x], argTypes := #[t, t] })
    (ht : P.underlying t = some (.slice e)) (hinfo : (P.info? e).map (fun i => (i.zero, i.size, i.bytes)) = some (some z, size, bytes)) (hz : z.cells.size = size) (hs0 : 0 < size) (hb0 : 0 < bytes)
    (v : Value) (n : Nat) (xs ys : List Value) (hs : a.eval s = v) (hx : a.eval x = .slice (some ⟨W.heap.size, 0, none⟩) 1 1) (hys : ys.length = size) (h1 : ∀ u ∈ ys, u.oneCell' = true)
    (HO : W.ownsRow base e size v n xs) (hbase : base ≤ W.heap.size) (hl : (n + 1) * bytes ≤ 140737488355328)
    (h : ∀ g cap w1, w1.ownsRow base e size (.slice (some ⟨g, 0, none⟩) (n + 1) cap) (n + 1) (xs ++ ys) → W.grownBy w1 v.ownBlock → (v.ownBlock = some g ∨ W.heap.size ≤ g) → K (a.put o.dst (.slice (some ⟨g, 0, none⟩) (n + 1) cap)) w1) :
    if Region.wanted o (yielded ops a.tmps) = true then Oper.wp P o a (W.alloc (.cells ys.toArray e)).drew K Q else E := by
  obtain ⟨i0, hi, hz0, hz1, hz2⟩ := info_parts hinfo
  have hlen : n + 1 ≤ 140737488355328 := Nat.le_trans (Nat.le_mul_of_pos_right _ hb0) hl
  refine step_append_lies (W.drew.alloc (.cells ys.toArray e)) hgd s x t ho base e i0 z size bytes ht hi hz0 hz1 hz2 hz hs0 v n xs hs (World.ownsRow.alloc (w := W.drew) HO _) ⟨W.heap.size, 0, none⟩ 1 1 ys hx (by omega)
    (news_alloc (W := W.drew)) h1 (by omega) (by unfold maxLen; omega) hl (by simp; omega) _ rfl ?_
  intro g cap w1 hown hg hor _
  refine h g cap w1 hown ⟨hg.os, hg.tape, hg.output, Nat.le_trans (by simp) hg.size, fun b hb hne => (hg.block b (by simp; omega) hne).trans ?_⟩ ?_
  · exact ((Below.refl W.heap.size W).drew.alloc (Nat.le_refl _) (.cells ys.toArray e)).block b hb
  · rcases hor with e1 | e1
    · exact .inl e1
    · right; rw [e1]; simp
end Go.Proofs.YtaaldkkfedinpaaDoor
