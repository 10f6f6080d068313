/- Asking a source: what its steps leave as it was; rows that grow beside it; a reader in memory. -/
import Derived.Test.YtaaldkkfedinpaaDoorTwin8
import Derived.Deep.DeepCutAuto
set_option maxRecDepth 100000
namespace Go.Proofs.YtaaldkkfedinpaaDoor
open Go Go.RowKit

theorem fn_no' (F : FuncId) (a b : Array Value) (w : World) : Sem.run Tryd.prog (binOp BinOp.eql 43 (.func (.func F) a b) .nilFunc) w = .ok (.bool false) w := by rfl
theorem SStep.far {p : Nat} {v v' : Value} {W W' : World} (hs : SStep p v W v' W') {b : Nat} (hb : b < W.heap.size) (h : v.ownBlock ≠ some b) : v'.ownBlock ≠ some b := by
  intro e
  rcases hs.fresh with f | f
  · exact h (f ▸ e)
  · have := f b e; omega
section
variable {P : Program} {ops : Array Oper} {rest : List Oper} {o : Oper} {a : Act} {Q : Exit → Act → World → Prop}
/-- v = append(v, y), v a row of the call's own; what is changed besides. -/
theorem wp_append1g {W : World} (base : Nat) (hgd : o.guard = none) (s x : Operand) (t e : TypeId) (z : Value) (bytes : Nat)
    (ho : o.op = .call { callee := .builtin .append, args := #[s, x], argTypes := #[t, t] })
    (ht : P.underlying t = some (.slice e)) (hinfo : (P.info? e).map (fun i => (i.zero, i.size, i.bytes)) = some (some z, 1, bytes)) (hz : z.cells.size = 1) (hb0 : 0 < bytes)
    (v : Value) (xs : List Value) (y : Value) (hs : a.eval s = v) (hx : a.eval x = .slice (some ⟨W.heap.size, 0, none⟩) 1 1) (h1 : y.oneCell' = true)
    (HO : W.ownsRow base e 1 v xs.length xs) (hbase : base ≤ W.heap.size) (hl : (xs.length + 1) * bytes ≤ 140737488355328)
    (h : ∀ v1 w1, w1.ownsRow base e 1 v1 (xs ++ [y]).length (xs ++ [y]) → W.grownBy w1 v.ownBlock → wpList P ops Q rest (a.put o.dst v1) w1) :
    wpList P ops Q (o :: rest) a (W.alloc (.cells #[y] e)) := by
  obtain ⟨i0, hi, hz0, hz1, hz2⟩ := info_parts hinfo
  have hlen : xs.length + 1 ≤ 140737488355328 := Nat.le_trans (Nat.le_mul_of_pos_right _ hb0) hl
  refine wpList_append_own (W.alloc (.cells #[y] e)) hgd s x t ho base e i0 z 1 bytes ht hi hz0 hz1 hz2 hz (by omega) v xs.length xs hs (HO.alloc _) ⟨W.heap.size, 0, none⟩ 1 1 [y] hx rfl
    ?_ (by simpa using h1) (by unfold maxLen; omega) hl (by simp; omega) ?_
  · intro j u hj
    match j, hj with
    | 0, hj => simp at hj; subst hj; simp [Addr.add, go_sem]
  · intro v1 w1 hown hg _
    refine h v1 w1 (by simpa using hown) ⟨hg.os, hg.tape, hg.output, Nat.le_trans (by simp) hg.size, fun b hb hne => (hg.block b (by simp; omega) hne).trans ?_⟩
    exact ((Below.refl W.heap.size W).alloc (Nat.le_refl _) (.cells #[y] e)).block b hb
end
theorem SrcM.grown {B p : Nat} {s : Src} {lv u : Value} {ask : List (Int × Int)} {W W' : World} (h : SrcM B p s lv u ask W) {r : Option Nat} (hg : W.grownBy W' r) (h1 : r ≠ some p) (h2 : ∀ q, lv.ownBlock = some q → r ≠ some q) (h3 : ∀ q, u.ownBlock = some q → r ≠ some q) : SrcM B p s lv u ask W' := by
  have hbp := hg.block p h.lt (fun e => h1 e.symm)
  have hc := fun {j : Nat} {u : Value} (hc : W.cell? ⟨p, j, none⟩ = some u) => (World.cell?_of_block (w := W) hbp).trans hc
  refine ⟨hc h.c0, hc h.c1, hc h.c2, hc h.c3, hc h.c4, hc h.c5, hc h.c6, fun j => (World.frozen?_of_block (w := W) (a := ⟨p, j, none⟩) hbp).trans (h.fz j), World.ownsRow.kept h.lown hg ?_, World.ownsRow.kept h.vown hg ?_, h.le, h.ne1, h.ne2, h.sz⟩
  · cases hq : lv.ownBlock with
    | none => exact .inl rfl
    | some q => exact .inr (fun e => h2 q hq e.symm)
  · cases hq : u.ownBlock with
    | none => exact .inl rfl
    | some q => exact .inr (fun e => h3 q hq e.symm)
theorem SStep.grow {p : Nat} {v u : Value} {w W W' : World} (h : SStep p v w u W) {r : Option Nat} (hg : W.grownBy W' r) (hr : ∀ q, r = some q → w.heap.size ≤ q) : SStep p v w u W' :=
  ⟨hg.os.trans h.os, hg.tape.trans h.tape, hg.output.trans h.output, Nat.le_trans h.size hg.size, fun b hb hp hv => (hg.block b (Nat.lt_of_lt_of_le hb h.size) (fun e => by have := hr b e.symm; omega)).trans (h.block b hb hp hv), h.fresh⟩
/-- A reader's box at H, its teller at pt. -/
structure RdK (s : Src) (pt p H : Nat) (W : World) : Prop where
  r0 : W.cell? ⟨H, 0, none⟩ = some (.int .i64 s.k)
  r1 : W.cell? ⟨H, 1, none⟩ = some (.int .i64 s.size)
  r2 : W.cell? ⟨H, 2, none⟩ = some (.func (.func 41) #[.pointer (some ⟨pt, 0, none⟩)] #[])
  tel : W.cell? ⟨pt, 0, none⟩ = some (.pointer (some ⟨p, 0, none⟩))
theorem RdK.below {s : Src} {pt p H : Nat} {W W' : World} (k : RdK s pt p H W) (hb : Below W.heap.size W W') : RdK s pt p H W' := by
  have hk := fun {p : Addr} {v : Value} (hc : W.cell? p = some v) => (hb.cell (World.block_lt_of_cell? _ _ hc)).trans hc
  exact ⟨hk k.r0, hk k.r1, hk k.r2, hk k.tel⟩
theorem RdK.step {s : Src} {pt p H : Nat} {W W' : World} {v v' : Value} (k : RdK s pt p H W) (hs : SStep p v W v' W') (h1 : H ≠ p) (h3 : pt ≠ p) (v1 : v.ownBlock ≠ some H) (v3 : v.ownBlock ≠ some pt) : RdK s pt p H W' :=
  ⟨hs.cell k.r0 h1 v1, hs.cell k.r1 h1 v1, hs.cell k.r2 h1 v1, hs.cell k.tel h3 v3⟩
theorem RdK.grown {s : Src} {pt p H : Nat} {W W' : World} (k : RdK s pt p H W) {r : Option Nat} (hg : W.grownBy W' r) (hr : ∀ q, r = some q → H < q) (hpt : pt < H) : RdK s pt p H W' := by
  have hk := fun {q j : Nat} {v : Value} (hq : q ≤ H) (hc : W.cell? ⟨q, j, none⟩ = some v) => (World.cell?_of_block (w := W) (hg.block q (World.block_lt_of_cell? _ _ hc) (fun e => by have := hr q e.symm; omega))).trans hc
  exact ⟨hk (by omega) k.r0, hk (by omega) k.r1, hk (by omega) k.r2, hk (by omega) k.tel⟩
abbrev readerV (s : Src) (pt : Nat) : Value := .agg #[.int .i64 s.k, .int .i64 s.size, .func (.func 41) #[.pointer (some ⟨pt, 0, none⟩)] #[]]
theorem RdK.new (s : Src) (pt p : Nat) (w : World) (hpt : w.cell? ⟨pt, 0, none⟩ = some (.pointer (some ⟨p, 0, none⟩))) : RdK s pt p w.heap.size (w.alloc (.cells #[.int .i64 s.k, .int .i64 s.size, .func (.func 41) #[.pointer (some ⟨pt, 0, none⟩)] #[]] 45)) := by
  have hb := (Below.refl w.heap.size w).alloc (Nat.le_refl _) (.cells #[.int .i64 s.k, .int .i64 s.size, .func (.func 41) #[.pointer (some ⟨pt, 0, none⟩)] #[]] 45)
  exact ⟨by simp [go_sem], by simp [go_sem], by simp [go_sem], (hb.cell (World.block_lt_of_cell? _ _ hpt)).trans hpt⟩
/-- A width out of reach is 32. -/
theorem prove_width (k size : Int) (f : Value) (w : World) : Calls Tryd.prog 70 #[.agg #[.int .i64 k, .int .i64 size, f]] w fun e w' => e = .returned (.int .i64 (wid k)) ∧ Below w.heap.size w w' := by
  have hb := hid ((Below.refl w.heap.size w).alloc (Nat.le_refl _) (.cells #[.int .i64 k, .int .i64 size, f] 45))
  by_cases h1 : k < 1
  · have H : Hid (wid k = 32) := by unfold Hid wid; rw [if_pos (by omega)]
    go_enter Tryd.func70, Tryd.ntmps70
    go_wp2_with fail
    go_ret
    exact ⟨by rw [H.out]; rfl, hb.out⟩
  · by_cases h2 : 32 < k
    · have H : Hid (wid k = 32) := by unfold Hid wid; rw [if_pos (by omega)]
      go_enter Tryd.func70, Tryd.ntmps70
      go_wp2_with fail
      go_ret
      exact ⟨by rw [H.out]; rfl, hb.out⟩
    · have H : Hid ((wid k : Int) = k) := by unfold Hid wid; rw [if_neg (by omega)]; omega
      go_enter Tryd.func70, Tryd.ntmps70
      go_wp2_with fail
      go_ret
      exact ⟨by rw [H.out]; rfl, hb.out⟩
end Go.Proofs.YtaaldkkfedinpaaDoor
