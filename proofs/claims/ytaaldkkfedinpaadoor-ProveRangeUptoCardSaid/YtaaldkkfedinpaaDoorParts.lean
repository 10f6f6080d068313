/- Parts of a tree, their halves, and their roots one after the other: plain, and the walks of halves and Split. -/
import Derived.Test.YtaaldkkfedinpaaDoorAsked
import Derived.Test.YtaaldkkfedinpaaDoorNums
import Derived.Deep.RegionHeld3
import Derived.Deep.DeepCutAuto
import Derived.Deep.CutBlock
set_option maxRecDepth 100000
namespace Go.Proofs.YtaaldkkfedinpaaDoor
open Go Go.RowKit

theorem ref8_Split (n : Int) (h : 2 ≤ n) (h2 : n ≤ 4611686018427387904) (w : World) :
    Calls Tryd.prog 47 #[.int .i64 n] w fun e w' => e = .returned (.int .i64 (sp n.toNat)) ∧ w = w' := by
  obtain ⟨n, rfl⟩ := Int.eq_ofNat_of_zero_le (show 0 ≤ n by omega)
  rw [Int.toNat_natCast]
  go_enter Tryd.func47, Tryd.ntmps47
  go_wp2_with fail
  go_loop [3] (fun k' => ∃ k j : Nat, k' = .int .i64 k ∧ k = 2 ^ j ∧ k < n) (fun k' => (n - intOf k').toNat)
  case atStart => exact ⟨1, 0, rfl, rfl, by omega⟩
  case round =>
    obtain ⟨k, j, rfl, hk, hk2⟩ := hrel
    have hp : 0 < k := by rw [hk]; exact Nat.pow_pos (by omega)
    have HK := hid hk; clear hk
    have hb : k ≤ 4611686018427387904 := by omega
    by_cases hlt : (k : Int) < (n : Int) - (k : Int)
    · go_wp2_with fail
      go_round
      case rel => exact ⟨2 * k, j + 1, by go_num, by have := HK.out; rw [Nat.pow_succ]; omega, by omega⟩
      case measure => simp [intOf]; omega
    · have hs : Hid (sp n = k) := by
        have := HK.out; subst this; exact sp_unique n j (by omega) (by omega)
      go_wp2_with fail
      go_ret
      exact ⟨by rw [hs.out]; rfl, rfl⟩
theorem results_cells {fn : Func} {p q : Tmp} {ty ty2 : TypeId} (h : fn.results = #[.cell p ty, .cell q ty2]) (tmps : Array Value) (P : Program) (w : World) :
    (results fn tmps).run P w =
      ((asAddr (tmps.getD p undef)).run P w).andThen fun a w₁ => ((loadVar ty a).run P w₁).andThen fun v w₂ => ((asAddr (tmps.getD q undef)).run P w₂).andThen fun a2 w₃ => ((loadVar ty2 a2).run P w₃).andThen fun v2 w₄ => .ok (.tuple #[v, v2]) w₄ := by
  simp only [results, h]
  simp [Sem.run_bind, Result.andThen]
def partV (p : Nat × Nat) : List Value := [.int .i64 p.1, .int .i64 p.2]
def partsV (l : List (Nat × Nat)) : List Value := l.flatMap partV
theorem partsV_snoc (l : List (Nat × Nat)) (x : Nat × Nat) : partsV (l ++ [x]) = partsV l ++ partV x := by simp [partsV]
theorem partsV_get (l : List (Nat × Nat)) (k : Nat) (hk : k < l.length) : (partsV l)[2 * k]? = some (.int .i64 l[k].1) ∧ (partsV l)[2 * k + 1]? = some (.int .i64 l[k].2) := addrsV_get l k hk
theorem parts_at {W : World} {B : Nat} {e : TypeId} {v : Value} {l : List (Nat × Nat)} (h : W.ownsRow B e 2 v l.length (partsV l)) (i : Nat) (hi : i < l.length) :
    ∃ g cap, v = .slice (some ⟨g, 0, none⟩) l.length cap ∧ W.cell? ⟨g, i * 2, none⟩ = some (.int .i64 l[i].1) ∧ W.cell? ⟨g, i * 2 + 1, none⟩ = some (.int .i64 l[i].2) := by
  obtain ⟨g1, g2⟩ := partsV_get l i hi
  rcases h.2 with ⟨hv, hn⟩ | ⟨g, cap', cur, hv, _, hg, _⟩
  · omega
  · have hc := fun (j : Nat) (x : Value) (hx : (partsV l)[j]? = some x) => (show W.cell? ⟨g, j, none⟩ = some x by
      have := h.cells (g := g) (by rw [hv]; rfl) j x hx
      have ha : (⟨g, 0, none⟩ : Addr).add j = ⟨g, j, none⟩ := by unfold Addr.add; split <;> simp_all
      rw [ha] at this
      exact this)
    exact ⟨g, cap', hv, by rw [Nat.mul_comm]; exact hc _ _ g1, by rw [Nat.mul_comm]; exact hc _ _ g2⟩
/-- The roots of parts, one after the other. -/
def toldG (s : Src) : List (Nat × Nat) → List (Int × Int) → List ByteArray → List ByteArray × Int × List (Int × Int)
  | [], asked, acc => (acc, 0, asked)
  | p :: r, asked, acc => if (hashG s p.1 p.2 asked).2.1 ≠ 0 then ([], (hashG s p.1 p.2 asked).2.1, (hashG s p.1 p.2 asked).2.2) else toldG s r (hashG s p.1 p.2 asked).2.2 (acc ++ [(hashG s p.1 p.2 asked).1])
theorem toldG_step (s : Src) (p : Nat × Nat) (r : List (Nat × Nat)) (asked : List (Int × Int)) (acc : List ByteArray) (x : ByteArray) (y : Int) (ask : List (Int × Int)) (h : (x, y, ask) = hashG s p.1 p.2 asked) :
    toldG s (p :: r) asked acc = if y ≠ 0 then ([], y, ask) else toldG s r ask (acc ++ [x]) := by
  show (if (hashG s p.1 p.2 asked).2.1 ≠ 0 then _ else toldG s r _ _) = _
  rw [← h]
theorem toldG_len (s : Src) (l : List (Nat × Nat)) (hl : ∀ p ∈ l, p.2 ≤ 4611686018427387904) : ∀ asked acc, (toldG s l asked acc).2.2.length ≤ asked.length + 126 * l.length := by
  induction l with
  | nil => intro asked acc; exact Nat.le_refl _
  | cons p r ih =>
    intro asked acc
    obtain ⟨q, hq⟩ : ∃ q, q = hashG s p.1 p.2 asked := ⟨_, rfl⟩
    obtain ⟨x, y, ask⟩ := q
    have h1 := hashG_len s p.1 p.2 (hl p (List.mem_cons_self ..)) asked
    rw [← hq] at h1
    rw [toldG_step s p r asked acc x y ask hq]
    simp only at h1
    split
    · simp only [List.length_cons]; omega
    · have := ih (fun z hz => hl z (List.mem_cons_of_mem _ hz)) ask (acc ++ [x])
      rw [List.length_cons]; omega
theorem foldS_size (k : Int) (l : List ByteArray) (h : ∀ x ∈ l, x.size ≤ 1048576) : (foldS k l).size ≤ 1048576 := by
  cases l with
  | nil => show (emptyS k).size ≤ _; rw [emptyS_size]; have := (wid_le k).1; omega
  | cons x r =>
    cases r with
    | nil => exact h x (by simp)
    | cons y r => rw [foldS_step _ _ _ (by simp), nodeS_size]; have := (wid_le k).1; omega
/-- A part's box. -/
def P2 (b : Nat) (x y : Int) (W : World) : Prop := W.cell? ⟨b, 0, none⟩ = some (.int .i64 x) ∧ W.cell? ⟨b, 1, none⟩ = some (.int .i64 y) ∧ ∀ j, W.frozen? ⟨b, j, none⟩ = false
theorem P2.below {b : Nat} {x y : Int} {W W' : World} (t : P2 b x y W) (hb : Below W.heap.size W W') : P2 b x y W' := by
  obtain ⟨a0, a1, a4⟩ := t
  have hk := fun {p : Addr} {v : Value} (hc : W.cell? p = some v) => (hb.cell (World.block_lt_of_cell? _ _ hc)).trans hc
  exact ⟨hk a0, hk a1, fun j => (hb.frozen (p := ⟨b, j, none⟩) (show b < W.heap.size from World.block_lt_of_cell? W ⟨b, 0, none⟩ a0)).trans (a4 j)⟩
theorem P2.new (W : World) (x y : Int) : P2 W.heap.size x y (W.alloc (.cells #[.int .i64 x, .int .i64 y] 77)) := by
  refine ⟨?_, ?_, fun j => ?_⟩ <;> simp [go_sem]
theorem P2.far {b b' : Nat} {x y : Int} {W : World} (t : P2 b x y W) (hne : b' ≠ b) (j : Nat) (v : Value) : P2 b x y (W.setCell ⟨b', j, none⟩ v) := by
  obtain ⟨a0, a1, a4⟩ := t
  have hn : ∀ k, (⟨b', j, none⟩ : Addr) ≠ ⟨b, k, none⟩ := fun k e => hne (by injection e)
  exact ⟨(World.cell?_setCell_other _ _ _ _ (hn 0)).trans a0, (World.cell?_setCell_other _ _ _ _ (hn 1)).trans a1, fun j => by rw [World.frozen?_setCell]; exact a4 j⟩
def store2 (W : World) (b : Nat) (x y : Int) : World := (W.setCell ⟨b, 0, none⟩ (.int .i64 x)).setCell ⟨b, 1, none⟩ (.int .i64 y)
theorem P2.store {b : Nat} {x y : Int} {W : World} (t : P2 b x y W) (x' y' : Int) : P2 b x' y' (store2 W b x' y') := by
  obtain ⟨a0, a1, a4⟩ := t
  unfold store2
  refine ⟨?_, ?_, fun j => by simp only [World.frozen?_setCell]; exact a4 j⟩
  · rw [World.cell?_setCell_other _ _ _ _ (by simp)]; exact World.cell?_setCell_same _ _ _ a0
  · exact World.cell?_setCell_same _ _ _ (by rw [World.cell?_setCell_other _ _ _ _ (by simp)]; exact a1)
theorem P2.off {b b' : Nat} {x y : Int} {W : World} (t : P2 b x y W) (hne : b' ≠ b) (x' y' : Int) : P2 b x y (store2 W b' x' y') := (t.far hne _ _).far hne _ _
theorem store2_below {B b : Nat} {w W : World} (h : Below B w W) (hb : B ≤ b) (x' y' : Int) : Below B w (store2 W b x' y') := (h.setCell hb _).setCell hb _
/-- The two halves of a part of two leaves or more. -/
theorem prove_halves (a b : Nat) (h : a + 2 ≤ b) (hb : b ≤ 4611686018427387904) (w : World) :
    Calls Tryd.prog 44 #[.agg #[.int .i64 a, .int .i64 b]] w fun e w' => e = .returned (.tuple #[.agg #[.int .i64 a, .int .i64 ((a + sp (b - a) : Nat) : Int)], .agg #[.int .i64 ((a + sp (b - a) : Nat) : Int), .int .i64 b]]) ∧ Below w.heap.size w w' := by
  obtain ⟨W, hW⟩ : ∃ W, ((w.alloc (.cells #[.int .i64 a, .int .i64 b] 77)).alloc (.cells #[.int .i64 0, .int .i64 0] 77)).alloc (.cells #[.int .i64 0, .int .i64 0] 77) = W := ⟨_, rfl⟩
  have bW : Below w.heap.size w W := by rw [← hW]; exact (((Below.refl w.heap.size w).alloc (Nat.le_refl _) _).alloc (by simp) _).alloc (by simp; omega) _
  have pA : P2 w.heap.size a b W := by rw [← hW]; exact ((P2.new w a b).below ((Below.refl _ _).alloc (Nat.le_refl _) _)).below ((Below.refl _ _).alloc (Nat.le_refl _) _)
  have pB : P2 (w.heap.size + 1) 0 0 W := by
    rw [← hW]
    have := P2.new (w.alloc (.cells #[.int .i64 a, .int .i64 b] 77)) 0 0
    rw [show (w.alloc (.cells #[.int .i64 a, .int .i64 b] 77)).heap.size = w.heap.size + 1 by simp] at this
    exact this.below ((Below.refl _ _).alloc (Nat.le_refl _) _)
  have pC : P2 (w.heap.size + 1 + 1) 0 0 W := by
    rw [← hW]
    have := P2.new ((w.alloc (.cells #[.int .i64 a, .int .i64 b] 77)).alloc (.cells #[.int .i64 0, .int .i64 0] 77)) 0 0
    rw [show ((w.alloc (.cells #[.int .i64 a, .int .i64 b] 77)).alloc (.cells #[.int .i64 0, .int .i64 0] 77)).heap.size = w.heap.size + 1 + 1 by simp] at this
    exact this
  have PB := hid pB
  have PC := hid pC
  obtain ⟨a0, a1, _⟩ := pA
  obtain ⟨c0, c1, fc⟩ := pB
  obtain ⟨d0, d1, fd⟩ := pC
  have f0 := fc 0
  have f1 := fc 1
  have g0 := fd 0
  have g1 := fd 1
  clear fc fd
  have BW := hid bW
  have HW := hid hW
  have HB := nums_Below ((b : Int) - (a : Int)) (by omega) (by omega)
  rw [show ((b : Int) - (a : Int)).toNat = b - a by omega] at HB
  have hsp := sp_pos (b - a)
  have hspl := sp_lt (b - a) (by omega)
  obtain ⟨k, hk⟩ : ∃ k, k = sp (b - a) := ⟨_, rfl⟩
  rw [← hk] at HB hsp hspl ⊢
  have hw1 : IntKind.i64.wrap ((b : Int) - (a : Int)) = (b : Int) - (a : Int) := by rw [IntKind.wrap_i64]; omega
  have hw2 : IntKind.i64.wrap ((a : Int) + (k : Int)) = (a : Int) + (k : Int) := by rw [IntKind.wrap_i64]; omega
  have hmax : ∀ W : World, (Builtin.max_ #[3, 3] 3 #[.int .i64 (k : Int), .int .i64 1]).run Tryd.prog W = .ok (.int .i64 (k : Int)) W := by
    intro W
    rw [run_max_int2]
    congr 2
    split <;> omega
  have HBB := hid HB
  clear hW bW hk HB
  go_enter Tryd.func44, Tryd.ntmps44
  go_upto_region 1 with fail
  rw [HW.out]
  clear HW
  go_wp2_with fail
  refine (HBB.out _).mono ?_
  rintro e w1 ⟨rfl, rfl⟩
  go_upto_region 3 with fail
  go_region
  all_goals
    go_wp2_with fail
    clear a0 a1 c0 c1 d0 d1 f0 f1 g0 g1
    show bodyPost Tryd.prog _ _ _ _ (store2 (store2 W (w.heap.size + 1) a ((a : Int) + (k : Int))) (w.heap.size + 1 + 1) ((a : Int) + (k : Int)) b).drew
    have e1 := (PB.out.store a ((a : Int) + (k : Int))).off (b' := w.heap.size + 1 + 1) (by omega) ((a : Int) + (k : Int)) b
    have e2 := (PC.out.off (b' := w.heap.size + 1) (by omega) a ((a : Int) + (k : Int))).store ((a : Int) + (k : Int)) b
    have hBV := hid (store2_below (store2_below BW.out (show w.heap.size ≤ w.heap.size + 1 by omega) a ((a : Int) + (k : Int))) (show w.heap.size ≤ w.heap.size + 1 + 1 by omega) ((a : Int) + (k : Int)) b)
    generalize store2 (store2 W (w.heap.size + 1) a ((a : Int) + (k : Int))) (w.heap.size + 1 + 1) ((a : Int) + (k : Int)) b = V at *
    obtain ⟨c0, c1, _⟩ := e1
    obtain ⟨d0, d1, _⟩ := e2
    refine bodyPost_ret_by (v := .tuple #[.agg #[.int .i64 a, .int .i64 ((a : Int) + (k : Int))], .agg #[.int .i64 ((a : Int) + (k : Int)), .int .i64 b]]) (by rw [results_cells rfl]; go_simp) rfl ?_
    exact ⟨by rw [Int.natCast_add], hBV.out.drew⟩
end Go.Proofs.YtaaldkkfedinpaaDoor
