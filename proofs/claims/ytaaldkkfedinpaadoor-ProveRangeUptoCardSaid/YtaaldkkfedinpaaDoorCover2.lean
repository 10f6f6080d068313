/- tree.Cover. -/
import Derived.Test.YtaaldkkfedinpaaDoorCover
import Derived.Test.YtaaldkkfedinpaaDoorOwnS
set_option maxRecDepth 100000
namespace Go.Proofs.YtaaldkkfedinpaaDoor
open Go Go.RowKit
attribute [local go_sem] Oper.semAt_some

theorem tz_ge (k : Nat) : ∀ n, n ≠ 0 → n % 2 ^ k = 0 → k ≤ tz n := by
  induction k with
  | zero => intro n _ _; omega
  | succ k ih =>
    intro n h0 h
    rw [Nat.pow_succ] at h
    have h2 : n % 2 = 0 := Nat.mod_eq_zero_of_dvd (Nat.dvd_trans (Nat.dvd_mul_left 2 (2 ^ k)) (Nat.dvd_of_mod_eq_zero h))
    have h3 : n / 2 % 2 ^ k = 0 := by
      rw [Nat.mul_comm, Nat.mod_mul] at h
      omega
    rw [tz_even n h0 h2]
    have := ih (n / 2) (by omega) h3
    omega
theorem zeros_dvd (p z : Nat) (hz : z ≤ zerosN p) : p % 2 ^ z = 0 := by
  unfold zerosN at hz
  split at hz
  · rename_i h; subst h; simp
  · rename_i h
    have h1 := (tz_dvd p h).1
    exact Nat.mod_eq_zero_of_dvd (Nat.dvd_trans (Nat.pow_dvd_pow 2 hz) (Nat.dvd_of_mod_eq_zero h1))
theorem cover_down (hi : Nat) (hh : hi ≤ 4611686018427387904) (N : Nat) : ∀ p, hi - p ≤ N → p < hi → bits (hi - p) - 1 ≤ zerosN p → (coverN p hi).length ≤ bits (hi - p) := by
  induction N with
  | zero => intro p h1 h2; omega
  | succ N ih =>
    intro p hN hp hz
    have hb := bits_pos (hi - p) (by omega)
    have hb63 := bits_le (hi - p) 63 (by omega)
    have hl : levN p hi = bits (hi - p) - 1 := by unfold levN; omega
    have hge := bits_ge (hi - p) (by omega)
    have hlt := lt_bits (hi - p)
    obtain ⟨b, hbb⟩ : ∃ b, bits (hi - p) = b + 1 := ⟨bits (hi - p) - 1, by omega⟩
    rw [hbb] at hge hlt hl hz ⊢
    rw [Nat.add_sub_cancel] at hge hl hz
    rw [Nat.pow_succ] at hlt
    have hP := Nat.pow_pos (n := b) (show 0 < 2 by decide)
    rw [cover_some p hi hp, hl, List.length_cons]
    by_cases hd : p + 2 ^ b < hi
    · have hb2 : bits (hi - (p + 2 ^ b)) ≤ b := bits_le _ b (by omega)
      have hz2 : b ≤ zerosN (p + 2 ^ b) := by
        unfold zerosN
        rw [if_neg (by omega)]
        exact tz_ge b _ (by omega) (by rw [Nat.add_mod_right]; exact zeros_dvd p b hz)
      have := ih (p + 2 ^ b) (by omega) hd (by omega)
      omega
    · rw [cover_none _ _ hd]; simp
theorem cover_up (hi : Nat) (hh : hi ≤ 4611686018427387904) (m : Nat) : ∀ p, p < hi → 63 ≤ zerosN p + m → (coverN p hi).length ≤ 63 + m := by
  induction m with
  | zero =>
    intro p hp hz
    have hb63 := bits_le (hi - p) 63 (by omega)
    have := cover_down hi hh (hi - p) p (by omega) hp (by omega)
    omega
  | succ m ih =>
    intro p hp hz
    have hb63 := bits_le (hi - p) 63 (by omega)
    by_cases hd : bits (hi - p) - 1 ≤ zerosN p
    · have := cover_down hi hh (hi - p) p (by omega) hp hd
      omega
    · have hl : levN p hi = zerosN p := by unfold levN; omega
      have h0 : p ≠ 0 := by
        intro e; subst e; unfold zerosN at hd; rw [if_pos rfl] at hd; omega
      rw [cover_some p hi hp, hl, List.length_cons]
      by_cases hn : p + 2 ^ zerosN p < hi
      · have hz2 : zerosN p + 1 ≤ zerosN (p + 2 ^ zerosN p) := by
          have he : zerosN p = tz p := by unfold zerosN; rw [if_neg h0]
          have hd := tz_dvd p h0
          rw [he]
          unfold zerosN
          rw [if_neg (by omega)]
          refine tz_ge _ _ (by omega) ?_
          have e1 : p = 2 ^ tz p * (p / 2 ^ tz p) := by
            have := Nat.div_add_mod p (2 ^ tz p)
            rw [hd.1] at this; omega
          obtain ⟨q, hq⟩ : ∃ q, q = p / 2 ^ tz p := ⟨_, rfl⟩
          rw [← hq] at e1 hd
          obtain ⟨t, ht⟩ : ∃ t, t = tz p := ⟨_, rfl⟩
          rw [← ht] at e1 ⊢
          rw [e1, show 2 ^ t * q + 2 ^ t = 2 ^ t * (q + 1) by rw [Nat.mul_add, Nat.mul_one], Nat.pow_succ, Nat.mul_mod_mul_left, show (q + 1) % 2 = 0 by omega, Nat.mul_zero]
        have := ih (p + 2 ^ zerosN p) hn (by omega)
        omega
      · rw [cover_none _ _ hn]; simp; omega
theorem cover_len (lo hi : Nat) (hh : hi ≤ 4611686018427387904) : (coverN lo hi).length ≤ 126 := by
  by_cases h : lo < hi
  · have := cover_up hi hh 63 lo h (by omega)
    omega
  · rw [cover_none _ _ h]; simp
theorem pieces_in (n : Nat) (lo hi : Int) (w : World) :
    CallsIn Fence.wide n Tryd.prog 88 #[.int .i64 lo, .int .i64 hi] w fun e w' => e = .returned (.func (.func 115) #[] #[.pointer (some ⟨w.heap.size, 0, none⟩), .pointer (some ⟨w.heap.size + 1, 0, none⟩)]) ∧ w' = (w.alloc (.cells #[.int .i64 lo] 3)).alloc (.cells #[.int .i64 hi] 3) := by
  refine callsIn_of_wp Tryd.func88 rfl trivial ?_ rfl
  simp only [Tryd.ntmps88, List.size_toArray, List.length_cons, List.length_nil, Nat.reduceAdd, Nat.reduceSub, Array.replicate_succ, Array.replicate_zero, List.push_toArray, List.append_toArray, List.nil_append, List.cons_append]
  gi_wp2
  go_ret
  exact ⟨rfl, rfl⟩
theorem pieces_stops (n : Nat) (hn : 1 ≤ n) (B1 B2 lo hi : Nat) (hh : hi ≤ 4611686018427387904) (hl : lo ≤ hi) (w : World) (h1 : B1 < w.heap.size) (h2 : B2 < w.heap.size) (hB1 : w.cell? ⟨B1, 0, none⟩ = some (.int .i64 lo)) (hB2 : w.cell? ⟨B2, 0, none⟩ = some (.int .i64 hi)) :
    SeqStopsK Fence.wide n Tryd.prog 115 #[.pointer (some ⟨B1, 0, none⟩), .pointer (some ⟨B2, 0, none⟩)] (fun x : Nat × Nat => #[.agg (addrV x).toArray]) (fun A B => ∀ v, A.cell? ⟨B2, 0, none⟩ = some v → B.cell? ⟨B2, 0, none⟩ = some v)
      (fun ys => ys = coverN lo hi) (fun pre => pre <+: coverN lo hi) (coverN lo hi).length w := fun l J Jx W hW hJ _ hY h0 =>
  pieces1_in n hn l B1 B2 lo hi hh hl J Jx hY (fun pre W' h => hJ pre W' _ none h ⟨rfl, rfl, rfl, Nat.le_refl _, fun _ _ _ => rfl⟩ (fun r e => by cases e)) W ((hW.cell (p := ⟨B1, 0, none⟩) h1).trans hB1) ((hW.cell (p := ⟨B2, 0, none⟩) h2).trans hB2) h0
theorem infoAddr : (Tryd.prog.info? 84).map (fun i => (i.zero, i.size, i.bytes)) = some (some (.agg #[.int .i64 0, .int .i64 0]), 2, 16) := by kernel_rfl
def addrsV (l : List (Nat × Nat)) : List Value := l.flatMap addrV
theorem addrsV_snoc (l : List (Nat × Nat)) (x : Nat × Nat) : addrsV (l ++ [x]) = addrsV l ++ addrV x := by simp [addrsV]
/-- The loop variable's box. -/
def Arr2 (B : Nat) (x : Nat × Nat) (W : World) : Prop := W.heap[B]? = some (.cells #[.int .i64 x.1, .int .i64 x.2] 84 (0, 0))
theorem Arr2.lt {B : Nat} {x : Nat × Nat} {W : World} (h : Arr2 B x W) : B < W.heap.size := (Array.getElem?_eq_some_iff.1 h).1
theorem Arr2.kept {B : Nat} {x : Nat × Nat} {W W' : World} {row : Option Nat} (h : Arr2 B x W) (hg : W.grownBy W' row) (hr : ∀ r, row = some r → ∃ o : Obj, W.heap[r]? = some o ∧ o.isCells = false) : Arr2 B x W' :=
  (hg.block B h.lt (fun e => by obtain ⟨o, ho, hc⟩ := hr B e.symm; rw [show W.heap[B]? = _ from h] at ho; cases ho; cases hc)).trans h
theorem Arr2.cells {B : Nat} {x : Nat × Nat} {W : World} (h : Arr2 B x W) : W.cell? ⟨B, 0, none⟩ = some (.int .i64 x.1) ∧ W.cell? ⟨B, 1, none⟩ = some (.int .i64 x.2) := by
  constructor <;> simp [World.cell?, show W.heap[B]? = _ from h]
set_option maxHeartbeats 2000000 in
theorem cover_good_in (n : Nat) (hn : 3 ≤ n) (lo hi : Nat) (hl : lo ≤ hi) (hh : hi ≤ 4611686018427387904) (w : World) :
    CallsIn Fence.wide n Tryd.prog 69 #[.int .i64 lo, .int .i64 hi] w fun e W' => ∃ v, e = .returned (.tuple #[v, .int .i64 0]) ∧ W'.ownsRow w.heap.size 84 2 v (coverN lo hi).length (addrsV (coverN lo hi)) ∧ Below w.heap.size w W' := by
  have h1 : 1 ≤ n := by omega
  have hcl := cover_len lo hi hh
  obtain ⟨i0, hi0, hz0, hz1, hz2⟩ := info_parts infoAddr
  have e1 : decide ((lo : Int) < 0) = false := by simp
  have e2 : decide ((4611686018427387904 : Int) < (hi : Int)) = false := by simp; omega
  have e3 : decide ((hi : Int) < (lo : Int)) = false := by simp; omega
  refine callsIn_of_wp_marks Tryd.func69 rfl trivial ?_ rfl
  simp only [Tryd.ntmps69, List.size_toArray, List.length_cons, List.length_nil, Nat.reduceAdd, Nat.reduceSub, Array.replicate_succ, Array.replicate_zero, List.push_toArray, List.append_toArray, List.nil_append, List.cons_append]
  gi_wp2_with (refine ⟨trivial, ?_⟩; gi_at_call 88; refine (pieces_in (n - 1) _ _ _).mono ?_; rintro e w' ⟨rfl, rfl⟩)
  have bL := ((Boxed.new w 37 (.slice none 0 0)).alloc (.cells #[.int .i64 lo] 3)).alloc (.cells #[.int .i64 hi] 3)
  have b1 := (Boxed.new (w.alloc (.cells #[.slice none 0 0] 37)) 3 (.int .i64 lo)).alloc (.cells #[.int .i64 hi] 3)
  have b2 := Boxed.new ((w.alloc (.cells #[.slice none 0 0] 37)).alloc (.cells #[.int .i64 lo] 3)) 3 (.int .i64 hi)
  simp only [World.size_alloc] at b1 b2
  have hB0 : Below w.heap.size w (((w.alloc (.cells #[.slice none 0 0] 37)).alloc (.cells #[.int .i64 lo] 3)).alloc (.cells #[.int .i64 hi] 3)) := (((Below.refl _ w).alloc (Nat.le_refl _) _).alloc (by simp) _).alloc (by simp; omega) _
  have hsz : (((w.alloc (.cells #[.slice none 0 0] 37)).alloc (.cells #[.int .i64 lo] 3)).alloc (.cells #[.int .i64 hi] 3)).heap.size = w.heap.size + 3 := by simp
  obtain ⟨W0, hW0⟩ : ∃ W0, ((w.alloc (.cells #[.slice none 0 0] 37)).alloc (.cells #[.int .i64 lo] 3)).alloc (.cells #[.int .i64 hi] 3) = W0 := ⟨_, rfl⟩
  rw [hW0] at bL b1 b2 hB0 hsz ⊢
  clear hW0
  refine wpIn_rangeFunc_ownH rfl h1 (gf := 115) (lb := #[.pointer (some ⟨w.heap.size + 1, 0, none⟩), .pointer (some ⟨w.heap.size + 1 + 1, 0, none⟩)]) rfl trivial (enters_of Tryd.func115 (by kernel_rfl) rfl)
    (pieces_stops (n - 1) (by omega) (w.heap.size + 1) (w.heap.size + 1 + 1) lo hi hh hl W0 (by omega) (by omega) b1.cell b2.cell) (fun h k v hv => k v (h v hv))
    (fun W l o o' hl _ _ _ v hv => by rw [← hv]; exact World.cell?_of_block (World.putObj_heap_other (by show w.heap.size + 1 + 1 ≠ l; omega))) (Below.refl _ _) (fun _ => rfl)
    (fun pre W => ((∃ v, Boxed W w.heap.size 37 v ∧ W.ownsRow w.heap.size 84 2 v pre.length (addrsV pre) ∧ True) ∧ Boxed W (w.heap.size + 1 + 1) 3 (.int .i64 hi)) ∧ Below w.heap.size w W)
    (fun _ _ _ => False)
    (OwnFrom.and (OwnFrom.and (Own.from (holdsRow_own w.heap.size w.heap.size 37 84 2 (fun pre => List.length pre) (fun pre => addrsV pre) (fun _ _ => True)) _) (Own.from (boxed_own _ _ _) _)) (ownFrom_below (Nat.le_refl _) (by omega)))
    (fun _ _ _ _ _ hs _ _ => hs)
    ⟨⟨⟨_, bL, World.ownsRow_nil _ _ _ _, trivial⟩, b2⟩, hB0⟩
    (fun x a' W => ∃ Bx, w.heap.size + 1 + 1 < Bx ∧ Arr2 Bx x W ∧ a' = { tmps := #[.int .i64 lo, .int .i64 hi, undef, undef, .slice none 0 0, .int .i64 0, .pointer (some ⟨w.heap.size, 0, none⟩), .pointer (some ⟨Bx, 0, none⟩), .int .i64 lo, .bool false, .bool false, .int .i64 hi, .int .i64 lo, .bool false, .bool false, .bool false, .int .i64 hi, .bool false, .bool false, .int .i64 lo, .int .i64 hi, .func (.func 115) #[] #[.pointer (some ⟨w.heap.size + 1, 0, none⟩), .pointer (some ⟨w.heap.size + 1 + 1, 0, none⟩)], .agg (addrV x).toArray, undef, undef, undef, undef, undef], defers := [] })
    (fun x a' _ X Y row hs hg hr => by obtain ⟨Bx, h1, h2, h3⟩ := hs; exact ⟨Bx, h1, h2.kept hg (fun r e => (hr r e).2), h3⟩)
    ?assign ?body ?done ?stop
  case assign =>
    rintro l pre x W K ⟨⟨⟨v, hv, hrow, _⟩, bH⟩, hB⟩ hK
    unfold addrV
    gi_wp2
    exact hK _ _ ((KeepsOthers.alloc _ _).from _) (fun u hu => (((Below.refl _ W).alloc (Nat.le_refl _) _).cell (World.block_lt_of_cell? _ _ hu)).trans hu)
      ⟨⟨⟨v, hv.alloc _, hrow.alloc _, trivial⟩, bH.alloc _⟩, hB.alloc hB.size _⟩ ⟨W.heap.size, bH.lt, World.alloc_heap_new W _, rfl⟩
  case body =>
    rintro l pre x a' W hl' ⟨r, hr⟩ ⟨⟨⟨v, hv, hrow, _⟩, bH⟩, hB⟩ ⟨Bx, hBx, bX, rfl⟩ hlt
    have hc := hv.cell
    obtain ⟨x0, x1⟩ := bX.cells
    have hnews := fun (j : Nat) (u : Value) (hu : [Value.int .i64 x.1, Value.int .i64 x.2][j]? = some u) => news_alloc (W := W) (e := 84) j u hu
    unfold addrV
    gi_wp2_with (gi_at_builtin; refine wpListIn_append_own _ rfl _ _ 37 rfl w.heap.size 84 i0 (.agg #[.int .i64 0, .int .i64 0]) 2 16 Tryd.underlying37 hi0 hz0 hz1 hz2 rfl (by decide) _ _ _ rfl (hrow.alloc _) ⟨W.heap.size, 0, none⟩ 1 1 [.int .i64 x.1, .int .i64 x.2] rfl rfl hnews (by simp [Value.oneCell']) (by unfold maxLen; omega) (by omega) (by have := hB.size; simp; omega) ?_; intro v' w1 hown' hgrow _; obtain ⟨g', cap', rfl⟩ := ownsRow_succ hown'; obtain ⟨hv1, hv2, hr2, hk2, hb2⟩ := hv.appended (by decide) hrow hB.size (Nat.le_refl _) hown' hgrow; have bH1 := (bH.alloc (.cells #[.int .i64 x.1, .int .i64 x.2] 84)).kept hgrow (bH.not_row (by decide) hrow); have hc1 := hv1.cell; have hf1 := hv1.frozen)
    have bH2 := bH1.other (show w.heap.size + 1 + 1 ≠ w.heap.size by omega) (.slice (some ⟨g', 0, none⟩) (pre.length + 1) cap')
    exact ⟨hk2.from _, (fun u hu => by rw [bH.cell] at hu; rw [bH2.cell]; exact hu), ⟨⟨⟨_, hv2, by rw [addrsV_snoc, List.length_append]; exact hr2, trivial⟩, bH2⟩, hB.trans hb2⟩⟩
  case done =>
    rintro D ys W hD rfl ⟨⟨⟨v, hv, hrow, _⟩, bH⟩, hB⟩ hK
    have hc := hv.cell
    gi_wp2
    refine ⟨by simp, .inl ⟨_, _, rfl, run_takeDeferred hK, ?_⟩⟩
    exact ⟨_, results_tmp2 rfl _ _ _, v, rfl, ownsRow_putObj hrow _ hK rfl, hB.trans (belowK_b (w := w) (Nat.le_refl _) W D _ _ (by omega) hK rfl rfl)⟩
  case stop =>
    rintro D c pre W _ _ h _
    exact h.elim
theorem tree_Cover_good (lo hi : Nat) (hl : lo ≤ hi) (hh : hi ≤ 4611686018427387904) (w : World) :
    Calls Tryd.prog 69 #[.int .i64 lo, .int .i64 hi] w fun e W' => ∃ v, e = .returned (.tuple #[v, .int .i64 0]) ∧ W'.ownsRow w.heap.size 84 2 v (coverN lo hi).length (addrsV (coverN lo hi)) ∧ Below w.heap.size w W' :=
  callsIn_wide.1 (cover_good_in 3 (Nat.le_refl _) lo hi hl hh w)
theorem tree_Cover_bad (lo hi : Int) (h : lo < 0 ∨ hi < lo ∨ 4611686018427387904 < hi) (w : World) :
    Calls Tryd.prog 69 #[.int .i64 lo, .int .i64 hi] w fun e w' => e = .returned (.tuple #[.slice none 0 0, .int .i64 10]) ∧ w = w' := by
  by_cases h1 : lo < 0
  · clear h
    go_enter Tryd.func69, Tryd.ntmps69
    go_wp2_with fail
    go_ret2
    exact ⟨rfl, rfl⟩
  · by_cases h2 : hi < lo
    · clear h
      go_enter Tryd.func69, Tryd.ntmps69
      go_wp2_with fail
      go_ret2
      exact ⟨rfl, rfl⟩
    · have h3 : 4611686018427387904 < hi := by omega
      clear h
      go_enter Tryd.func69, Tryd.ntmps69
      go_wp2_with fail
      go_ret2
      exact ⟨rfl, rfl⟩
end Go.Proofs.YtaaldkkfedinpaaDoor
