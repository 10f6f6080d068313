/- Walk of prove.walk over a range's parts. -/
import Derived.Test.YtaaldkkfedinpaaDoorWalk
import Derived.Deep.RegionHeld3
import Derived.Deep.DeepCutAuto
import Derived.Deep.CutBlock
set_option maxRecDepth 100000
namespace Go.Proofs.YtaaldkkfedinpaaDoor
open Go Go.RowKit

theorem base_less {w : World} {base base' e size n : Nat} {v : Value} {xs : List Value} (h : w.ownsRow base' e size v n xs) (hb : base ≤ base') : w.ownsRow base e size v n xs := by
  refine ⟨h.1, ?_⟩
  rcases h.2 with h8 | ⟨g, cap, cur, e1, e2, e3⟩
  · exact .inl h8
  · exact .inr ⟨g, cap, cur, e1, Nat.le_trans hb e2, e3⟩
theorem bel_grown {W W' : World} (h : Below W.heap.size W W') : W.grownBy W' none := ⟨h.os, h.tape, h.output, h.size, fun b hlt _ => h.block b hlt⟩
theorem part_info : (Tryd.prog.info? 77).map (fun i => (i.zero, i.size, i.bytes)) = some (some (.agg #[.int .i64 0, .int .i64 0]), 2, 16) := by kernel_rfl
theorem range_what (p5 p6 lo hi a b : Nat) (w : World) (c5 : w.cell? ⟨p5, 0, none⟩ = some (.int .i64 lo)) (c6 : w.cell? ⟨p6, 0, none⟩ = some (.int .i64 hi)) :
    Calls Tryd.prog 51 #[.agg #[.int .i64 a, .int .i64 b], .pointer (some ⟨p5, 0, none⟩), .pointer (some ⟨p6, 0, none⟩)] w fun e w' => e = .returned (.tuple #[.bool (wtR lo hi a b), .bool (itR lo hi a b)]) ∧ Below w.heap.size w w' := by
  have hb := (Below.refl w.heap.size w).alloc (Nat.le_refl _) (.cells #[.int .i64 a, .int .i64 b] 77)
  have k5 := (hb.cell (World.block_lt_of_cell? _ _ c5)).trans c5
  have k6 := (hb.cell (World.block_lt_of_cell? _ _ c6)).trans c6
  have pA := P2.new w a b
  obtain ⟨W, hW⟩ : ∃ W, w.alloc (.cells #[.int .i64 a, .int .i64 b] 77) = W := ⟨_, rfl⟩
  rw [hW] at hb k5 k6 pA
  obtain ⟨q0, q1, _⟩ := pA
  have HB := hid hb
  have HW := hid hW
  have HW1 : Hid (wtR lo hi a b = decide (b ≤ lo ∨ hi ≤ a)) := rfl
  have HI1 : Hid (itR lo hi a b = decide (a < lo ∨ hi < b)) := rfl
  generalize wtR lo hi a b = x at *
  generalize itR lo hi a b = y at *
  clear hb hW c5 c6
  by_cases h1 : b ≤ lo
  · have e1 : (b : Int) ≤ (lo : Int) := by omega
    have HX : Hid (x = true) := by unfold Hid; rw [HW1.out]; exact decide_eq_true (.inl h1)
    by_cases h3 : a < lo
    · have e3 : (a : Int) < (lo : Int) := by omega
      have HY : Hid (y = true) := by unfold Hid; rw [HI1.out]; exact decide_eq_true (.inl h3)
      clear HW1 HI1
      go_enter Tryd.func51, Tryd.ntmps51
      go_upto_region 1 with fail
      rw [HW.out]
      go_quiet (fail)
      go_wp2_with fail
      go_ret2
      exact ⟨by rw [HX.out, HY.out]; rfl, below_drewN HB.out _⟩
    · have e3 : ¬ (a : Int) < (lo : Int) := by omega
      by_cases h4 : hi < b
      · have e4 : (hi : Int) < (b : Int) := by omega
        have HY : Hid (y = true) := by unfold Hid; rw [HI1.out]; exact decide_eq_true (.inr h4)
        clear HW1 HI1
        go_enter Tryd.func51, Tryd.ntmps51
        go_upto_region 1 with fail
        rw [HW.out]
        go_quiet (fail)
        go_wp2_with fail
        go_ret2
        exact ⟨by rw [HX.out, HY.out]; rfl, below_drewN HB.out _⟩
      · have e4 : ¬ (hi : Int) < (b : Int) := by omega
        have HY : Hid (y = false) := by unfold Hid; rw [HI1.out]; exact decide_eq_false (by omega)
        clear HW1 HI1
        go_enter Tryd.func51, Tryd.ntmps51
        go_upto_region 1 with fail
        rw [HW.out]
        go_quiet (fail)
        go_wp2_with fail
        go_ret2
        exact ⟨by rw [HX.out, HY.out]; rfl, below_drewN HB.out _⟩
  · have e1 : ¬ (b : Int) ≤ (lo : Int) := by omega
    by_cases h2 : hi ≤ a
    · have e2 : (hi : Int) ≤ (a : Int) := by omega
      have HX : Hid (x = true) := by unfold Hid; rw [HW1.out]; exact decide_eq_true (.inr h2)
      by_cases h3 : a < lo
      · have e3 : (a : Int) < (lo : Int) := by omega
        have HY : Hid (y = true) := by unfold Hid; rw [HI1.out]; exact decide_eq_true (.inl h3)
        clear HW1 HI1
        go_enter Tryd.func51, Tryd.ntmps51
        go_upto_region 1 with fail
        rw [HW.out]
        go_quiet (fail)
        go_wp2_with fail
        go_ret2
        exact ⟨by rw [HX.out, HY.out]; rfl, below_drewN HB.out _⟩
      · have e3 : ¬ (a : Int) < (lo : Int) := by omega
        by_cases h4 : hi < b
        · have e4 : (hi : Int) < (b : Int) := by omega
          have HY : Hid (y = true) := by unfold Hid; rw [HI1.out]; exact decide_eq_true (.inr h4)
          clear HW1 HI1
          go_enter Tryd.func51, Tryd.ntmps51
          go_upto_region 1 with fail
          rw [HW.out]
          go_quiet (fail)
          go_wp2_with fail
          go_ret2
          exact ⟨by rw [HX.out, HY.out]; rfl, below_drewN HB.out _⟩
        · have e4 : ¬ (hi : Int) < (b : Int) := by omega
          have HY : Hid (y = false) := by unfold Hid; rw [HI1.out]; exact decide_eq_false (by omega)
          clear HW1 HI1
          go_enter Tryd.func51, Tryd.ntmps51
          go_upto_region 1 with fail
          rw [HW.out]
          go_quiet (fail)
          go_wp2_with fail
          go_ret2
          exact ⟨by rw [HX.out, HY.out]; rfl, below_drewN HB.out _⟩
    · have e2 : ¬ (hi : Int) ≤ (a : Int) := by omega
      have HX : Hid (x = false) := by unfold Hid; rw [HW1.out]; exact decide_eq_false (by omega)
      by_cases h3 : a < lo
      · have e3 : (a : Int) < (lo : Int) := by omega
        have HY : Hid (y = true) := by unfold Hid; rw [HI1.out]; exact decide_eq_true (.inl h3)
        clear HW1 HI1
        go_enter Tryd.func51, Tryd.ntmps51
        go_upto_region 1 with fail
        rw [HW.out]
        go_quiet (fail)
        go_wp2_with fail
        go_ret2
        exact ⟨by rw [HX.out, HY.out]; rfl, below_drewN HB.out _⟩
      · have e3 : ¬ (a : Int) < (lo : Int) := by omega
        by_cases h4 : hi < b
        · have e4 : (hi : Int) < (b : Int) := by omega
          have HY : Hid (y = true) := by unfold Hid; rw [HI1.out]; exact decide_eq_true (.inr h4)
          clear HW1 HI1
          go_enter Tryd.func51, Tryd.ntmps51
          go_upto_region 1 with fail
          rw [HW.out]
          go_quiet (fail)
          go_wp2_with fail
          go_ret2
          exact ⟨by rw [HX.out, HY.out]; rfl, below_drewN HB.out _⟩
        · have e4 : ¬ (hi : Int) < (b : Int) := by omega
          have HY : Hid (y = false) := by unfold Hid; rw [HI1.out]; exact decide_eq_false (by omega)
          clear HW1 HI1
          go_enter Tryd.func51, Tryd.ntmps51
          go_upto_region 1 with fail
          rw [HW.out]
          go_quiet (fail)
          go_wp2_with fail
          go_ret2
          exact ⟨by rw [HX.out, HY.out]; rfl, below_drewN HB.out _⟩
set_option maxHeartbeats 2000000 in
theorem prove_walk (p5 p6 lo hi : Nat) (f : Nat) : ∀ (a b : Nat), a < b → ceilN (b - a) < f → b ≤ 4611686018427387904 → f ≤ 63 → ∀ w : World, w.cell? ⟨p5, 0, none⟩ = some (.int .i64 lo) → w.cell? ⟨p6, 0, none⟩ = some (.int .i64 hi) →
    Calls Tryd.prog 50 #[.agg #[.int .i64 a, .int .i64 b], .func (.func 51) #[] #[.pointer (some ⟨p5, 0, none⟩), .pointer (some ⟨p6, 0, none⟩)]] w fun e w' => ∃ v, e = .returned v ∧
      w'.ownsRow w.heap.size 77 2 v (outP (wtR lo hi) (itR lo hi) f a b).length (partsV (outP (wtR lo hi) (itR lo hi) f a b)) ∧ Below w.heap.size w w' := by
  induction f with
  | zero => intro a b _ h; omega
  | succ f ih =>
    intro a b hab hcl hb62 hf w c5 c6
    obtain ⟨W, hW⟩ : ∃ W, w.alloc (.cells #[.int .i64 a, .int .i64 b] 77) = W := ⟨_, rfl⟩
    have bW : Below w.heap.size w W := by rw [← hW]; exact (Below.refl w.heap.size w).alloc (Nat.le_refl _) _
    have pA : P2 w.heap.size a b W := by rw [← hW]; exact P2.new w a b
    have k5 := (bW.cell (World.block_lt_of_cell? _ _ c5)).trans c5
    have k6 := (bW.cell (World.block_lt_of_cell? _ _ c6)).trans c6
    have HWT := hid (range_what p5 p6 lo hi a b W k5 k6)
    have HO : Hid (outP (wtR lo hi) (itR lo hi) (f + 1) a b = if wtR lo hi a b = true then [(a, b)] else if itR lo hi a b = false then [] else outP (wtR lo hi) (itR lo hi) f a (a + sp (b - a)) ++ outP (wtR lo hi) (itR lo hi) f (a + sp (b - a)) b) := rfl
    have HS := hid (range_split lo hi a b hab)
    have hln := outR_len lo hi (f + 1) a b hab
    have BW := hid bW
    have PA := hid pA
    have HW := hid hW
    have HK5 := hid k5
    have HK6 := hid k6
    obtain ⟨q0, q1, _⟩ := pA
    generalize outP (wtR lo hi) (itR lo hi) (f + 1) a b = L at *
    generalize hx : wtR lo hi a b = x at *
    generalize hy : itR lo hi a b = y at *
    have IH := hid ih
    clear bW hW k5 k6 c5 c6 hx hy ih
    go_enter Tryd.func50, Tryd.ntmps50
    go_upto_region 1 with fail
    rw [HW.out]
    clear HW
    go_wp2_with fail
    refine HWT.out.mono ?_
    rintro e w1 ⟨rfl, d1⟩
    have PA1 := hid (PA.out.below d1)
    have B1 := hid (Below.then' BW.out d1)
    have HK5' := hid ((d1.cell (World.block_lt_of_cell? _ _ HK5.out)).trans HK5.out)
    have HK6' := hid ((d1.cell (World.block_lt_of_cell? _ _ HK6.out)).trans HK6.out)
    clear d1 q0 q1 HWT PA HK5 HK6
    obtain ⟨q0, q1, _⟩ := PA1.out
    cases x with
    | true =>
      have HL : Hid (L = [(a, b)]) := by unfold Hid; rw [HO.out, if_pos rfl]
      clear HO HS IH
      go_wp2_with fail
      go_ret
      refine ⟨_, rfl, ?_, B1.out.alloc B1.out.size _⟩
      rw [HL.out]
      exact own_one w1 w.heap.size B1.out.size 77 a b
    | false =>
      cases y with
      | false =>
        have HL : Hid (L = []) := by unfold Hid; rw [HO.out, if_neg (by simp), if_pos rfl]
        clear HO HS IH
        go_wp2_with fail
        go_ret
        refine ⟨_, rfl, ?_, B1.out⟩
        rw [HL.out]
        exact World.ownsRow_nil _ _ _ _
      | true =>
        have h2 := HS.out rfl rfl
        have hsp := sp_pos (b - a)
        have hspl := sp_lt (b - a) (by omega)
        have hc1 := ceil_sp (b - a) (by omega)
        have hc2 := ceil_rest (b - a) (by omega)
        have HH := prove_halves a b h2 hb62 w1
        have HL : L = outP (wtR lo hi) (itR lo hi) f a (a + sp (b - a)) ++ outP (wtR lo hi) (itR lo hi) f (a + sp (b - a)) b := by rw [HO.out, if_neg (by simp), if_neg (by simp)]
        obtain ⟨c, hc⟩ : ∃ c, c = a + sp (b - a) := ⟨_, rfl⟩
        rw [show sp (b - a) = c - a by omega] at hc1 hc2 hsp hspl
        rw [← hc] at HH HL
        have hca : a < c := by omega
        have hcb : c < b := by omega
        have I1 := hid (IH.out a c hca (by omega) (by omega) (by omega))
        have I2 := hid (IH.out c b hcb (by rw [show b - c = b - a - (c - a) by omega]; omega) hb62 (by omega))
        generalize outP (wtR lo hi) (itR lo hi) f a c = L1 at *
        generalize outP (wtR lo hi) (itR lo hi) f c b = L2 at *
        have hl12 : L1.length + L2.length ≤ 126 := by rw [HL, List.length_append] at hln; omega
        have HLL := hid HL
        have HHH := hid HH
        clear HO HS IH hc hc1 hc2 hsp hspl HL HH h2
        go_wp2_with fail
        refine HHH.out.mono ?_
        rintro e w2 ⟨rfl, d2⟩
        have B2 := hid (Below.then' B1.out d2)
        have K5 := hid ((d2.cell (World.block_lt_of_cell? _ _ HK5'.out)).trans HK5'.out)
        have K6 := hid ((d2.cell (World.block_lt_of_cell? _ _ HK6'.out)).trans HK6'.out)
        clear d2 q0 q1 HHH HK5' HK6' PA1
        have hP1 := (P2.new w2 a c).below ((Below.refl _ _).alloc (Nat.le_refl _) (.cells #[.int .i64 c, .int .i64 b] 77))
        have hP2 := P2.new (w2.alloc (.cells #[.int .i64 a, .int .i64 c] 77)) c b
        rw [show (w2.alloc (.cells #[.int .i64 a, .int .i64 c] 77)).heap.size = w2.heap.size + 1 by simp] at hP2
        have b3 : Below w2.heap.size w2 ((w2.alloc (.cells #[.int .i64 a, .int .i64 c] 77)).alloc (.cells #[.int .i64 c, .int .i64 b] 77)) := ((Below.refl w2.heap.size w2).alloc (Nat.le_refl _) _).alloc (by simp) _
        have hs3 : ((w2.alloc (.cells #[.int .i64 a, .int .i64 c] 77)).alloc (.cells #[.int .i64 c, .int .i64 b] 77)).heap.size = w2.heap.size + 2 := by simp
        obtain ⟨W3, hW3⟩ : ∃ W, (w2.alloc (.cells #[.int .i64 a, .int .i64 c] 77)).alloc (.cells #[.int .i64 c, .int .i64 b] 77) = W := ⟨_, rfl⟩
        rw [hW3] at hP1 hP2 b3 hs3
        have HW3 := hid hW3
        have B3 := hid (Below.then' B2.out b3)
        have HI1 : Hid (∀ W', Below W3.heap.size W3 W' → Calls Tryd.prog 50 #[.agg #[.int .i64 a, .int .i64 c], .func (.func 51) #[] #[.pointer (some ⟨p5, 0, none⟩), .pointer (some ⟨p6, 0, none⟩)]] W' fun e w' => ∃ v, e = .returned v ∧ w'.ownsRow W3.heap.size 77 2 v L1.length (partsV L1) ∧ Below W'.heap.size W' w' ∧ Below W3.heap.size W3 w') := by
          intro W' hb'
          have hk := fun {p : Addr} {v : Value} (hc : w2.cell? p = some v) => ((Below.then' b3 hb').cell (World.block_lt_of_cell? _ _ hc)).trans hc
          refine (I1.out W' (hk K5.out) (hk K6.out)).mono ?_
          rintro e w' ⟨v, h1, h2, h3⟩
          exact ⟨v, h1, base_less h2 hb'.size, h3, Below.then' hb' h3⟩
        have HI2 : Hid (∀ W', Below W3.heap.size W3 W' → Calls Tryd.prog 50 #[.agg #[.int .i64 c, .int .i64 b], .func (.func 51) #[] #[.pointer (some ⟨p5, 0, none⟩), .pointer (some ⟨p6, 0, none⟩)]] W' fun e w' => ∃ v, e = .returned v ∧ w'.ownsRow W3.heap.size 77 2 v L2.length (partsV L2) ∧ Below W'.heap.size W' w' ∧ Below W3.heap.size W3 w') := by
          intro W' hb'
          have hk := fun {p : Addr} {v : Value} (hc : w2.cell? p = some v) => ((Below.then' b3 hb').cell (World.block_lt_of_cell? _ _ hc)).trans hc
          refine (I2.out W' (hk K5.out) (hk K6.out)).mono ?_
          rintro e w' ⟨v, h1, h2, h3⟩
          exact ⟨v, h1, base_less h2 hb'.size, h3, Below.then' hb' h3⟩
        have hwl := B2.out.size
        obtain ⟨x0, x1, _⟩ := hP1
        obtain ⟨y0, y1, _⟩ := hP2
        clear I1 I2 K5 K6 b3 hW3
        go_upto_region 7 with fail
        rw [HW3.out]
        clear HW3
        go_cut [4] (fun v wc => wc.ownsRow w.heap.size 77 2 v (L1.length + L2.length) (partsV L1 ++ partsV L2) ∧ Below w.heap.size w wc)
        case first =>
          have D0 := hid ((Below.refl W3.heap.size W3).drew)
          go_region_held3 (fun V => V.cell? ⟨w2.heap.size, 0, none⟩ = some (.int .i64 a) ∧ V.cell? ⟨w2.heap.size, 1, none⟩ = some (.int .i64 c) ∧ V.cell? ⟨w2.heap.size + 1, 0, none⟩ = some (.int .i64 c) ∧ V.cell? ⟨w2.heap.size + 1, 1, none⟩ = some (.int .i64 b)) (go_keep) (first
            | (go_at_call 50; (with_reducible refine Calls.mono (HI1.out _ ?hb) ?_); (case hb => exact Hid.out (show Hid (Below W3.heap.size W3 _) by assumption)); rintro e w4 ⟨v1, rfl, r1, _, d4⟩; have R1 := hid r1; have D4 := hid d4; have m0 := (d4.cell (World.block_lt_of_cell? _ _ x0)).trans x0; have m1 := (d4.cell (World.block_lt_of_cell? _ _ x1)).trans x1; have m2 := (d4.cell (World.block_lt_of_cell? _ _ y0)).trans y0; have m3 := (d4.cell (World.block_lt_of_cell? _ _ y1)).trans y1; clear r1 d4)
            | (go_at_call 50; (with_reducible refine Calls.mono (HI2.out _ ?hb) ?_); (case hb => exact Hid.out (show Hid (Below W3.heap.size W3 _) by assumption)); rintro e w5 ⟨v2, rfl, r2, d5, d5'⟩; have R1b := hid (kept_row R1.out (bel_grown d5) (fun q _ e => by cases e)); have R2 := hid r2; have D5 := hid d5'; have o0 := (d5'.cell (World.block_lt_of_cell? _ _ x0)).trans x0; have o1 := (d5'.cell (World.block_lt_of_cell? _ _ x1)).trans x1; have o2 := (d5'.cell (World.block_lt_of_cell? _ _ y0)).trans y0; have o3 := (d5'.cell (World.block_lt_of_cell? _ _ y1)).trans y1; clear r2 d5 d5')
            | (refine step_append_rows W3.heap.size W3.heap.size (by rfl) (.tmp 27) (.tmp 30) 85 77 (.agg #[.int .i64 0, .int .i64 0]) 2 16 (by rfl) Tryd.underlying85 part_info rfl (by decide) (by decide) v1 v2 L1.length L2.length (partsV L1) (partsV L2) (by rfl) (by rfl) (partsV_one L2) R1b.out R2.out D5.out.size (by omega) ?_; intro v3 w6 hown6 hg6; have HO6 := hid hown6; have HG6 := hid hg6; have D6 := hid (D5.out.grown hg6 D5.out.size (fun q hq => (R1b.out.lt q hq).1)); have u0 := (D6.out.cell (World.block_lt_of_cell? _ _ x0)).trans x0; have u1 := (D6.out.cell (World.block_lt_of_cell? _ _ x1)).trans x1; have u2 := (D6.out.cell (World.block_lt_of_cell? _ _ y0)).trans y0; have u3 := (D6.out.cell (World.block_lt_of_cell? _ _ y1)).trans y1; clear hown6 hg6))
          all_goals
            go_wp2_with fail
            go_meet
            case rel => exact ⟨base_less HO6.out B3.out.size, Below.then' B3.out D6.out⟩
        case rest =>
        obtain ⟨hr, hB⟩ := hcut
        have HR := hid hr
        have HB := hid hB
        clear hr hB
        go_wp2_with fail
        go_ret
        refine ⟨_, rfl, ?_, HB.out⟩
        rw [HLL.out, List.length_append, partsV_append]
        exact HR.out
end Go.Proofs.YtaaldkkfedinpaaDoor
