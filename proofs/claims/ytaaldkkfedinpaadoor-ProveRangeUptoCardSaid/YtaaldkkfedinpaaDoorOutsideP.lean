/- Walk of annalsref8.outside. -/
import Derived.Test.YtaaldkkfedinpaaDoorWalk
set_option maxRecDepth 100000
namespace Go.Proofs.YtaaldkkfedinpaaDoor
open Go Go.RowKit

theorem info_refpart : (Tryd.prog.info? 92).map (fun i => (i.zero, i.size, i.bytes)) = some (some (.agg #[.int .i64 0, .int .i64 0]), 2, 16) := by kernel_rfl
theorem info_part : (Tryd.prog.info? 77).map (fun i => (i.zero, i.size, i.bytes)) = some (some (.agg #[.int .i64 0, .int .i64 0]), 2, 16) := by kernel_rfl
theorem grow_none {W W' : World} (h : Below W.heap.size W W') : W.grownBy W' none := ⟨h.os, h.tape, h.output, h.size, fun b hlt _ => h.block b hlt⟩
set_option maxHeartbeats 2000000 in
theorem ref8_outside (lo hi : Nat) (hlo : lo ≤ 4611686018427387904) (hhi : hi ≤ 4611686018427387904) (f : Nat) : ∀ (a b : Nat), a < b → ceilN (b - a) < f → b ≤ 4611686018427387904 → f ≤ 63 → ∀ w : World,
    Calls Tryd.prog 52 #[.int .i64 a, .int .i64 b, .int .i64 lo, .int .i64 hi] w fun e w' => ∃ v, e = .returned v ∧
      w'.ownsRow w.heap.size 92 2 v (outP (wtR lo hi) (itR lo hi) f a b).length (partsV (outP (wtR lo hi) (itR lo hi) f a b)) ∧ Below w.heap.size w w' := by
  induction f with
  | zero => intro a b _ h; omega
  | succ f ih =>
    intro a b hab hcl hb62 hf w
    have HO : Hid (outP (wtR lo hi) (itR lo hi) (f + 1) a b = if wtR lo hi a b = true then [(a, b)] else if itR lo hi a b = false then [] else outP (wtR lo hi) (itR lo hi) f a (a + sp (b - a)) ++ outP (wtR lo hi) (itR lo hi) f (a + sp (b - a)) b) := rfl
    have hln := outR_len lo hi (f + 1) a b hab
    generalize outP (wtR lo hi) (itR lo hi) (f + 1) a b = L at *
    have IH := hid ih
    clear ih
    by_cases h1 : b ≤ lo
    · have HL : Hid (L = [(a, b)]) := by unfold Hid; rw [HO.out, if_pos (show wtR lo hi a b = true from decide_eq_true (.inl h1))]
      have e1 : (b : Int) ≤ (lo : Int) := by omega
      clear HO IH hln hcl
      go_enter Tryd.func52, Tryd.ntmps52
      go_wp2_with fail
      go_ret
      refine ⟨_, rfl, ?_, (Below.refl _ _).alloc (Nat.le_refl _) _⟩
      rw [HL.out]
      exact own_one w w.heap.size (Nat.le_refl _) 92 a b
    · have e1 : ¬ (b : Int) ≤ (lo : Int) := by omega
      by_cases h2 : hi ≤ a
      · have HL : Hid (L = [(a, b)]) := by unfold Hid; rw [HO.out, if_pos (show wtR lo hi a b = true from decide_eq_true (.inr h2))]
        have e2 : (hi : Int) ≤ (a : Int) := by omega
        clear HO IH hln hcl
        go_enter Tryd.func52, Tryd.ntmps52
        go_wp2_with fail
        go_ret
        refine ⟨_, rfl, ?_, (Below.refl _ _).alloc (Nat.le_refl _) _⟩
        rw [HL.out]
        exact own_one w w.heap.size (Nat.le_refl _) 92 a b
      · have e2 : ¬ (hi : Int) ≤ (a : Int) := by omega
        have hwf : ¬ wtR lo hi a b = true := by rw [show wtR lo hi a b = false from decide_eq_false (by omega)]; simp
        by_cases h3 : lo ≤ a
        · have e3 : (lo : Int) ≤ (a : Int) := by omega
          by_cases h4 : b ≤ hi
          · have e4 : (b : Int) ≤ (hi : Int) := by omega
            have HL : Hid (L = []) := by unfold Hid; rw [HO.out, if_neg hwf, if_pos (show itR lo hi a b = false from decide_eq_false (by omega))]
            clear HO IH hwf h1 h2 h3 h4 hln hcl
            go_enter Tryd.func52, Tryd.ntmps52
            go_wp2_with fail
            go_ret
            refine ⟨_, rfl, ?_, Below.refl _ _⟩
            rw [HL.out]
            exact World.ownsRow_nil _ _ _ _
          · have e4 : ¬ (b : Int) ≤ (hi : Int) := by omega
            have hit : ¬ itR lo hi a b = false := by rw [show itR lo hi a b = true from decide_eq_true (by omega)]; simp
            have h5 : a + 2 ≤ b := by omega
            have hsp := sp_pos (b - a)
            have hspl := sp_lt (b - a) (by omega)
            have hc1 := ceil_sp (b - a) (by omega)
            have hc2 := ceil_rest (b - a) (by omega)
            have HSP := hid (ref8_Split ((b : Int) - (a : Int)) (by omega) (by omega))
            have HL : L = outP (wtR lo hi) (itR lo hi) f a (a + sp (b - a)) ++ outP (wtR lo hi) (itR lo hi) f (a + sp (b - a)) b := by rw [HO.out, if_neg hwf, if_neg hit]
            rw [show ((b : Int) - (a : Int)).toNat = b - a by omega] at HSP
            obtain ⟨k, hk⟩ : ∃ k, k = sp (b - a) := ⟨_, rfl⟩
            rw [← hk] at HSP HL hc1 hc2 hsp hspl
            have I1 := hid (IH.out a (a + k) (by omega) (by rw [show a + k - a = k by omega]; omega) (by omega) (by omega))
            have I2 := hid (IH.out (a + k) b (by omega) (by rw [show b - (a + k) = b - a - k by omega]; omega) hb62 (by omega))
            rw [show ((a + k : Nat) : Int) = (a : Int) + (k : Int) by omega] at I1 I2
            generalize outP (wtR lo hi) (itR lo hi) f a (a + k) = L1 at *
            generalize outP (wtR lo hi) (itR lo hi) f (a + k) b = L2 at *
            have hl12 : L1.length + L2.length ≤ 126 := by rw [HL, List.length_append] at hln; omega
            have HLL := hid HL
            have w1 : IntKind.i64.wrap ((b : Int) - (a : Int)) = (b : Int) - (a : Int) := by rw [IntKind.wrap_i64]; omega
            have w2 : IntKind.i64.wrap ((a : Int) + (k : Int)) = (a : Int) + (k : Int) := by rw [IntKind.wrap_i64]; omega
            clear HO IH hk hc1 hc2 hsp hspl HL hwf hit hln hcl h5
            go_enter Tryd.func52, Tryd.ntmps52
            go_wp2_with fail
            refine (HSP.out _).mono ?_
            rintro e w' ⟨rfl, rfl⟩
            go_wp2_with fail
            refine (I1.out _).mono ?_
            rintro e wa ⟨v1, rfl, r1, d1⟩
            have R1 := hid r1
            have B1 := hid d1
            clear r1 d1
            go_wp2_with fail
            refine (I2.out _).mono ?_
            rintro e wb ⟨v2, rfl, r2, d2⟩
            have R1' := hid (kept_row R1.out (grow_none d2) (fun q _ e => by cases e))
            have R2 := hid r2
            have B2 := hid (Below.then' B1.out d2)
            clear r2 d2
            go_wp2_with (at_builtin; refine wp_append_rows w.heap.size wa.heap.size rfl (.tmp 50) (.tmp 51) 90 92 (.agg #[.int .i64 0, .int .i64 0]) 2 16 rfl Tryd.underlying90 info_refpart rfl (by decide) (by decide) v1 v2 L1.length L2.length (partsV L1) (partsV L2) rfl rfl (partsV_one L2) R1'.out R2.out B2.out.size (by omega) ?_; intro v3 w5 hown5 hg5; have HO5 := hid hown5; have HG5 := hid hg5; clear hown5 hg5)
            go_ret
            refine ⟨v3, rfl, ?_, B2.out.grown HG5.out B2.out.size (fun q hq => (R1'.out.lt q hq).1)⟩
            rw [HLL.out, List.length_append, partsV_append]
            exact HO5.out
        · have e3 : ¬ (lo : Int) ≤ (a : Int) := by omega
          have hit : ¬ itR lo hi a b = false := by rw [show itR lo hi a b = true from decide_eq_true (by omega)]; simp
          have h5 : a + 2 ≤ b := by omega
          have hsp := sp_pos (b - a)
          have hspl := sp_lt (b - a) (by omega)
          have hc1 := ceil_sp (b - a) (by omega)
          have hc2 := ceil_rest (b - a) (by omega)
          have HSP := hid (ref8_Split ((b : Int) - (a : Int)) (by omega) (by omega))
          have HL : L = outP (wtR lo hi) (itR lo hi) f a (a + sp (b - a)) ++ outP (wtR lo hi) (itR lo hi) f (a + sp (b - a)) b := by rw [HO.out, if_neg hwf, if_neg hit]
          rw [show ((b : Int) - (a : Int)).toNat = b - a by omega] at HSP
          obtain ⟨k, hk⟩ : ∃ k, k = sp (b - a) := ⟨_, rfl⟩
          rw [← hk] at HSP HL hc1 hc2 hsp hspl
          have I1 := hid (IH.out a (a + k) (by omega) (by rw [show a + k - a = k by omega]; omega) (by omega) (by omega))
          have I2 := hid (IH.out (a + k) b (by omega) (by rw [show b - (a + k) = b - a - k by omega]; omega) hb62 (by omega))
          rw [show ((a + k : Nat) : Int) = (a : Int) + (k : Int) by omega] at I1 I2
          generalize outP (wtR lo hi) (itR lo hi) f a (a + k) = L1 at *
          generalize outP (wtR lo hi) (itR lo hi) f (a + k) b = L2 at *
          have hl12 : L1.length + L2.length ≤ 126 := by rw [HL, List.length_append] at hln; omega
          have HLL := hid HL
          have w1 : IntKind.i64.wrap ((b : Int) - (a : Int)) = (b : Int) - (a : Int) := by rw [IntKind.wrap_i64]; omega
          have w2 : IntKind.i64.wrap ((a : Int) + (k : Int)) = (a : Int) + (k : Int) := by rw [IntKind.wrap_i64]; omega
          clear HO IH hk hc1 hc2 hsp hspl HL hwf hit hln hcl h5
          go_enter Tryd.func52, Tryd.ntmps52
          go_wp2_with fail
          refine (HSP.out _).mono ?_
          rintro e w' ⟨rfl, rfl⟩
          go_wp2_with fail
          refine (I1.out _).mono ?_
          rintro e wa ⟨v1, rfl, r1, d1⟩
          have R1 := hid r1
          have B1 := hid d1
          clear r1 d1
          go_wp2_with fail
          refine (I2.out _).mono ?_
          rintro e wb ⟨v2, rfl, r2, d2⟩
          have R1' := hid (kept_row R1.out (grow_none d2) (fun q _ e => by cases e))
          have R2 := hid r2
          have B2 := hid (Below.then' B1.out d2)
          clear r2 d2
          go_wp2_with (at_builtin; refine wp_append_rows w.heap.size wa.heap.size rfl (.tmp 50) (.tmp 51) 90 92 (.agg #[.int .i64 0, .int .i64 0]) 2 16 rfl Tryd.underlying90 info_refpart rfl (by decide) (by decide) v1 v2 L1.length L2.length (partsV L1) (partsV L2) rfl rfl (partsV_one L2) R1'.out R2.out B2.out.size (by omega) ?_; intro v3 w5 hown5 hg5; have HO5 := hid hown5; have HG5 := hid hg5; clear hown5 hg5)
          go_ret
          refine ⟨v3, rfl, ?_, B2.out.grown HG5.out B2.out.size (fun q hq => (R1'.out.lt q hq).1)⟩
          rw [HLL.out, List.length_append, partsV_append]
          exact HO5.out
end Go.Proofs.YtaaldkkfedinpaaDoor
