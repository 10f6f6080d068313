/- Walk of the law TilesAll. -/
import Derived.Test.YtaihdnfdikecnaaTilesSame
set_option maxRecDepth 100000
namespace Go.Proofs.Ytaihdnfdikecnaa
open Go Go.RowKit

theorem half_bounds (s : Int) (h : -9223372036854775808 ≤ s ∧ s ≤ 9223372036854775807) : -9223372036854775808 ≤ s.tdiv 2 ∧ s.tdiv 2 ≤ 9223372036854775807 := by
  rcases Int.le_total 0 s with h0 | h0
  · rw [Int.tdiv_eq_ediv_of_nonneg h0]; omega
  · obtain ⟨t, rfl⟩ : ∃ t, s = -t := ⟨-s, by omega⟩
    rw [Int.neg_tdiv, Int.tdiv_eq_ediv_of_nonneg (by omega)]; omega
theorem own_frozen {w : World} {base e n size g cap : Nat} {xs : List Value} (h : w.ownsRow base e size (.slice (some ⟨g, 0, none⟩) n cap) n xs) (i : Nat) : w.frozen? ⟨g, i, none⟩ = false := by
  rcases h.2 with ⟨h1, _⟩ | ⟨g', cap', cur, h1, _, hg, _⟩
  · cases h1
  · cases h1; simp [World.frozen?, hg]
theorem own_some {w : World} {base e n size g cap : Nat} {xs : List Value} (h : w.ownsRow base e size (.slice (some ⟨g, 0, none⟩) n cap) n xs) (i : Nat) (hi : i < n * size) : ∃ u, w.cell? ⟨g, i, none⟩ = some u := by
  have hl := h.1
  have := h.cells (g := g) rfl i (xs[i]'(by omega)) (List.getElem?_eq_getElem (by omega))
  have ha : (⟨g, 0, none⟩ : Addr).add i = ⟨g, i, none⟩ := by unfold Addr.add; split <;> simp_all
  rw [ha] at this
  exact ⟨_, this⟩

theorem own_ao {w : World} {base e n size cap : Nat} {ao : Option Addr} {xs : List Value} (h : w.ownsRow base e size (.slice ao n cap) n xs) (h0 : 0 < n) : ∃ g, ao = some ⟨g, 0, none⟩ := by
  rcases h.2 with ⟨_, h1⟩ | ⟨g', cap', cur, h1, _⟩
  · omega
  · cases h1; exact ⟨g', rfl⟩
theorem own_rowS' {w : World} {base e n size cap : Nat} {ao : Option Addr} {xs : List Value} (h : w.ownsRow base e size (.slice ao n cap) n xs) : RowAt w ao xs := by
  obtain ⟨ao', cap', he, _, hr⟩ := own_rowS h
  cases he; exact hr
theorem bad_one : ∀ u ∈ [Value.int .i64 (-1), .int .i64 0, .int .i64 0, .int .i64 0], u.oneCell' = true := by
  simp only [List.mem_cons, List.mem_nil_iff, or_false]
  rintro u (rfl | rfl | rfl | rfl) <;> rfl
set_option maxHeartbeats 4000000 in
theorem law_TilesAll (h s : Int) (hbh : -9223372036854775808 ≤ h ∧ h ≤ 9223372036854775807) (hbs : -9223372036854775808 ≤ s ∧ s ≤ 9223372036854775807) (w : World) :
    Calls Try.prog 3 #[.int .i64 h, .int .i64 s] w fun e w' => e = .returned (.bool true) ∧ Below w.heap.size w w' := by
  obtain ⟨A, hA⟩ : ∃ A, A = (allR h s).1 := ⟨_, rfl⟩
  obtain ⟨ca, hca⟩ : ∃ c, c = (allR h s).2 := ⟨_, rfl⟩
  obtain ⟨B, hB⟩ : ∃ B, B = (allR h (s.tdiv 2)).1 := ⟨_, rfl⟩
  obtain ⟨cb, hcb⟩ : ∃ c, c = (allR h (s.tdiv 2)).2 := ⟨_, rfl⟩
  have eA : allR h s = (A, ca) := by rw [hA, hca]
  have eB : allR h (s.tdiv 2) = (B, cb) := by rw [hB, hcb]
  have IA : AllInt A := by rw [hA]; exact allR_int _ _
  have IB : AllInt B := by rw [hB]; exact allR_int _ _
  have hbs2 := half_bounds s hbs
  have hall := hid (fun W => tiles_All h s hbh hbs W)
  have href := hid (fun W => ref_All h s hbh hbs W)
  have hall2 := hid (fun W => tiles_All h (s.tdiv 2) hbh hbs2 W)
  have href2 := hid (fun W => ref_All h (s.tdiv 2) hbh hbs2 W)
  rw [eA] at hall href
  rw [eB] at hall2 href2
  have HIA := hid IA
  have HIB := hid IB
  clear hA hca hB hcb eA eB IA IB hbs2
  have hnum := hid law_num
  go_enter Try.func3, Try.ntmps3
  go_wp2_with fail
  refine (hall.out _).mono ?_
  rintro e w1 ⟨v5, n5, rfl, o5, hn5, b5⟩
  have BB := hid b5
  have sz5 := b5.size
  have O5 := hid o5
  have HG5 : Hid (∀ k, v5.ownBlock = some k → k < w1.heap.size) := hid (fun k hk => (o5.lt k hk).2)
  have HG : Hid (∀ k, v5.ownBlock = some k → w.heap.size ≤ k) := hid (fun k hk => (o5.lt k hk).1)
  clear o5 b5
  go_wp2_with fail
  refine (hall.out _).mono ?_
  rintro e w2 ⟨v7, n7, rfl, o7, hn7, b7⟩
  replace O5 := hid (own_keep O5.out b7)
  replace BB := hid (Below.then' BB.out b7)
  have sz7 := b7.size
  have O7 := hid o7
  clear o7 b7
  go_wp2_with fail
  refine (hall2.out _).mono ?_
  rintro e w3 ⟨v9, n9, rfl, o9, hn9, b9⟩
  replace O5 := hid (own_keep O5.out b9)
  replace O7 := hid (own_keep O7.out b9)
  replace BB := hid (Below.then' BB.out b9)
  have sz9 := b9.size
  have O9 := hid o9
  clear o9 b9
  go_wp2_with fail
  refine (hall2.out _).mono ?_
  rintro e w4 ⟨v11, n11, rfl, o11, hn11, b11⟩
  replace O5 := hid (own_keep O5.out b11)
  replace O7 := hid (own_keep O7.out b11)
  replace O9 := hid (own_keep O9.out b11)
  replace BB := hid (Below.then' BB.out b11)
  have sz11 := b11.size
  have O11 := hid o11
  clear o11 b11
  go_wp2_with fail
  refine (hall.out _).mono ?_
  rintro e w5 ⟨v13, n13, rfl, o13, hn13, b13⟩
  replace O5 := hid (own_keep O5.out b13)
  replace O7 := hid (own_keep O7.out b13)
  replace O9 := hid (own_keep O9.out b13)
  replace O11 := hid (own_keep O11.out b13)
  replace BB := hid (Below.then' BB.out b13)
  have sz13 := b13.size
  have O13 := hid o13
  clear o13 b13
  go_wp2_with fail
  refine (href.out _).mono ?_
  rintro e w6 ⟨v15, n15, rfl, o15, hn15, b15⟩
  replace O5 := hid (own_keep O5.out b15)
  replace O7 := hid (own_keep O7.out b15)
  replace O9 := hid (own_keep O9.out b15)
  replace O11 := hid (own_keep O11.out b15)
  replace O13 := hid (own_keep O13.out b15)
  replace BB := hid (Below.then' BB.out b15)
  have sz15 := b15.size
  have O15 := hid o15
  clear o15 b15
  go_wp2_with fail
  refine (href2.out _).mono ?_
  rintro e w7 ⟨v17, n17, rfl, o17, hn17, b17⟩
  replace O5 := hid (own_keep O5.out b17)
  replace O7 := hid (own_keep O7.out b17)
  replace O9 := hid (own_keep O9.out b17)
  replace O11 := hid (own_keep O11.out b17)
  replace O13 := hid (own_keep O13.out b17)
  replace O15 := hid (own_keep O15.out b17)
  replace BB := hid (Below.then' BB.out b17)
  have sz17 := b17.size
  have O17 := hid o17
  clear o17 b17
  have l5 := O5.out.1
  have l7 := O7.out.1
  have l9 := O9.out.1
  have l11 := O11.out.1
  have l13 := O13.out.1
  have l15 := O15.out.1
  have l17 := O17.out.1
  simp only at l5 l7 l9 l11 l13 l15 l17
  obtain rfl : n7 = n5 := by omega
  obtain rfl : n13 = n7 := by omega
  obtain rfl : n15 = n13 := by omega
  obtain rfl : n11 = n9 := by omega
  obtain rfl : n17 = n11 := by omega
  simp only at O5 O7 O9 O11 O13 O15 O17
  obtain ⟨ao5, c5, rfl, _, R5⟩ := own_rowS O5.out
  replace R5 := hid R5
  obtain ⟨ao7, c7, rfl, _, R7⟩ := own_rowS O7.out
  replace R7 := hid R7
  obtain ⟨ao9, c9, rfl, _, R9⟩ := own_rowS O9.out
  replace R9 := hid R9
  obtain ⟨ao11, c11, rfl, _, R11⟩ := own_rowS O11.out
  replace R11 := hid R11
  obtain ⟨ao13, c13, rfl, _, R13⟩ := own_rowS O13.out
  replace R13 := hid R13
  obtain ⟨ao15, c15, rfl, _, R15⟩ := own_rowS O15.out
  replace R15 := hid R15
  obtain ⟨ao17, c17, rfl, _, R17⟩ := own_rowS O17.out
  replace R17 := hid R17
  have hsameA := hid (fun ao bo c1 c2 W hx hy => law_same ao bo A n15 c1 c2 W (by omega) l5 HIA.out hx hy)
  have hsameB := hid (fun ao bo c1 c2 W hx hy => law_same ao bo B n17 c1 c2 W (by omega) l9 HIB.out hx hy)
  go_wp2_with (first | (go_at_call 6; refine (hnum.out _ _).mono ?_; rintro e w' ⟨rfl, rfl⟩) | fail)
  refine (hsameA.out ao5 ao15 c5 c15 _ R5.out R15.out).mono ?_
  rintro e w8 ⟨rfl, bb⟩
  replace O5 := hid (own_keep O5.out bb)
  replace R5 := hid (R5.out.below bb)
  replace O7 := hid (own_keep O7.out bb)
  replace R7 := hid (R7.out.below bb)
  replace O9 := hid (own_keep O9.out bb)
  replace R9 := hid (R9.out.below bb)
  replace O11 := hid (own_keep O11.out bb)
  replace R11 := hid (R11.out.below bb)
  replace O13 := hid (own_keep O13.out bb)
  replace R13 := hid (R13.out.below bb)
  replace O15 := hid (own_keep O15.out bb)
  replace R15 := hid (R15.out.below bb)
  replace O17 := hid (own_keep O17.out bb)
  replace R17 := hid (R17.out.below bb)
  replace BB := hid (Below.then' BB.out bb)
  replace sz17 := Nat.le_trans sz17 bb.size
  clear bb
  go_wp2_with fail
  refine (hsameA.out ao7 ao15 c7 c15 _ R7.out R15.out).mono ?_
  rintro e w9 ⟨rfl, bb⟩
  replace O5 := hid (own_keep O5.out bb)
  replace R5 := hid (R5.out.below bb)
  replace O7 := hid (own_keep O7.out bb)
  replace R7 := hid (R7.out.below bb)
  replace O9 := hid (own_keep O9.out bb)
  replace R9 := hid (R9.out.below bb)
  replace O11 := hid (own_keep O11.out bb)
  replace R11 := hid (R11.out.below bb)
  replace O13 := hid (own_keep O13.out bb)
  replace R13 := hid (R13.out.below bb)
  replace O15 := hid (own_keep O15.out bb)
  replace R15 := hid (R15.out.below bb)
  replace O17 := hid (own_keep O17.out bb)
  replace R17 := hid (R17.out.below bb)
  replace BB := hid (Below.then' BB.out bb)
  replace sz17 := Nat.le_trans sz17 bb.size
  clear bb
  go_wp2_with fail
  refine (hsameB.out ao9 ao17 c9 c17 _ R9.out R17.out).mono ?_
  rintro e w10 ⟨rfl, bb⟩
  replace O5 := hid (own_keep O5.out bb)
  replace R5 := hid (R5.out.below bb)
  replace O7 := hid (own_keep O7.out bb)
  replace R7 := hid (R7.out.below bb)
  replace O9 := hid (own_keep O9.out bb)
  replace R9 := hid (R9.out.below bb)
  replace O11 := hid (own_keep O11.out bb)
  replace R11 := hid (R11.out.below bb)
  replace O13 := hid (own_keep O13.out bb)
  replace R13 := hid (R13.out.below bb)
  replace O15 := hid (own_keep O15.out bb)
  replace R15 := hid (R15.out.below bb)
  replace O17 := hid (own_keep O17.out bb)
  replace R17 := hid (R17.out.below bb)
  replace BB := hid (Below.then' BB.out bb)
  replace sz17 := Nat.le_trans sz17 bb.size
  clear bb
  go_wp2_with fail
  refine (hsameB.out ao11 ao17 c11 c17 _ R11.out R17.out).mono ?_
  rintro e w11 ⟨rfl, bb⟩
  replace O5 := hid (own_keep O5.out bb)
  replace R5 := hid (R5.out.below bb)
  replace O7 := hid (own_keep O7.out bb)
  replace R7 := hid (R7.out.below bb)
  replace O9 := hid (own_keep O9.out bb)
  replace R9 := hid (R9.out.below bb)
  replace O11 := hid (own_keep O11.out bb)
  replace R11 := hid (R11.out.below bb)
  replace O13 := hid (own_keep O13.out bb)
  replace R13 := hid (R13.out.below bb)
  replace O15 := hid (own_keep O15.out bb)
  replace R15 := hid (R15.out.below bb)
  replace O17 := hid (own_keep O17.out bb)
  replace R17 := hid (R17.out.below bb)
  replace BB := hid (Below.then' BB.out bb)
  replace sz17 := Nat.le_trans sz17 bb.size
  clear bb
  go_wp2_with fail
  refine (hsameA.out ao13 ao15 c13 c15 _ R13.out R15.out).mono ?_
  rintro e w12 ⟨rfl, bb⟩
  replace O5 := hid (own_keep O5.out bb)
  replace R5 := hid (R5.out.below bb)
  replace O7 := hid (own_keep O7.out bb)
  replace R7 := hid (R7.out.below bb)
  replace O9 := hid (own_keep O9.out bb)
  replace R9 := hid (R9.out.below bb)
  replace O11 := hid (own_keep O11.out bb)
  replace R11 := hid (R11.out.below bb)
  replace O13 := hid (own_keep O13.out bb)
  replace R13 := hid (R13.out.below bb)
  replace O15 := hid (own_keep O15.out bb)
  replace R15 := hid (R15.out.below bb)
  replace O17 := hid (own_keep O17.out bb)
  replace R17 := hid (R17.out.below bb)
  replace BB := hid (Below.then' BB.out bb)
  replace sz17 := Nat.le_trans sz17 bb.size
  clear bb
  go_wp2_with fail
  have hfro : ∀ k, (Value.slice ao5 n15 c5).ownBlock = some k → k < w1.heap.size := by
    intro k hk
    have := HG5.out k hk
    omega
  have HFR := hid hfro
  clear hfro
  obtain ⟨ob, hob⟩ : ∃ ob, ob = (Value.slice ao5 n15 c5).ownBlock := ⟨_, rfl⟩
  have HM0 : Hid (Mk w12 ob w.heap.size 31 4 (.slice ao5 n15 c5) n15 w12) := hid (by rw [hob]; exact Mk.start O5.out)
  go_loopw [19] (fun i' wr => ∃ i : Nat, i' = .int .i64 i ∧ i ≤ n15 ∧ Mk w12 ob w.heap.size 31 4 (.slice ao5 n15 c5) n15 wr) (fun i' _ => (n15 - intOf i').toNat)
  case atStart => exact ⟨0, rfl, by omega, HM0.out⟩
  case round =>
    clear HM0
    obtain ⟨i, rfl, hi, hm⟩ := hrel
    have HM := hid hm
    clear hm
    by_cases hlt : i < n15
    · obtain ⟨xs, hown⟩ := HM.out.own
      obtain ⟨g, rfl⟩ := own_ao hown (by omega)
      obtain rfl : ob = some g := hob
      obtain ⟨u0, k0⟩ := own_some hown (i * 4) (by omega)
      obtain ⟨u1, k1⟩ := own_some hown (i * 4 + 1) (by omega)
      obtain ⟨u2, k2⟩ := own_some hown (i * 4 + 2) (by omega)
      obtain ⟨u3, k3⟩ := own_some hown (i * 4 + 3) (by omega)
      have f0 := own_frozen hown (i * 4)
      have f1 := own_frozen hown (i * 4 + 1)
      have f2 := own_frozen hown (i * 4 + 2)
      have f3 := own_frozen hown (i * 4 + 3)
      clear hown
      go_wp2_with fail
      go_roundw
      case rel => exact ⟨i + 1, by go_num, by omega, (((HM.out.set rfl _ _).set rfl _ _).set rfl _ _).set rfl _ _⟩
      case measure => simp [intOf]; omega
    · have hbase : w.heap.size ≤ w12.heap.size := BB.out.size
      have hbase2 : w.heap.size ≤ wr.heap.size := Nat.le_trans hbase HM.out.kept.size
      go_wp2_with (first
        | (at_builtin; refine wp_append_mk ob w.heap.size rfl (.tmp 119) (.tmp 121) 22 31 (.agg #[.int .i64 0, .int .i64 0, .int .i64 0, .int .i64 0]) 4 32 rfl Try.underlying22 info_tile rfl (by decide) (by decide) _ n15 [.int .i64 (-1), .int .i64 0, .int .i64 0, .int .i64 0] rfl _ rfl rfl rfl bad_one HM.out hbase2 (by omega) ?_; intro g1 cap1 w13 hm13 hs13; have HM13 := hid hm13; clear hm13)
        | fail)
      go_loopw [20, 21] (fun v' j' wq => ∃ (j g cap : Nat), v' = .slice (some ⟨g, 0, none⟩) (n15 + 1 + j) cap ∧ j' = .int .i64 j ∧ j ≤ 64 ∧ Mk w12 ob w.heap.size 31 4 (.slice (some ⟨g, 0, none⟩) (n15 + 1 + j) cap) (n15 + 1 + j) wq) (fun _ j' _ => (64 - intOf j').toNat)
      case atStart => exact ⟨0, g1, cap1, rfl, rfl, by omega, HM13.out⟩
      case round =>
        clear HM13 HM
        obtain ⟨j, g, cap, rfl, rfl, hj, hm⟩ := hrel
        have HM := hid hm
        clear hm
        have hbase3 := Nat.le_trans hbase HM.out.kept.size
        by_cases hlt2 : j < 64
        · go_wp2_with (first
            | (at_builtin; refine wp_append_mk ob w.heap.size rfl (.tmp 127) (.tmp 129) 22 31 (.agg #[.int .i64 0, .int .i64 0, .int .i64 0, .int .i64 0]) 4 32 rfl Try.underlying22 info_tile rfl (by decide) (by decide) _ (n15 + 1 + j) [.int .i64 (-1), .int .i64 0, .int .i64 0, .int .i64 0] rfl _ rfl rfl rfl bad_one HM.out hbase3 (by omega) ?_; intro g2 cap2 w14 hm14 hs14; have HM14 := hid hm14; clear hm14)
            | fail)
          go_roundw
          case rel => exact ⟨j + 1, g2, cap2, by rw [← Nat.add_assoc], by go_num, by omega, by rw [← Nat.add_assoc]; exact HM14.out⟩
          case measure => simp [intOf]; omega
        · obtain rfl : j = 64 := by omega
          have hfr : ∀ g, ob = some g → g < w1.heap.size := fun g hg => HFR.out g (by rw [← hob]; exact hg)
          have P7 := HM.out.keeps O7.out (fun g hg => by have := hfr g hg; omega)
          have P9 := HM.out.keeps O9.out (fun g hg => by have := hfr g hg; omega)
          have P11 := HM.out.keeps O11.out (fun g hg => by have := hfr g hg; omega)
          have P13 := HM.out.keeps O13.out (fun g hg => by have := hfr g hg; omega)
          have P15 := HM.out.keeps O15.out (fun g hg => by have := hfr g hg; omega)
          have P17 := HM.out.keeps O17.out (fun g hg => by have := hfr g hg; omega)
          have hBB : Below w.heap.size w _ := BB.out.grown HM.out.kept hbase (fun k hk => by
            have := HFR.out k (by rw [← hob]; exact hk)
            exact HG.out k (by rw [← hob]; exact hk))
          have Q7 := hid P7
          have S7 := hid (own_rowS' P7)
          clear P7
          have Q9 := hid P9
          have S9 := hid (own_rowS' P9)
          clear P9
          have Q11 := hid P11
          have S11 := hid (own_rowS' P11)
          clear P11
          have Q13 := hid P13
          have S13 := hid (own_rowS' P13)
          clear P13
          have Q15 := hid P15
          have S15 := hid (own_rowS' P15)
          clear P15
          have Q17 := hid P17
          have S17 := hid (own_rowS' P17)
          clear P17
          have CC := hid hBB
          clear hBB hfr HM hbase3
          go_wp2_with fail
          refine (hall.out _).mono ?_
          rintro e w15 ⟨v22, n22, rfl, o22, hn22, bb⟩
          replace S7 := hid (S7.out.below bb)
          replace S9 := hid (S9.out.below bb)
          replace S11 := hid (S11.out.below bb)
          replace S13 := hid (S13.out.below bb)
          replace S15 := hid (S15.out.below bb)
          replace S17 := hid (S17.out.below bb)
          replace CC := hid (Below.then CC.out CC.out.size bb)
          have l22 := o22.1
          simp only at l22
          obtain rfl : n22 = n15 := by omega
          obtain ⟨ao22, c22, rfl, _, S22⟩ := own_rowS o22
          replace S22 := hid S22
          clear o22 bb
          go_wp2_with fail
          refine (hsameA.out ao7 ao15 c7 c15 _ S7.out S15.out).mono ?_
          rintro e w16 ⟨rfl, bb⟩
          replace S7 := hid (S7.out.below bb)
          replace S9 := hid (S9.out.below bb)
          replace S11 := hid (S11.out.below bb)
          replace S13 := hid (S13.out.below bb)
          replace S15 := hid (S15.out.below bb)
          replace S17 := hid (S17.out.below bb)
          replace S22 := hid (S22.out.below bb)
          replace CC := hid (Below.then CC.out CC.out.size bb)
          clear bb
          go_wp2_with fail
          refine (hsameB.out ao9 ao17 c9 c17 _ S9.out S17.out).mono ?_
          rintro e w17 ⟨rfl, bb⟩
          replace S7 := hid (S7.out.below bb)
          replace S9 := hid (S9.out.below bb)
          replace S11 := hid (S11.out.below bb)
          replace S13 := hid (S13.out.below bb)
          replace S15 := hid (S15.out.below bb)
          replace S17 := hid (S17.out.below bb)
          replace S22 := hid (S22.out.below bb)
          replace CC := hid (Below.then CC.out CC.out.size bb)
          clear bb
          go_wp2_with fail
          refine (hsameB.out ao11 ao17 c11 c17 _ S11.out S17.out).mono ?_
          rintro e w18 ⟨rfl, bb⟩
          replace S7 := hid (S7.out.below bb)
          replace S9 := hid (S9.out.below bb)
          replace S11 := hid (S11.out.below bb)
          replace S13 := hid (S13.out.below bb)
          replace S15 := hid (S15.out.below bb)
          replace S17 := hid (S17.out.below bb)
          replace S22 := hid (S22.out.below bb)
          replace CC := hid (Below.then CC.out CC.out.size bb)
          clear bb
          go_wp2_with fail
          refine (hsameA.out ao13 ao15 c13 c15 _ S13.out S15.out).mono ?_
          rintro e w19 ⟨rfl, bb⟩
          replace S7 := hid (S7.out.below bb)
          replace S9 := hid (S9.out.below bb)
          replace S11 := hid (S11.out.below bb)
          replace S13 := hid (S13.out.below bb)
          replace S15 := hid (S15.out.below bb)
          replace S17 := hid (S17.out.below bb)
          replace S22 := hid (S22.out.below bb)
          replace CC := hid (Below.then CC.out CC.out.size bb)
          clear bb
          go_wp2_with fail
          refine (hsameA.out ao22 ao15 c22 c15 _ S22.out S15.out).mono ?_
          rintro e w20 ⟨rfl, bb⟩
          replace S7 := hid (S7.out.below bb)
          replace S9 := hid (S9.out.below bb)
          replace S11 := hid (S11.out.below bb)
          replace S13 := hid (S13.out.below bb)
          replace S15 := hid (S15.out.below bb)
          replace S17 := hid (S17.out.below bb)
          replace S22 := hid (S22.out.below bb)
          replace CC := hid (Below.then CC.out CC.out.size bb)
          clear bb
          go_wp2_with fail
          go_ret
          exact ⟨ret_bool (beq_iff_eq.2 (by omega)), CC.out⟩
end Go.Proofs.Ytaihdnfdikecnaa
