/- Walk of prove.Range. -/
import Derived.Test.YtaaldkkfedinpaaDoorPRange
set_option maxRecDepth 100000
namespace Go.Proofs.YtaaldkkfedinpaaDoor
open Go Go.RowKit

set_option maxHeartbeats 2000000 in
theorem prove_Range (B p pt : Nat) (s : Src) (lv v : Value) (asked : List (Int × Int)) (lo hi n : Int) (w w0 : World) (hz : ∀ x ∈ s.leaves, x.size ≤ 1048576) (hl : s.leaves.length ≤ 1048576) (ha : asked.length ≤ 1048000000)
    (hM : SrcM B p s lv v asked w) (hg : GlobR w0) (hgp : GlobP w0) (ht : TabP w0) (hb : Below w0.heap.size w0 w) (hB : w0.heap.size ≤ B) (hpt : w.cell? ⟨pt, 0, none⟩ = some (.pointer (some ⟨p, 0, none⟩))) (hpp : pt ≠ p) (hpv : v.ownBlock ≠ some pt) :
    Calls Tryd.prog 26 #[readerV s pt, .int .i64 lo, .int .i64 hi, .int .i64 n] w fun e w' => ∃ v' lr, e = .returned (.tuple #[lr, .int .i64 (rangeG s lo hi n asked).2.1]) ∧ w'.ownsRow w.heap.size 9 1 lr (rangeG s lo hi n asked).1.length (strs' (rangeG s lo hi n asked).1) ∧ SrcM B p s lv v' (rangeG s lo hi n asked).2.2 w' ∧ SStep p v w v' w' := by
  obtain ⟨W, hW⟩ : ∃ W, ((w.alloc (.cells #[.int .i64 s.k, .int .i64 s.size, .func (.func 41) #[.pointer (some ⟨pt, 0, none⟩)] #[]] 45)).alloc (.cells #[.int .i64 lo] 3)).alloc (.cells #[.int .i64 hi] 3) = W := ⟨_, rfl⟩
  have bW : Below w.heap.size w W := by rw [← hW]; exact (((Below.refl w.heap.size w).alloc (Nat.le_refl _) _).alloc (by simp) _).alloc (by simp; omega) _
  have hsW : W.heap.size = w.heap.size + 3 := by rw [← hW]; simp
  have kW : RdK s pt p w.heap.size W := by rw [← hW]; exact ((RdK.new s pt p w hpt).below ((Below.refl _ _).alloc (Nat.le_refl _) _)).below ((Below.refl _ _).alloc (Nat.le_refl _) _)
  have c5 : W.cell? ⟨w.heap.size + 1, 0, none⟩ = some (.int .i64 lo) := by rw [← hW]; simp [go_sem]
  have c6 : W.cell? ⟨w.heap.size + 1 + 1, 0, none⟩ = some (.int .i64 hi) := by rw [← hW]; simp [go_sem]
  have HC := hid (prove_checked s pt n)
  have HD : Hid (rangeG s lo hi n asked = if checkedN s.size n ≠ 0 then ([], checkedN s.size n, asked) else if lo < 0 ∨ hi ≤ lo ∨ n < hi then ([], 81, asked) else toldG s (rangeP lo hi n) asked []) := rfl
  have HOK := hid (fun (h : checkedN s.size n = 0) => checked_ok h)
  have HWK : Hid (0 ≤ lo → lo < hi → hi ≤ n → n ≤ 4611686018427387904 → ∀ W', Below W.heap.size W W' → Calls Tryd.prog 50 #[.agg #[.int .i64 0, .int .i64 n], .func (.func 51) #[] #[.pointer (some ⟨w.heap.size + 1, 0, none⟩), .pointer (some ⟨w.heap.size + 1 + 1, 0, none⟩)]] W' fun e w' => ∃ pv, e = .returned pv ∧ w'.ownsRow W.heap.size 77 2 pv (rangeP lo hi n).length (partsV (rangeP lo hi n)) ∧ Below W.heap.size W w') := by
    intro h1 h2 h3 h4 W' hb'
    have hk := fun {p : Addr} {v : Value} (hc : W.cell? p = some v) => (hb'.cell (World.block_lt_of_cell? _ _ hc)).trans hc
    have := prove_walk (w.heap.size + 1) (w.heap.size + 1 + 1) lo.toNat hi.toNat 63 0 n.toNat (by omega) (ceil62 _ (by omega)) (by omega) (Nat.le_refl _) W' (by rw [show ((lo.toNat : Nat) : Int) = lo by omega]; exact hk c5) (by rw [show ((hi.toNat : Nat) : Int) = hi by omega]; exact hk c6)
    rw [show ((n.toNat : Nat) : Int) = n by omega] at this
    refine this.mono ?_
    rintro e w' ⟨pv, h5, h6, h7⟩
    refine ⟨pv, h5, ⟨h6.1, ?_⟩, Below.then' hb' h7⟩
    rcases h6.2 with h8 | ⟨g, cap, cur, e1, e2, e3⟩
    · exact .inl h8
    · exact .inr ⟨g, cap, cur, e1, Nat.le_trans hb'.size e2, e3⟩
  have HHS : Hid (0 < n → n ≤ 4611686018427387904 → ∀ pv W', Below W.heap.size W W' → W'.ownsRow W.heap.size 77 2 pv (rangeP lo hi n).length (partsV (rangeP lo hi n)) → Calls Tryd.prog 46 #[readerV s pt, pv] W' fun e w' => ∃ v' lr, e = .returned (.tuple #[lr, .int .i64 (toldG s (rangeP lo hi n) asked []).2.1]) ∧ w'.ownsRow w.heap.size 9 1 lr (toldG s (rangeP lo hi n) asked []).1.length (strs' (toldG s (rangeP lo hi n) asked []).1) ∧ SrcM B p s lv v' (toldG s (rangeP lo hi n) asked []).2.2 w' ∧ SStep p v W v' w') := by
    intro h1 h2 pv W' hb' hr
    have hlen := rangeP_len lo hi n h1
    have hbw := Below.then' bW hb'
    refine (prove_hashes B p pt s lv v asked (rangeP lo hi n) (rangeP_in lo hi n h1 h2) W.heap.size pv W' w0 hz hl (by omega) (hM.below hbw) hg hgp ht (Below.then' hb hbw) hB ((hbw.cell (World.block_lt_of_cell? _ _ hpt)).trans hpt) hpp hpv hr (fun q hq => by have := (hr.lt q hq).1; have := hM.lt; have := bW.size; omega)).mono ?_
    rintro e w' ⟨v', lr, h3, h4, h5, h6, _⟩
    exact ⟨v', lr, h3, own_base h4 hbw.size, h5, (SStep.of hb').trans h6⟩
  have BW := hid bW
  have KW := hid kW
  have HM := hid hM
  have HV := hid (show ∀ q, v.ownBlock = some q → q < w.heap.size from fun q hq => (hM.vown.lt q hq).2)
  have hwlt := hM.lt
  have HW := hid hW
  have hfn := fn_no'
  generalize rangeG s lo hi n asked = r at *
  generalize checkedN s.size n = ch at *
  generalize rangeP lo hi n = L at *
  generalize toldG s L asked [] = tt at *
  obtain ⟨r0, r1, r2⟩ := And.intro kW.r0 (And.intro kW.r1 kW.r2)
  have HC5 := hid c5
  have HC6 := hid c6
  clear hW bW kW hM hg hgp ht hb hpt hz c5 c6
  by_cases hch : ch = 0
  · obtain ⟨hn0, hn62⟩ := HOK.out hch
    subst hch
    by_cases h1 : lo < 0
    · have HR : Hid (r = ([], 81, asked)) := by unfold Hid; rw [HD.out, if_neg (by simp), if_pos (.inl h1)]
      clear HD HOK HWK HHS hn0 hn62
      go_enter Tryd.func26, Tryd.ntmps26
      go_upto_region 1 with fail
      rw [HW.out]
      clear HW
      go_wp2_with fail
      refine (HC.out _).mono ?_
      rintro e w1 ⟨rfl, d1⟩
      have B1 := hid (Below.then' BW.out d1)
      have D1 := hid d1
      have K1 := hid (KW.out.below d1)
      obtain ⟨q0, q1, q2⟩ := And.intro K1.out.r0 (And.intro K1.out.r1 K1.out.r2)
      have q5 := (d1.cell (World.block_lt_of_cell? _ _ HC5.out)).trans HC5.out
      have q6 := (d1.cell (World.block_lt_of_cell? _ _ HC6.out)).trans HC6.out
      clear d1 r0 r1 r2
      go_wp2_with fail
      go_ret2
      exact ⟨v, _, by rw [HR.out]; rfl, by rw [HR.out]; exact World.ownsRow_nil _ _ _ _, by rw [HR.out]; exact HM.out.below B1.out, SStep.of B1.out⟩
    · by_cases h2 : hi ≤ lo
      · have HR : Hid (r = ([], 81, asked)) := by unfold Hid; rw [HD.out, if_neg (by simp), if_pos (.inr (.inl h2))]
        clear HD HOK HWK HHS hn0 hn62
        go_enter Tryd.func26, Tryd.ntmps26
        go_upto_region 1 with fail
        rw [HW.out]
        clear HW
        go_wp2_with fail
        refine (HC.out _).mono ?_
        rintro e w1 ⟨rfl, d1⟩
        have B1 := hid (Below.then' BW.out d1)
        have D1 := hid d1
        have K1 := hid (KW.out.below d1)
        obtain ⟨q0, q1, q2⟩ := And.intro K1.out.r0 (And.intro K1.out.r1 K1.out.r2)
        have q5 := (d1.cell (World.block_lt_of_cell? _ _ HC5.out)).trans HC5.out
        have q6 := (d1.cell (World.block_lt_of_cell? _ _ HC6.out)).trans HC6.out
        clear d1 r0 r1 r2
        go_wp2_with fail
        go_ret2
        exact ⟨v, _, by rw [HR.out]; rfl, by rw [HR.out]; exact World.ownsRow_nil _ _ _ _, by rw [HR.out]; exact HM.out.below B1.out, SStep.of B1.out⟩
      · by_cases h3 : n < hi
        · have HR : Hid (r = ([], 81, asked)) := by unfold Hid; rw [HD.out, if_neg (by simp), if_pos (.inr (.inr h3))]
          clear HD HOK HWK HHS hn0 hn62
          go_enter Tryd.func26, Tryd.ntmps26
          go_upto_region 1 with fail
          rw [HW.out]
          clear HW
          go_wp2_with fail
          refine (HC.out _).mono ?_
          rintro e w1 ⟨rfl, d1⟩
          have B1 := hid (Below.then' BW.out d1)
          have D1 := hid d1
          have K1 := hid (KW.out.below d1)
          obtain ⟨q0, q1, q2⟩ := And.intro K1.out.r0 (And.intro K1.out.r1 K1.out.r2)
          have q5 := (d1.cell (World.block_lt_of_cell? _ _ HC5.out)).trans HC5.out
          have q6 := (d1.cell (World.block_lt_of_cell? _ _ HC6.out)).trans HC6.out
          clear d1 r0 r1 r2
          go_wp2_with fail
          go_ret2
          exact ⟨v, _, by rw [HR.out]; rfl, by rw [HR.out]; exact World.ownsRow_nil _ _ _ _, by rw [HR.out]; exact HM.out.below B1.out, SStep.of B1.out⟩
        · have HR : Hid (r = tt) := by unfold Hid; rw [HD.out, if_neg (by simp), if_neg (by omega)]
          have HO2 := hid (HWK.out (by omega) (by omega) (by omega) hn62)
          have HT2 := hid (HHS.out (by omega) hn62)
          clear HD HOK HWK HHS hn0 hn62
          go_enter Tryd.func26, Tryd.ntmps26
          go_upto_region 1 with fail
          rw [HW.out]
          clear HW
          go_wp2_with fail
          refine (HC.out _).mono ?_
          rintro e w1 ⟨rfl, d1⟩
          have B1 := hid (Below.then' BW.out d1)
          have D1 := hid d1
          have K1 := hid (KW.out.below d1)
          obtain ⟨q0, q1, q2⟩ := And.intro K1.out.r0 (And.intro K1.out.r1 K1.out.r2)
          have q5 := (d1.cell (World.block_lt_of_cell? _ _ HC5.out)).trans HC5.out
          have q6 := (d1.cell (World.block_lt_of_cell? _ _ HC6.out)).trans HC6.out
          clear d1 r0 r1 r2
          go_upto_region 6 with fail
          go_cut [8, 9] (fun l' y' wc => y' = .int .i64 tt.2.1 ∧ wc.ownsRow w.heap.size 9 1 l' tt.1.length (strs' tt.1) ∧ ∃ v', SrcM B p s lv v' tt.2.2 wc ∧ SStep p v W v' wc)
          case first =>
            have D1d := hid D1.out.drew
            go_region_held3 (fun V => V.cell? ⟨w.heap.size, 0, none⟩ = some (.int .i64 s.k) ∧ V.cell? ⟨w.heap.size, 1, none⟩ = some (.int .i64 s.size) ∧ V.cell? ⟨w.heap.size, 2, none⟩ = some (.func (.func 41) #[.pointer (some ⟨pt, 0, none⟩)] #[])) (go_keep) (first
              | (go_at_call 50; (with_reducible refine Calls.mono (HO2.out _ ?hb) ?_); (case hb => exact Hid.out (show Hid (Below W.heap.size W _) by assumption)); rintro e w3 ⟨pv, rfl, hr, d3⟩; have R3 := hid hr; have D3 := hid d3; have K3 := KW.out.below d3; have m0 := K3.r0; have m1 := K3.r1; have m2 := K3.r2; clear hr d3 K3)
              | (go_at_call 46; (with_reducible refine Calls.mono (HT2.out _ _ D3.out R3.out) ?_); rintro e w4 ⟨v', lr, rfl, hr4, hM4, hS4⟩; have R4 := hid hr4; have M4 := hid hM4; have S4 := hid hS4; have n0 := hS4.cell KW.out.r0 (by omega) (fun e => by have := HV.out _ e; omega); have n1 := hS4.cell KW.out.r1 (by omega) (fun e => by have := HV.out _ e; omega); have n2 := hS4.cell KW.out.r2 (by omega) (fun e => by have := HV.out _ e; omega); clear hr4 hM4 hS4))
            all_goals
              go_wp2_with fail
              go_meet
              case rel => exact ⟨rfl, R4.out, v', M4.out, S4.out⟩
          case rest =>
          obtain ⟨rfl, hr4, v', hM4, hS4⟩ := hcut
          have R4 := hid hr4
          have M4 := hid hM4
          have S4 := hid ((SStep.of (p := p) (v := v) BW.out).trans hS4)
          clear hr4 hM4 hS4
          go_wp2_with fail
          go_ret2
          exact ⟨v', _, by rw [HR.out]; rfl, by rw [HR.out]; exact R4.out, by rw [HR.out]; exact M4.out, S4.out⟩
  · have hch1 : (ch == 0) = false := beq_eq_false_iff_ne.2 hch
    have hch2 : (ch != 0) = true := bne_iff_ne.2 hch
    have HR : Hid (r = ([], ch, asked)) := by unfold Hid; rw [HD.out, if_pos hch]
    clear HD HOK HWK HHS hch
    go_enter Tryd.func26, Tryd.ntmps26
    go_upto_region 1 with fail
    rw [HW.out]
    clear HW
    go_wp2_with fail
    refine (HC.out _).mono ?_
    rintro e w1 ⟨rfl, d1⟩
    have B1 := hid (Below.then' BW.out d1)
    have D1 := hid d1
    have K1 := hid (KW.out.below d1)
    obtain ⟨q0, q1, q2⟩ := And.intro K1.out.r0 (And.intro K1.out.r1 K1.out.r2)
    have q5 := (d1.cell (World.block_lt_of_cell? _ _ HC5.out)).trans HC5.out
    have q6 := (d1.cell (World.block_lt_of_cell? _ _ HC6.out)).trans HC6.out
    clear d1 r0 r1 r2
    go_wp2_with fail
    go_ret2
    exact ⟨v, _, by rw [HR.out]; rfl, by rw [HR.out]; exact World.ownsRow_nil _ _ _ _, by rw [HR.out]; exact HM.out.below B1.out, SStep.of B1.out⟩
end Go.Proofs.YtaaldkkfedinpaaDoor
