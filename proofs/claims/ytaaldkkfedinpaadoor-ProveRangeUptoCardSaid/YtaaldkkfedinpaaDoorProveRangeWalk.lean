/- The walk of annalslaw8.ProveRange. -/
import Derived.Test.YtaaldkkfedinpaaDoorPRangeP
import Derived.Test.YtaaldkkfedinpaaDoorAsked
set_option maxRecDepth 100000
namespace Go.Proofs.YtaaldkkfedinpaaDoor
open Go Go.RowKit

theorem own_len {w : World} {base e n : Nat} {v : Value} {xs : List Value} (h : w.ownsRow base e 1 v n xs) : n ≤ 9223372036854775807 := by
  rcases h.2 with ⟨_, h1⟩ | ⟨g, cap, cur, _, _, _, hn, hm, _, _⟩
  · omega
  · unfold maxLen at hm; omega
theorem law8_same (ao bo : Option Addr) (xs : List ByteArray) (c1 c2 : Nat) (w : World) (hl : xs.length ≤ 9223372036854775807) (hx : RowAt w ao (strs' xs)) (hy : RowAt w bo (strs' xs)) :
    Calls Tryd.prog 23 #[.slice ao xs.length c1, .slice bo xs.length c2] w fun e w' => e = .returned (.bool true) ∧ Below w.heap.size w w' := by
  go_enter Tryd.func23, Tryd.ntmps23
  go_wp2_with fail
  go_loopw [5] (fun i' wr => ∃ i : Nat, i' = .int .i64 i ∧ i ≤ xs.length ∧ Below w.heap.size w wr) (fun i' _ => (xs.length - intOf i').toNat)
  case atStart => exact ⟨0, rfl, by omega, Below.refl _ _⟩
  case round =>
    obtain ⟨i, rfl, hi, hbw⟩ := hrel
    have HB := hid hbw
    by_cases hlt : i < xs.length
    · obtain ⟨b, off, rfl, hcell⟩ := str_at (hx.below hbw) hlt
      obtain ⟨b2, off2, rfl, hcell2⟩ := str_at (hy.below hbw) hlt
      clear hx hy hbw
      generalize xs.getD i ⟨#[]⟩ = y at *
      go_wp2_with fail
      go_quiet (fail)
      go_wp2_with fail
      go_roundw
      case rel => exact ⟨i + 1, by go_num, by omega, below_drewN HB.out _⟩
      case measure => simp [intOf]; omega
    · clear hx hy hbw
      go_wp2_with fail
      go_ret
      exact ⟨rfl, HB.out⟩
set_option maxHeartbeats 2000000 in
theorem law_ProveRange (k size : Int) (ao : Option Addr) (hs : List ByteArray) (cap : Nat) (made : Bool) (fails code : Int) (qo : Option Addr) (qn qc : Nat) (lo hi n : Int) (w : World) (hx : RowAt w ao (strs' hs)) (hao : ao = none → hs.length = 0 ∧ cap = 0) (hl : hs.length ≤ 1048576) (hz : ∀ x ∈ hs, x.size ≤ 1048576)
    (blo : -9223372036854775808 ≤ lo ∧ lo ≤ 9223372036854775807) (bhi : -9223372036854775808 ≤ hi ∧ hi ≤ 9223372036854775807) (bn : -9223372036854775808 ≤ n ∧ n ≤ 9223372036854775807) (hg : GlobP w ∧ GlobR w ∧ TabP w) :
    Calls Tryd.prog 8 #[.agg #[.int .i64 k, .int .i64 size, .slice ao hs.length cap, .bool made, .int .i64 fails, .int .i64 code, .slice qo qn qc], .int .i64 lo, .int .i64 hi, .int .i64 n] w fun e w' => e = .returned (.bool true) ∧ Below w.heap.size w w' := by
  obtain ⟨W, hW⟩ : ∃ W, w.alloc (.cells #[.int .i64 k, .int .i64 size, .slice ao hs.length cap, .bool made, .int .i64 fails, .int .i64 code, .slice qo qn qc] 39) = W := ⟨_, rfl⟩
  have bW : Below w.heap.size w W := by rw [← hW]; exact (Below.refl w.heap.size w).alloc (Nat.le_refl _) _
  have x0 : W.cell? ⟨w.heap.size, 0, none⟩ = some (.int .i64 k) := by rw [← hW]; simp [go_sem]
  have x1 : W.cell? ⟨w.heap.size, 1, none⟩ = some (.int .i64 size) := by rw [← hW]; simp [go_sem]
  have x2 : W.cell? ⟨w.heap.size, 2, none⟩ = some (.slice ao hs.length cap) := by rw [← hW]; simp [go_sem]
  have x3 : W.cell? ⟨w.heap.size, 3, none⟩ = some (.bool made) := by rw [← hW]; simp [go_sem]
  have x4 : W.cell? ⟨w.heap.size, 4, none⟩ = some (.int .i64 fails) := by rw [← hW]; simp [go_sem]
  have x5 : W.cell? ⟨w.heap.size, 5, none⟩ = some (.int .i64 code) := by rw [← hW]; simp [go_sem]
  have x6 : W.cell? ⟨w.heap.size, 6, none⟩ = some (.slice qo qn qc) := by rw [← hW]; simp [go_sem]
  have hsW : W.heap.size = w.heap.size + 1 := by rw [← hW]; simp
  have BW := hid bW
  have HX := hid (hx.below bW)
  have HA := hid hao
  have HZ := hid hz
  have HG := hid hg
  have hnum := hid law8_num
  have HW := hid hW
  have htw := hid (law_twin k size ao hs cap made fails code (.slice qo qn qc) W HX.out hao hl ⟨_, _, _, rfl⟩)
  clear hx hao hz hg hW bW
  go_enter Tryd.func8, Tryd.ntmps8
  go_upto_region 1 with fail
  rw [HW.out]
  clear HW
  go_wp2_with fail
  refine htw.out.mono ?_
  clear htw
  rintro e w1 ⟨lv1, rfl, hM1, d1⟩
  have hk := fun {p : Addr} {v : Value} (hc : W.cell? p = some v) => (d1.cell (World.block_lt_of_cell? _ _ hc)).trans hc
  have y0 := hk x0
  have y1 := hk x1
  have y2 := hk x2
  have y3 := hk x3
  have y4 := hk x4
  have y5 := hk x5
  have y6 := hk x6
  have htw := hid (law_twin k size ao hs cap made fails code (.slice qo qn qc) w1 (HX.out.below d1) HA.out hl ⟨_, _, _, rfl⟩)
  have M1 := hid hM1
  have B1 := hid (Below.then' BW.out d1)
  have hs1 : W.heap.size + 1 < w1.heap.size := hM1.lt
  have L1 := hid (show ∀ q, lv1.ownBlock = some q → q < w1.heap.size from fun q hq => (hM1.lown.lt q hq).2)
  clear hk x0 x1 x2 x3 x4 x5 x6 hM1 d1 BW
  go_wp2_with fail
  refine htw.out.mono ?_
  clear htw y0 y1 y2 y3 y4 y5 y6
  rintro e w2 ⟨lv2, rfl, hM2, d2⟩
  have M2 := hid hM2
  have M12 := hid (M1.out.below d2)
  have B2 := hid (Below.then' B1.out d2)
  have hs2 : w1.heap.size + 1 < w2.heap.size := hM2.lt
  have L2 := hid (show ∀ q, lv2.ownBlock = some q → w1.heap.size ≤ q from fun q hq => (hM2.lown.lt q hq).1)
  clear hM2 d2 M1 B1
  rw [hsW] at M12
  obtain ⟨p1, hp1⟩ : ∃ p1, p1 = w.heap.size + 1 + 1 := ⟨_, rfl⟩
  obtain ⟨p2, hp2⟩ : ∃ p2, p2 = w1.heap.size + 1 := ⟨_, rfl⟩
  rw [← hp1] at M12 ⊢
  rw [← hp2] at M2 ⊢
  have HP1 := hid hp1
  have HP2 := hid hp2
  obtain ⟨s, hsd⟩ : ∃ s, s = twinS k size hs made fails code := ⟨_, rfl⟩
  rw [← hsd] at M2 M12
  have hsl : s.leaves = hs := by rw [hsd]; rfl
  have HSL := hid hsl
  clear hp1 hp2 hsd hsl
  obtain ⟨r, hr⟩ : ∃ r, r = rangeG s lo hi n [] := ⟨_, rfl⟩
  have hrl := rangeG_len s lo hi n []
  rw [← hr] at hrl
  obtain ⟨bt, f, asked⟩ := r
  simp only [List.length_nil] at hrl
  have hz2 : ∀ x ∈ s.leaves, x.size ≤ 1048576 := by rw [HSL.out]; exact HZ.out
  have hl2 : s.leaves.length ≤ 1048576 := by rw [HSL.out]; exact hl
  have hp12 : p1 < w1.heap.size := by have := HP1.out; omega
  have hp2w : p2 < w2.heap.size := by have := HP2.out; omega
  have HRD : Hid (∀ W', Below w2.heap.size w2 W' → Calls Tryd.prog 17 #[.pointer (some ⟨p1, 0, none⟩)] W' fun e w' => ∃ pt, e = .returned (readerV s pt) ∧ w2.heap.size ≤ pt ∧ w'.cell? ⟨pt, 0, none⟩ = some (.pointer (some ⟨p1, 0, none⟩)) ∧ Below w2.heap.size w2 w') := by
    intro W' hb
    have hM := M12.out.below hb
    refine (law_reader p1 s.k s.size W' hM.c0 hM.c1).mono ?_
    rintro e w' ⟨rfl, h1, h2⟩
    exact ⟨W'.heap.size + 1, rfl, by have := hb.size; omega, h1, Below.then' hb h2⟩
  have HSV : Hid (∀ pt W', Below w2.heap.size w2 W' → w2.heap.size ≤ pt → W'.cell? ⟨pt, 0, none⟩ = some (.pointer (some ⟨p1, 0, none⟩)) → Calls Tryd.prog 26 #[readerV s pt, .int .i64 lo, .int .i64 hi, .int .i64 n] W' fun e w' => ∃ u lr, e = .returned (.tuple #[lr, .int .i64 f]) ∧ w'.ownsRow w2.heap.size 9 1 lr bt.length (strs' bt) ∧ SrcM (w.heap.size + 1) p1 s lv1 u asked w' ∧ SStep p1 (.slice none 0 0) w2 u w') := by
    intro pt W' hb h1 h2
    have := prove_Range (w.heap.size + 1) p1 pt s lv1 (.slice none 0 0) [] lo hi n W' w hz2 hl2 (by simp) (M12.out.below hb) HG.out.2.1 HG.out.1 HG.out.2.2 (Below.then' B2.out hb) (by omega) h2 (by omega) (by simp [Value.ownBlock])
    rw [← hr] at this
    refine this.mono ?_
    rintro e w' ⟨u, lr, h3, ho, h4, h5⟩
    exact ⟨u, lr, h3, own_base ho hb.size, h4, (SStep.of hb).trans h5⟩
  have HRS : Hid (∀ W', Below w.heap.size w W' → SrcM w1.heap.size p2 s lv2 (.slice none 0 0) [] W' → Calls Tryd.prog 27 #[.pointer (some ⟨p2, 0, none⟩), .int .i64 lo, .int .i64 hi, .int .i64 n] W' fun e w' => ∃ u lr, e = .returned (.tuple #[lr, .int .i64 f]) ∧ w'.ownsRow W'.heap.size 9 1 lr bt.length (strs' bt) ∧ SrcM w1.heap.size p2 s lv2 u asked w' ∧ SStep p2 (.slice none 0 0) W' u w') := by
    intro W' hb hM
    have := ref8_Range w1.heap.size p2 s lv2 (.slice none 0 0) [] lo hi n W' w hz2 hl2 (by simp) hM HG.out.2.1 HG.out.2.2 hb (by omega)
    rw [← hr] at this
    exact this
  clear hr hz2 hl2
  go_wp2_with fail
  refine (HRD.out _ (Below.refl _ _)).mono ?_
  rintro e w3 ⟨pt, rfl, hpt1, hpt2, d3⟩
  have HSV3 := hid (HSV.out pt w3 d3 hpt1 hpt2)
  clear d3 hpt2 hpt1 HRD HSV
  unfold readerV at HSV3
  unfold readerV
  go_wp2_with fail
  refine HSV3.out.mono ?_
  clear HSV3
  rintro e w4 ⟨u, lr1, rfl, hO1, hMs, hSs⟩
  have O1 := hid hO1
  clear hO1
  have nil_off : ∀ q, (Value.slice none 0 0).ownBlock ≠ some q := by intro q; simp [Value.ownBlock]
  have hpw := HP1.out
  have hpw2 := HP2.out
  have Mc := hid hMs
  have M2c := hid (M2.out.other hSs (by omega) (nil_off _) (fun q hq => ⟨by have := L2.out q hq; omega, nil_off _⟩) (fun q hq => absurd hq (nil_off q)))
  have Bc := hid (Below.trans B2.out (hSs.below (A := w.heap.size) (by omega) (fun q hq => absurd hq (nil_off q)) B2.out.size))
  have uf := hid (hSs.far (b := p2) hp2w (nil_off _))
  have NO := hid nil_off
  clear hMs hSs M2 M12 hpw hpw2 nil_off
  go_wp2_with fail
  refine (HRS.out _ Bc.out M2c.out).mono ?_
  clear HRS
  rintro e w5 ⟨u2, lr2, rfl, hO2, hM5, hS5⟩
  have O1b := hid (hS5.own O1.out (fun q hq => ⟨by have := (O1.out.lt q hq).1; omega, NO.out _⟩))
  have hlen := own_len hO2
  obtain ⟨ao1, cp1, rfl, _, R1⟩ := own_row O1b.out
  obtain ⟨ao2, cp2, rfl, _, R2⟩ := own_row hO2
  have HSAME := hid (law8_same ao1 ao2 bt cp1 cp2 w5 hlen R1 R2)
  clear hO2 R1 R2 O1 O1b
  have M5 := hid hM5
  have M5s := hid (Mc.out.other hS5 (by have := HP2.out; have := HP1.out; omega) (NO.out _) (fun q hq => ⟨by have := L1.out q hq; have := HP2.out; omega, NO.out _⟩) (fun q hq => ⟨fun e => uf.out (e ▸ hq), NO.out _⟩))
  have B5 := hid (Below.trans Bc.out (hS5.below (A := w.heap.size) (by have := HP2.out; omega) (fun q hq => absurd hq (NO.out q)) Bc.out.size))
  clear hM5 hS5 Mc M2c Bc uf L1 L2 NO
  go_wp2_with fail
  refine HSAME.out.mono ?_
  clear HSAME
  rintro e w5b ⟨rfl, d5⟩
  have M5' := hid (M5.out.below d5)
  have M5s' := hid (M5s.out.below d5)
  have B5' := hid (Below.then' B5.out d5)
  have HAD := hid (law_asked p1 p2 (w.heap.size + 1) w1.heap.size u u2 asked w5b (by omega) M5s'.out.c6 M5'.out.c6 M5s'.out.vown M5'.out.vown)
  clear M5 M5s M5' M5s' B5 d5
  go_wp2_with (go_at_call 19; refine (hnum.out _ _).mono ?_; rintro e w' ⟨rfl, rfl⟩)
  refine HAD.out.mono ?_
  rintro e w6 ⟨rfl, d6⟩
  have B6 := hid (Below.then' B5'.out d6)
  clear d6
  go_wp2_with fail
  go_ret
  exact ⟨rfl, B6.out⟩
end Go.Proofs.YtaaldkkfedinpaaDoor
