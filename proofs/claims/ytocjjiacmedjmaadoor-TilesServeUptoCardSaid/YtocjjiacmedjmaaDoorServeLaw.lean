/- Walk of the law TilesServe. -/
import Derived.Test.YtocjjiacmedjmaaDoorServeR
import Derived.Deep.RegionHeld3
set_option maxRecDepth 100000
namespace Go.Proofs.YtocjjiacmedjmaaDoor
open Go Go.RowKit

theorem law23_num (x : Int) (w : World) : Calls Tryd.prog 9 #[.int .i64 x] w fun e w' => e = .returned (.int .i64 x) ∧ w = w' := by
  go_enter Tryd.func9, Tryd.ntmps9
  go_wp2
  go_ret
  exact ⟨rfl, rfl⟩
theorem askV_get (l : List (Int × Int)) (k : Nat) (hk : k < l.length) : (askV l)[2 * k]? = some (.int .i64 l[k].1) ∧ (askV l)[2 * k + 1]? = some (.int .i64 l[k].2) := by
  induction l generalizing k with
  | nil => simp at hk
  | cons a l ih =>
    have e : askV (a :: l) = .int .i64 a.1 :: .int .i64 a.2 :: askV l := rfl
    rw [e]
    cases k with
    | zero => exact ⟨rfl, rfl⟩
    | succ k =>
      have := ih k (by simpa using hk)
      rw [show 2 * (k + 1) = 2 * k + 1 + 1 by omega, show 2 * k + 1 + 1 + 1 = (2 * k + 1) + 1 + 1 by omega]
      simpa using this
/-- Two rows of the same addresses. -/
theorem law_addrs (B B2 : Nat) (u u2 : Value) (l : List (Int × Int)) (w : World) (hl : l.length ≤ 4611686018427387904) (h1 : w.ownsRow B 52 2 u l.length (askV l)) (h2 : w.ownsRow B2 52 2 u2 l.length (askV l)) :
    Calls Tryd.prog 16 #[u, u2] w fun e w' => e = .returned (.bool true) ∧ Below w.heap.size w w' := by
  obtain ⟨ao, cap, rfl⟩ := own_val h1
  obtain ⟨bo, cap2, rfl⟩ := own_val h2
  have H1 := hid h1
  have H2 := hid h2
  clear h1 h2
  go_enter Tryd.func16, Tryd.ntmps16
  go_wp2_with fail
  go_loopw [5] (fun i' wr => ∃ i : Nat, i' = .int .i64 i ∧ i ≤ l.length ∧ Below w.heap.size w wr) (fun i' _ => (l.length - intOf i').toNat)
  case atStart => exact ⟨0, rfl, by omega, Below.refl _ _⟩
  case round =>
    obtain ⟨i, rfl, hi, hbw⟩ := hrel
    have HB := hid hbw
    by_cases hlt : i < l.length
    · obtain ⟨g1, g2⟩ := askV_get l i hlt
      have cells := fun {B3 : Nat} {ao : Option Addr} {cap : Nat} (h : w.ownsRow B3 52 2 (.slice ao l.length cap) l.length (askV l)) => (show ∃ g, ao = some ⟨g, 0, none⟩ ∧ wr.cell? ⟨g, i * 2, none⟩ = some (.int .i64 l[i].1) ∧ wr.cell? ⟨g, i * 2 + 1, none⟩ = some (.int .i64 l[i].2) by
        rcases h.2 with ⟨hv, hn⟩ | ⟨g, cap', cur, hv, _, hg, _⟩
        · omega
        · cases hv
          have hc := fun (j : Nat) (x : Value) (hx : (askV l)[j]? = some x) => (show wr.cell? ⟨g, j, none⟩ = some x by
            have := h.cells (g := g) rfl j x hx
            have ha : (⟨g, 0, none⟩ : Addr).add j = ⟨g, j, none⟩ := by unfold Addr.add; split <;> simp_all
            rw [ha] at this
            exact (hbw.cell (World.block_lt_of_cell? _ _ this)).trans this)
          exact ⟨g, rfl, by rw [Nat.mul_comm]; exact hc _ _ g1, by rw [Nat.mul_comm]; exact hc _ _ g2⟩)
      obtain ⟨ga, rfl, a0, a1⟩ := cells H1.out
      obtain ⟨gb, rfl, b0, b1⟩ := cells H2.out
      clear cells g1 g2 hbw
      generalize l[i].1 = x at *
      generalize l[i].2 = y at *
      go_wp2_with fail
      go_quiet (fail)
      go_wp2_with fail
      go_roundw
      case rel => exact ⟨i + 1, by go_num, by omega, below_drewN HB.out _⟩
      case measure => simp [intOf]; omega
    · clear hbw
      go_wp2_with fail
      go_ret
      exact ⟨rfl, HB.out⟩
theorem rowG_len (s : Src) (a0 b0 : Nat) (m : Nat) : ∀ (asked : List (Int × Int)) (acc : List ByteArray), (rowG s a0 b0 m asked acc).2.2.length ≤ asked.length + m := by
  induction m with
  | zero => intro asked acc; exact Nat.le_refl _
  | succ m ih =>
    intro asked acc
    obtain ⟨r, hr⟩ : ∃ r, r = nodeG s (asked.length + 1) a0 ((b0 + acc.length : Nat) : Int) := ⟨_, rfl⟩
    obtain ⟨x, y⟩ := r
    rw [rowG_step s a0 b0 (m + 1) m rfl asked acc x y hr.symm]
    split
    · simp
    · split
      · simp
      · have := ih (asked ++ [((a0 : Int), ((b0 + acc.length : Nat) : Int))]) (acc ++ [x])
        rw [show (asked ++ [((a0 : Int), ((b0 + acc.length : Nat) : Int))]).length = asked.length + 1 by simp] at this
        omega
theorem serveG_len (s : Src) (h l i c n : Int) (asked : List (Int × Int)) : (serveG s h l i c n asked).2.2.length ≤ asked.length + 256 := by
  unfold serveG
  split
  · simp
  · rename_i g1
    have g1 : Lies h l i c 4611686018427387904 := by simpa using g1
    have hc : c.toNat ≤ 256 := by
      have h7 := g1.2.2.2.2.2.2.1
      have hP : 2 ^ h.toNat ≤ 256 := Nat.pow_le_pow_right (show 0 < 2 by decide) (show h.toNat ≤ 8 by have := g1.2.1; omega)
      omega
    have := rowG_len s (l * h).toNat (i.toNat * 2 ^ h.toNat) c.toNat asked []
    split
    · simp
    · split
      · simp
      · split
        · simp only; omega
        · simp only; omega
set_option maxHeartbeats 8000000 in
theorem law_TilesServe (k size : Int) (ao : Option Addr) (hs : List ByteArray) (cap : Nat) (made : Bool) (fails code : Int) (qo : Option Addr) (qn qc : Nat) (h l i c n : Int) (w : World) (hx : RowAt w ao (strs' hs)) (hao : ao = none → hs.length = 0 ∧ cap = 0) (hl : hs.length ≤ 1048576) (hz : ∀ x ∈ hs, x.size ≤ 1048576)
    (hg : GlobR w) (ht : TabP w) (hn : n ≤ 9223372036854775807)
    (bh : -9223372036854775808 ≤ h ∧ h ≤ 9223372036854775807) (bl : -9223372036854775808 ≤ l ∧ l ≤ 9223372036854775807) (bi : -9223372036854775808 ≤ i ∧ i ≤ 9223372036854775807) (bc : -9223372036854775808 ≤ c ∧ c ≤ 9223372036854775807) :
    Calls Tryd.prog 5 #[.agg #[.int .i64 k, .int .i64 size, .slice ao hs.length cap, .bool made, .int .i64 fails, .int .i64 code, .slice qo qn qc], .agg #[.int .i64 h, .int .i64 l, .int .i64 i, .int .i64 c], .int .i64 n] w fun e w' => e = .returned (.bool true) ∧ Below w.heap.size w w' := by
  obtain ⟨W, hW⟩ : ∃ W, (w.alloc (.cells #[.int .i64 k, .int .i64 size, .slice ao hs.length cap, .bool made, .int .i64 fails, .int .i64 code, .slice qo qn qc] 39)).alloc (.cells #[.int .i64 h, .int .i64 l, .int .i64 i, .int .i64 c] 23) = W := ⟨_, rfl⟩
  have bW : Below w.heap.size w W := by rw [← hW]; exact ((Below.refl w.heap.size w).alloc (Nat.le_refl _) _).alloc (by simp) _
  have x0 : W.cell? ⟨w.heap.size, 0, none⟩ = some (.int .i64 k) := by rw [← hW]; simp [go_sem]
  have x1 : W.cell? ⟨w.heap.size, 1, none⟩ = some (.int .i64 size) := by rw [← hW]; simp [go_sem]
  have x2 : W.cell? ⟨w.heap.size, 2, none⟩ = some (.slice ao hs.length cap) := by rw [← hW]; simp [go_sem]
  have x3 : W.cell? ⟨w.heap.size, 3, none⟩ = some (.bool made) := by rw [← hW]; simp [go_sem]
  have x4 : W.cell? ⟨w.heap.size, 4, none⟩ = some (.int .i64 fails) := by rw [← hW]; simp [go_sem]
  have x5 : W.cell? ⟨w.heap.size, 5, none⟩ = some (.int .i64 code) := by rw [← hW]; simp [go_sem]
  have x6 : W.cell? ⟨w.heap.size, 6, none⟩ = some (.slice qo qn qc) := by rw [← hW]; simp [go_sem]
  have K0 := hid (show TvK h l i c (w.heap.size + 1) W from ⟨by rw [← hW]; simp [go_sem], by rw [← hW]; simp [go_sem], by rw [← hW]; simp [go_sem], by rw [← hW]; simp [go_sem]⟩)
  have hsW : W.heap.size = w.heap.size + 2 := by rw [← hW]; simp
  have BW := hid bW
  have HX := hid (hx.below bW)
  have HXw := hid hx
  have HA := hid hao
  have HZ := hid hz
  have HG := hid hg
  have HT := hid ht
  have hnum := hid law23_num
  have HW := hid hW
  have htw := hid (law_twin k size ao hs cap made fails code (.slice qo qn qc) W HX.out hao hl ⟨_, _, _, rfl⟩)
  clear hx hao hz hg ht hW bW
  go_enter Tryd.func5, Tryd.ntmps5
  go_upto_region 1 with fail
  rw [HW.out]
  clear HW
  go_wp2_with fail
  refine htw.out.mono ?_
  clear htw
  rintro e w1 ⟨lv1, rfl, hM1, d1⟩
  have hk := fun {p : Addr} {v : Value} (hc : W.cell? p = some v) => (d1.cell (World.block_lt_of_cell? _ _ hc)).trans hc
  have y0 := hk x0
  have y1 := hk x1
  have y2 := hk x2
  have y3 := hk x3
  have y4 := hk x4
  have y5 := hk x5
  have y6 := hk x6
  have htw := hid (law_twin k size ao hs cap made fails code (.slice qo qn qc) w1 (HX.out.below d1) HA.out hl ⟨_, _, _, rfl⟩)
  have M1 := hid hM1
  have K1 := hid (K0.out.below d1)
  have B1 := hid (Below.then' BW.out d1)
  have hs1 : W.heap.size + 1 < w1.heap.size := hM1.lt
  have L1 := hid (show ∀ q, lv1.ownBlock = some q → q < w1.heap.size from fun q hq => (hM1.lown.lt q hq).2)
  clear hk x0 x1 x2 x3 x4 x5 x6 hM1 d1 K0 BW
  go_wp2_with fail
  refine htw.out.mono ?_
  clear htw y0 y1 y2 y3 y4 y5 y6
  rintro e w2 ⟨lv2, rfl, hM2, d2⟩
  have M2 := hid hM2
  have M12 := hid (M1.out.below d2)
  have K2 := hid (K1.out.below d2)
  have B2 := hid (Below.then' B1.out d2)
  have hs2 : w1.heap.size + 1 < w2.heap.size := hM2.lt
  have L2 := hid (show ∀ q, lv2.ownBlock = some q → w1.heap.size ≤ q from fun q hq => (hM2.lown.lt q hq).1)
  clear hM2 d2 M1 K1 B1
  rw [hsW] at M12
  obtain ⟨p1, hp1⟩ : ∃ p1, p1 = w.heap.size + 2 + 1 := ⟨_, rfl⟩
  obtain ⟨p2, hp2⟩ : ∃ p2, p2 = w1.heap.size + 1 := ⟨_, rfl⟩
  rw [← hp1] at M12 ⊢
  rw [← hp2] at M2 ⊢
  have HP1 := hid hp1
  have HP2 := hid hp2
  obtain ⟨s, hsd⟩ : ∃ s, s = twinS k size hs made fails code := ⟨_, rfl⟩
  rw [← hsd] at M2 M12
  have hsl : s.leaves = hs := by rw [hsd]; rfl
  have HSL := hid hsl
  clear hp1 hp2 hsd hsl
  obtain ⟨r, hr⟩ : ∃ r, r = serveG s h l i c n [] := ⟨_, rfl⟩
  have hrl := serveG_len s h l i c n []
  rw [← hr] at hrl
  obtain ⟨bt, f, asked⟩ := r
  simp only [List.length_nil] at hrl
  have hz2 : ∀ x ∈ s.leaves, x.size ≤ 1048576 := by rw [HSL.out]; exact HZ.out
  have hl2 : s.leaves.length ≤ 1048576 := by rw [HSL.out]; exact hl
  have hp12 : p1 < w1.heap.size := by have := HP1.out; omega
  have hp2w : p2 < w2.heap.size := by have := HP2.out; omega
  have HRD : Hid (∀ W', Below w2.heap.size w2 W' → Calls Tryd.prog 14 #[.pointer (some ⟨p1, 0, none⟩)] W' fun e w' => ∃ pt, e = .returned (.agg #[.int .i64 s.k, .int .i64 s.size, (.func (.func 34) #[.pointer (some ⟨pt, 0, none⟩)] #[])]) ∧ w2.heap.size ≤ pt ∧ w'.cell? ⟨pt, 0, none⟩ = some (.pointer (some ⟨p1, 0, none⟩)) ∧ Below w2.heap.size w2 w') := by
    intro W' hb
    have hM := M12.out.below hb
    refine (law_reader p1 s.k s.size W' hM.c0 hM.c1).mono ?_
    rintro e w' ⟨rfl, h1, h2⟩
    exact ⟨W'.heap.size + 1, rfl, by have := hb.size; omega, h1, Below.then' hb h2⟩
  have HSV : Hid (∀ pt W', Below w2.heap.size w2 W' → w2.heap.size ≤ pt → W'.cell? ⟨pt, 0, none⟩ = some (.pointer (some ⟨p1, 0, none⟩)) → Calls Tryd.prog 13 #[.agg #[.int .i64 s.k, .int .i64 s.size, (.func (.func 34) #[.pointer (some ⟨pt, 0, none⟩)] #[])], .agg #[.int .i64 h, .int .i64 l, .int .i64 i, .int .i64 c], .int .i64 n] W' fun e w' => ∃ u, e = .returned (.tuple #[.string bt, .int .i64 f]) ∧ SrcM (w.heap.size + 2) p1 s lv1 u asked w' ∧ SStep p1 (.slice none 0 0) w2 u w') := by
    intro pt W' hb h1 h2
    have := tiles_Serve (w.heap.size + 2) p1 pt s lv1 (.slice none 0 0) [] h l i c n W' w hz2 hl2 (by simp) (M12.out.below hb) HG.out HT.out (Below.then' B2.out hb) (by omega) h2 (by omega) (by simp [Value.ownBlock]) bh bl bi bc
    rw [← hr] at this
    refine this.mono ?_
    rintro e w' ⟨u, h3, h4, h5⟩
    exact ⟨u, h3, h4, (SStep.of hb).trans h5⟩
  have HRS : Hid (∀ W', Below w.heap.size w W' → SrcM w1.heap.size p2 s lv2 (.slice none 0 0) [] W' → Calls Tryd.prog 15 #[.pointer (some ⟨p2, 0, none⟩), .agg #[.int .i64 h, .int .i64 l, .int .i64 i, .int .i64 c], .int .i64 n] W' fun e w' => ∃ u, e = .returned (.tuple #[.string bt, .int .i64 f]) ∧ SrcM w1.heap.size p2 s lv2 u asked w' ∧ SStep p2 (.slice none 0 0) W' u w') := by
    intro W' hb hM
    have := ref23_Serve w1.heap.size p2 s lv2 (.slice none 0 0) [] h l i c n W' w hz2 hl2 (by simp) hM HG.out HT.out hb (by omega) hn bh bl bi bc
    rw [← hr] at this
    exact this
  have k0 := K2.out.t0
  have k1 := K2.out.t1
  have k2 := K2.out.t2
  have k3 := K2.out.t3
  clear hr hz2 hl2
  go_upto_region 3 with fail
  go_cut [9, 10] (fun b' f' wc => b' = .string bt ∧ f' = .int .i64 f ∧ ∃ u, SrcM (w.heap.size + 2) p1 s lv1 u asked wc ∧ SStep p1 (.slice none 0 0) w2 u wc)
  case first =>
    go_region_law (first
      | (go_simp; go_at_call 14; (with_reducible refine Calls.mono (HRD.out _ ?hb) ?_); (case hb => (repeat' (first | exact Below.refl _ _ | apply Below.drew))); rintro e w3 ⟨pt, rfl, hpt1, hpt2, d3⟩; have D3 := hid d3; have PT := hid hpt2; have K3 := K2.out.below d3; have m0 := K3.t0; have m1 := K3.t1; have m2 := K3.t2; have m3 := K3.t3; clear d3 hpt2 K3)
      | (go_simp; go_at_call 13; (with_reducible refine Calls.mono (HSV.out _ _ ?h1 hpt1 ?h2) ?_); (case h1 => first | exact D3.out | exact D3.out.drew); (case h2 => exact PT.out); rintro e w4 ⟨u, rfl, hM, hS⟩; have HM := hid hM; have HSS := hid hS; clear hM hS))
    all_goals
      go_wp2_with fail
      go_meet
      case rel => exact ⟨rfl, rfl, u, HM.out, HSS.out⟩
  case rest =>
  obtain ⟨rfl, rfl, u, hMs, hSs⟩ := hcut
  have nil_off : ∀ q, (Value.slice none 0 0).ownBlock ≠ some q := by intro q; simp [Value.ownBlock]
  have hpw := HP1.out
  have hpw2 := HP2.out
  have Mc := hid hMs
  have M2c := hid (M2.out.other hSs (by omega) (nil_off _) (fun q hq => ⟨by have := L2.out q hq; omega, nil_off _⟩) (fun q hq => absurd hq (nil_off q)))
  have K3 := hid (K2.out.step hSs (by omega) (nil_off _))
  have Bc := hid (Below.trans B2.out (hSs.below (A := w.heap.size) (by omega) (fun q hq => absurd hq (nil_off q)) B2.out.size))
  have uf := hSs.far (b := p2) hp2w (nil_off _)
  clear hMs hSs HRD HSV M2 M12 K2 k0 k1 k2 k3
  have k0 := K3.out.t0
  have k1 := K3.out.t1
  have k2 := K3.out.t2
  have k3 := K3.out.t3
  clear hpw hpw2
  go_wp2_with fail
  refine (HRS.out _ Bc.out M2c.out).mono ?_
  clear HRS k0 k1 k2 k3 K3
  rintro e w5 ⟨u2, rfl, hM5, hS5⟩
  have M5 := hid hM5
  have M5s := hid (Mc.out.other hS5 (by have := HP2.out; have := HP1.out; omega) (nil_off _) (fun q hq => ⟨by have := L1.out q hq; have := HP2.out; omega, nil_off _⟩) (fun q hq => ⟨fun e => uf (e ▸ hq), nil_off _⟩))
  have B5 := hid (Below.trans Bc.out (hS5.below (A := w.heap.size) (by have := HP2.out; omega) (fun q hq => absurd hq (nil_off q)) Bc.out.size))
  clear hM5 hS5 Mc M2c Bc uf L1 L2 nil_off
  have HAD : Hid (∀ W', Below w5.heap.size w5 W' → Calls Tryd.prog 16 #[u, u2] W' fun e w' => e = .returned (.bool true) ∧ Below w5.heap.size w5 w') := by
    intro W' hb
    refine (law_addrs (w.heap.size + 2) w1.heap.size u u2 asked W' (by omega) (M5s.out.below hb).vown (M5.out.below hb).vown).mono ?_
    rintro e w' ⟨h1, h2⟩
    exact ⟨h1, Below.then' hb h2⟩
  have k6 := M5s.out.c6
  have k7 := M5.out.c6
  have HBd := hid ((Below.refl w5.heap.size w5).drew)
  clear M5 M5s
  go_wp2_with fail
  go_region_held3 (fun W => W.cell? ⟨p1, 6, none⟩ = some u ∧ W.cell? ⟨p2, 6, none⟩ = some u2) (go_keep) (first
    | (go_at_call 9; refine (hnum.out _ _).mono ?_; rintro e w' ⟨rfl, rfl⟩)
    | (go_at_call 16; (with_reducible refine Calls.mono (HAD.out _ ?hb) ?_); (case hb => exact Hid.out (show Hid (Below w5.heap.size w5 _) by assumption)); rintro e w6 ⟨rfl, d6⟩; have B6 := hid (Below.then' B5.out d6); have k16 := (d6.cell (World.block_lt_of_cell? _ _ k6)).trans k6; have k17 := (d6.cell (World.block_lt_of_cell? _ _ k7)).trans k7; clear d6))
  all_goals
    go_wp2_with fail
    go_ret
    exact ⟨rfl, B6.out⟩
theorem law_TilesServe' (k size : Int) (ao : Option Addr) (hs : List ByteArray) (cap : Nat) (made : Bool) (fails code : Int) (qo : Option Addr) (qn qc : Nat) (h l i c n : Int) (w : World) (hx : RowAt w ao (strs' hs)) (hao : ao = none → hs.length = 0 ∧ cap = 0) (hl : hs.length ≤ 1048576) (hz : ∀ x ∈ hs, x.size ≤ 1048576)
    (bh : -9223372036854775808 ≤ h ∧ h ≤ 9223372036854775807) (bl : -9223372036854775808 ≤ l ∧ l ≤ 9223372036854775807) (bi : -9223372036854775808 ≤ i ∧ i ≤ 9223372036854775807) (bc : -9223372036854775808 ≤ c ∧ c ≤ 9223372036854775807) (hn : -9223372036854775808 ≤ n ∧ n ≤ 9223372036854775807) (hg : GlobR w ∧ TabP w) :
    Calls Tryd.prog 5 #[.agg #[.int .i64 k, .int .i64 size, .slice ao hs.length cap, .bool made, .int .i64 fails, .int .i64 code, .slice qo qn qc], .agg #[.int .i64 h, .int .i64 l, .int .i64 i, .int .i64 c], .int .i64 n] w fun e w' => e = .returned (.bool true) ∧ Below w.heap.size w w' :=
  law_TilesServe k size ao hs cap made fails code qo qn qc h l i c n w hx hao hl hz hg.1 hg.2 hn.2 bh bl bi bc
end Go.Proofs.YtocjjiacmedjmaaDoor
