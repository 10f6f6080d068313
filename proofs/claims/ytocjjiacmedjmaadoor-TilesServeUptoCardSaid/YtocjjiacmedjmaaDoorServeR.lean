/- Walk of the reference's Serve over a source. -/
import Derived.Test.YtocjjiacmedjmaaDoorServeP
import Derived.Test.YtocjjiacmedjmaaDoorRefTLies
set_option maxRecDepth 100000
namespace Go.Proofs.YtocjjiacmedjmaaDoor
open Go Go.RowKit

structure TvK (h l i c : Int) (H : Nat) (W : World) : Prop where
  t0 : W.cell? ⟨H, 0, none⟩ = some (.int .i64 h)
  t1 : W.cell? ⟨H, 1, none⟩ = some (.int .i64 l)
  t2 : W.cell? ⟨H, 2, none⟩ = some (.int .i64 i)
  t3 : W.cell? ⟨H, 3, none⟩ = some (.int .i64 c)
theorem TvK.below {h l i c : Int} {H : Nat} {W W' : World} (k : TvK h l i c H W) (hb : Below W.heap.size W W') : TvK h l i c H W' := by
  have hk := fun {p : Addr} {v : Value} (hc : W.cell? p = some v) => (hb.cell (World.block_lt_of_cell? _ _ hc)).trans hc
  exact ⟨hk k.t0, hk k.t1, hk k.t2, hk k.t3⟩
theorem TvK.step {h l i c : Int} {p H : Nat} {W W' : World} {v v' : Value} (k : TvK h l i c H W) (hs : SStep p v W v' W') (h1 : H ≠ p) (v1 : v.ownBlock ≠ some H) : TvK h l i c H W' :=
  ⟨hs.cell k.t0 h1 v1, hs.cell k.t1 h1 v1, hs.cell k.t2 h1 v1, hs.cell k.t3 h1 v1⟩
theorem TvK.grown {h l i c : Int} {H : Nat} {W W' : World} (k : TvK h l i c H W) {r : Option Nat} (hg : W.grownBy W' r) (hr : ∀ q, r = some q → H + 1 ≤ q) : TvK h l i c H W' := by
  have hk := fun {j : Nat} {v : Value} (hc : W.cell? ⟨H, j, none⟩ = some v) => (World.cell?_of_block (w := W) (hg.block H (World.block_lt_of_cell? _ _ hc) (fun e => by have := hr H e.symm; omega))).trans hc
  exact ⟨hk k.t0, hk k.t1, hk k.t2, hk k.t3⟩

set_option maxHeartbeats 8000000 in
theorem ref23_Serve (B p : Nat) (s : Src) (lv v : Value) (asked : List (Int × Int)) (h l i c n : Int) (w w0 : World) (hz : ∀ x ∈ s.leaves, x.size ≤ 1048576) (hl : s.leaves.length ≤ 1048576) (ha : asked.length ≤ 1000) (hM : SrcM B p s lv v asked w)
    (hg : GlobR w0) (ht : TabP w0) (hb : Below w0.heap.size w0 w) (hB : w0.heap.size ≤ B) (hn : n ≤ 9223372036854775807)
    (bh : -9223372036854775808 ≤ h ∧ h ≤ 9223372036854775807) (bl : -9223372036854775808 ≤ l ∧ l ≤ 9223372036854775807) (bi : -9223372036854775808 ≤ i ∧ i ≤ 9223372036854775807) (bc : -9223372036854775808 ≤ c ∧ c ≤ 9223372036854775807) :
    Calls Tryd.prog 15 #[.pointer (some ⟨p, 0, none⟩), .agg #[.int .i64 h, .int .i64 l, .int .i64 i, .int .i64 c], .int .i64 n] w fun e w' => ∃ v', e = .returned (saidV ((serveG s h l i c n asked).1, (serveG s h l i c n asked).2.1)) ∧ SrcM B p s lv v' (serveG s h l i c n asked).2.2 w' ∧ SStep p v w v' w' := by
  obtain ⟨W, hW⟩ : ∃ W, w.alloc (.cells #[.int .i64 h, .int .i64 l, .int .i64 i, .int .i64 c] 23) = W := ⟨_, rfl⟩
  have bW : Below w.heap.size w W := by rw [← hW]; exact (Below.refl w.heap.size w).alloc (Nat.le_refl _) _
  have hsW : W.heap.size = w.heap.size + 1 := by rw [← hW]; simp
  have K0 := hid (show TvK h l i c w.heap.size W from ⟨by rw [← hW]; simp [go_sem], by rw [← hW]; simp [go_sem], by rw [← hW]; simp [go_sem], by rw [← hW]; simp [go_sem]⟩)
  have hgo := hid (ref23_Goes h l i c bh bl bi bc W)
  have hli := hid (fun (m : Nat) (hm : m ≤ 9223372036854775807) W => ref23_lies h l i c m hm bh bl bi bc W)
  have M0 := hid (hM.below bW)
  have S0 := hid (SStep.of (p := p) (v := v) bW)
  have HW := hid hW
  have HG := hid hg
  have HT := hid ht
  have HZ := hid hz
  have hwp : w.heap.size ≠ p := by have := hM.lt; omega
  have hwlt := hM.lt
  have HV := hid (show ∀ q, v.ownBlock = some q → q < w.heap.size from fun q hq => (hM.vown.lt q hq).2)
  have HLV := hid (show ∀ q, lv.ownBlock = some q → q < w.heap.size from fun q hq => (hM.lown.lt q hq).2)
  have HB0 := hid hb
  have HV0 := hid (show ∀ q, v.ownBlock = some q → w0.heap.size ≤ q from fun q hq => Nat.le_trans hB (hM.vown.lt q hq).1)
  clear hW bW hg ht hz hM hb

  by_cases g1 : Lies h l i c 4611686018427387904
  · rw [show decide (Lies h l i c 4611686018427387904) = true from decide_eq_true g1] at hgo
    by_cases g2 : s.size < 0
    ·
      have HR : Hid (serveG s h l i c n asked = (⟨#[]⟩, 10, asked)) := by unfold Hid serveG; rw [if_neg (by simpa using g1), if_pos (.inl g2)]
      go_enter Tryd.func15, Tryd.ntmps15
      go_wp2_with fail
      rw [HW.out]
      refine hgo.out.mono ?_
      rintro e w1 ⟨rfl, d1⟩
      have K1 := hid (K0.out.below d1)
      have M1 := hid (M0.out.below d1)
      have S1 := hid (S0.out.trans (SStep.of d1))
      have k1 := M1.out.c1
      have k3 := K1.out.t0
      have k4 := K1.out.t1
      have k5 := K1.out.t2
      have k6 := K1.out.t3
      clear d1
      go_wp2_with fail
      go_ret2
      exact ⟨v, by rw [HR.out]; rfl, by rw [HR.out]; exact M1.out, S1.out⟩
    by_cases g3 : 4611686018427387904 < s.size
    ·
      have HR : Hid (serveG s h l i c n asked = (⟨#[]⟩, 10, asked)) := by unfold Hid serveG; rw [if_neg (by simpa using g1), if_pos (.inr g3)]
      go_enter Tryd.func15, Tryd.ntmps15
      go_wp2_with fail
      rw [HW.out]
      refine hgo.out.mono ?_
      rintro e w1 ⟨rfl, d1⟩
      have K1 := hid (K0.out.below d1)
      have M1 := hid (M0.out.below d1)
      have S1 := hid (S0.out.trans (SStep.of d1))
      have k1 := M1.out.c1
      have k3 := K1.out.t0
      have k4 := K1.out.t1
      have k5 := K1.out.t2
      have k6 := K1.out.t3
      clear d1
      go_wp2_with fail
      go_ret2
      exact ⟨v, by rw [HR.out]; rfl, by rw [HR.out]; exact M1.out, S1.out⟩
    have g23 : ¬ (s.size < 0 ∨ 4611686018427387904 < s.size) := by omega
    by_cases g4 : n < 0
    · have hli2 := hid (hli.out 0 (by omega))
      have hmax : max n 0 = 0 := by omega
      generalize decide (Lies h l i c 0) = dd at hli2
      have HR : Hid (serveG s h l i c n asked = (⟨#[]⟩, 80, asked)) := by unfold Hid serveG; rw [if_neg (by simpa using g1), if_neg g23, if_pos (.inl g4)]
      go_enter Tryd.func15, Tryd.ntmps15
      go_wp2_with fail
      rw [HW.out]
      refine hgo.out.mono ?_
      rintro e w1 ⟨rfl, d1⟩
      have K1 := hid (K0.out.below d1)
      have M1 := hid (M0.out.below d1)
      have S1 := hid (S0.out.trans (SStep.of d1))
      have k1 := M1.out.c1
      have k3 := K1.out.t0
      have k4 := K1.out.t1
      have k5 := K1.out.t2
      have k6 := K1.out.t3
      clear d1
      clear g23
      go_wp2_with fail
      refine (hli2.out _).mono ?_
      rintro e w2 ⟨rfl, d2⟩
      have k1 := (M1.out.below d2).c1
      have M2 := hid (M1.out.below d2)
      have S2 := hid (S1.out.trans (SStep.of d2))
      clear d2 k3 k4 k5 k6
      go_wp2_with fail
      go_ret2
      exact ⟨v, by rw [HR.out]; rfl, by rw [HR.out]; exact M2.out, S2.out⟩
    obtain ⟨n, rfl⟩ := Int.eq_ofNat_of_zero_le (show 0 ≤ n by omega)
    have hli2 := hid (hli.out n (by omega))
    have hmax : max (n : Int) 0 = (n : Int) := by omega
    clear hli
    by_cases g5 : s.size < n
    · generalize decide (Lies h l i c n) = dd at hli2
      have HR : Hid (serveG s h l i c n asked = (⟨#[]⟩, 80, asked)) := by unfold Hid serveG; rw [if_neg (by simpa using g1), if_neg g23, if_pos (.inr (.inl g5))]
      go_enter Tryd.func15, Tryd.ntmps15
      go_wp2_with fail
      rw [HW.out]
      refine hgo.out.mono ?_
      rintro e w1 ⟨rfl, d1⟩
      have K1 := hid (K0.out.below d1)
      have M1 := hid (M0.out.below d1)
      have S1 := hid (S0.out.trans (SStep.of d1))
      have k1 := M1.out.c1
      have k3 := K1.out.t0
      have k4 := K1.out.t1
      have k5 := K1.out.t2
      have k6 := K1.out.t3
      clear d1
      clear g23
      go_wp2_with fail
      refine (hli2.out _).mono ?_
      rintro e w2 ⟨rfl, d2⟩
      have k1 := (M1.out.below d2).c1
      have M2 := hid (M1.out.below d2)
      have S2 := hid (S1.out.trans (SStep.of d2))
      clear d2 k3 k4 k5 k6
      go_wp2_with fail
      go_ret2
      exact ⟨v, by rw [HR.out]; rfl, by rw [HR.out]; exact M2.out, S2.out⟩
    by_cases g6 : Lies h l i c n
    · rw [show decide (Lies h l i c n) = true from decide_eq_true g6] at hli2
      obtain ⟨y1, y2, y3, y4, y5, y6, y7, y8, y9⟩ := g1
      obtain ⟨h, rfl⟩ := Int.eq_ofNat_of_zero_le (show 0 ≤ h by omega)
      obtain ⟨l, rfl⟩ := Int.eq_ofNat_of_zero_le y3
      obtain ⟨i, rfl⟩ := Int.eq_ofNat_of_zero_le y5
      obtain ⟨c, rfl⟩ := Int.eq_ofNat_of_zero_le (show 0 ≤ c by omega)
      have eA : ((l : Int) * (h : Int)).toNat = l * h := by rw [← Int.natCast_mul, Int.toNat_natCast]
      rw [eA] at y8 y9
      rw [Int.toNat_natCast] at y7 y9
      have HS : Hid (∀ r, rowG s (l * h) (i * 2 ^ h) c asked [] = r → serveG s h l i c n asked = if r.2.1 ≠ 0 then (⟨#[]⟩, r.2.1, r.2.2) else (⟨(hashesB (widthN s.k) r.1).toArray⟩, 0, r.2.2)) := by
        intro r hr
        unfold serveG
        rw [if_neg (by simpa using (show Lies h l i c 4611686018427387904 from ⟨y1, y2, y3, y4, y5, y6, by rw [Int.toNat_natCast]; exact y7, by rw [eA]; exact y8, by rw [eA, Int.toNat_natCast]; exact y9⟩)), if_neg g23, if_neg (by rw [Int.toNat_natCast]; simp only [not_or, Decidable.not_not]; exact ⟨g4, g5, g6⟩)]
        rw [eA, Int.toNat_natCast, Int.toNat_natCast, Int.toNat_natCast, hr]
      have hq := Nat.div_le_self 4611686018427387904 (2 ^ (l * h))
      have hP : 2 ^ h ≤ 256 := Nat.pow_le_pow_right (show 0 < 2 by decide) (show h ≤ 8 by omega)
      have hP0 : 0 < 2 ^ h := Nat.pow_pos (by decide)
      obtain ⟨q, hqd⟩ : ∃ q, q = 4611686018427387904 / 2 ^ (l * h) := ⟨_, rfl⟩
      rw [← hqd] at y8 y9 hq
      have hbc : i * 2 ^ h + c ≤ 4611686018427387904 := by
        have h2 : (i : Int) * ((2 ^ h : Nat) : Int) ≤ (q : Int) - c := by
          have := Int.mul_le_mul_of_nonneg_right y9 (show (0 : Int) ≤ ((2 ^ h : Nat) : Int) by omega)
          exact Int.le_trans this (Int.ediv_mul_le _ (by omega))
        rw [← Int.natCast_mul] at h2
        omega
      have ha62 : l * h ≤ 62 := by rw [← Int.natCast_mul] at y4; omega
      have hmul : (l : Int) * (h : Int) = ((l * h : Nat) : Int) := by simp
      have hshl : (i : Int) * 2 ^ h = ((i * 2 ^ h : Nat) : Int) := by simp
      have hh8 : (h : Int) ≤ 8 := y2
      have hc256 : c ≤ 256 := by omega
      have hi62 : i ≤ 4611686018427387904 := by
        have : i ≤ i * 2 ^ h := Nat.le_mul_of_pos_right _ hP0
        omega
      have hl62 : l ≤ 62 := by
        have : l ≤ l * h := Nat.le_mul_of_pos_right _ (by omega)
        omega
      clear eA y1 y2 y3 y4 y5 y6 y7 y8 y9 hqd hq hP hP0 g6 bh bl bi bc
      obtain ⟨a0, ha0⟩ : ∃ a0, a0 = l * h := ⟨_, rfl⟩
      obtain ⟨b0, hb0⟩ : ∃ b0, b0 = i * 2 ^ h := ⟨_, rfl⟩
      rw [← ha0] at hmul ha62 HS
      rw [← hb0] at hshl hbc HS
      clear ha0 hb0
      have hwd := hid (fun W => ref2_Width s.k W)
      have hw32 := widthN_le s.k
      have hw1 := widthN_pos s.k
      obtain ⟨wd, hwdd⟩ : ∃ wd, wd = widthN s.k := ⟨_, rfl⟩
      have HWD := hid hwdd
      rw [← hwdd] at hwd hw32 hw1 HS
      clear hwdd g23
      go_enter Tryd.func15, Tryd.ntmps15
      go_wp2_with fail
      rw [HW.out]
      refine hgo.out.mono ?_
      rintro e w1 ⟨rfl, d1⟩
      have K1 := hid (K0.out.below d1)
      have M1 := hid (M0.out.below d1)
      have S1 := hid (S0.out.trans (SStep.of d1))
      have hs1 : w.heap.size + 1 ≤ w1.heap.size := by have := d1.size; omega
      have k1 := M1.out.c1
      have k3 := K1.out.t0
      have k4 := K1.out.t1
      have k5 := K1.out.t2
      have k6 := K1.out.t3
      clear d1 K0 M0 S0 hgo
      go_wp2_with fail
      refine (hli2.out _).mono ?_
      rintro e w2 ⟨rfl, d2⟩
      have K2 := hid (K1.out.below d2)
      have M2 := hid (M1.out.below d2)
      have S2 := hid (S1.out.trans (SStep.of d2))
      have hs2 : w.heap.size + 1 ≤ w2.heap.size := Nat.le_trans hs1 d2.size
      have k0 := M2.out.c0
      have k1 := M2.out.c1
      clear d2 k3 k4 k5 k6 K1 M1 S1 hs1 hli2
      go_wp2_with ((go_at_call 37; refine (hwd.out _).mono ?_; rintro e w' ⟨rfl, rfl⟩))
      clear k0 k1
      go_loopw [11, 12] (fun v' i' wr => ∃ (acc : List ByteArray) (ask : List (Int × Int)) (u : Value), i' = .int .i64 acc.length ∧ acc.length ≤ c ∧ (∀ x ∈ acc, x.size = wd) ∧ wr.ownsRow (w.heap.size + 1) 9 1 v' acc.length (strs' acc) ∧ SrcM B p s lv u ask wr ∧ SStep p v w u wr ∧ TvK h l i c w.heap.size wr ∧
          rowG s a0 b0 (c - acc.length) ask acc = rowG s a0 b0 c asked [] ∧ ask.length ≤ 1000 + acc.length ∧ w.heap.size + 1 ≤ wr.heap.size ∧ u.ownBlock ≠ some w.heap.size) (fun _ i' _ => (c - intOf i').toNat)
      case atStart => exact ⟨[], asked, v, rfl, by simp, by simp, World.ownsRow_nil _ _ _ _, M2.out, S2.out, K2.out, rfl, by simp; omega, hs2, fun e => by have := HV.out _ e; omega⟩
      case round =>
        obtain ⟨acc, ask, u, rfl, hle, hzz, hown, hM3, hS3, hK3, hrow, hask, hsz3, u1⟩ := hrel
        have HZZ := hid hzz
        have HO := hid hown
        have M3 := hid hM3
        have S3 := hid hS3
        have K3 := hid hK3
        have HROW := hid hrow
        have B3 := hid (Below.trans HB0.out (hS3.below (A := w0.heap.size) (Nat.le_trans hB hM3.le) HV0.out HB0.out.size))
        clear hzz hown hrow
        have k0 := K3.out.t0
        have k1 := K3.out.t1
        have k2 := K3.out.t2
        have k3 := K3.out.t3
        by_cases hlt : acc.length < c
        · have HN : Hid (Calls Tryd.prog 38 #[.pointer (some ⟨p, 0, none⟩), .agg #[.int .i64 a0, .int .i64 ((b0 : Int) + (acc.length : Int))]] wr fun e w' => ∃ u', e = .returned (saidV (nodeG s (ask.length + 1) a0 ((b0 + acc.length : Nat) : Int))) ∧ SrcM B p s lv u' (ask ++ [((a0 : Int), ((b0 + acc.length : Nat) : Int))]) w' ∧ SStep p u wr u' w') := by
            unfold Hid
            rw [← Int.natCast_add]
            exact src_Node B p s lv u ask a0 ((b0 + acc.length : Nat) : Int) wr w0 HZ.out hl (by omega) M3.out HG.out HT.out B3.out hB
          have hst := rowG_step s a0 b0 (c - acc.length) (c - (acc.length + 1)) (by omega) ask acc
          have hnz := nodeG_size s HZ.out (ask.length + 1) a0 ((b0 + acc.length : Nat) : Int)
          obtain ⟨r, hr⟩ : ∃ r, r = nodeG s (ask.length + 1) a0 ((b0 + acc.length : Nat) : Int) := ⟨_, rfl⟩
          obtain ⟨x, y⟩ := r
          have hst := hst x y hr.symm
          rw [← hr] at HN hnz
          unfold saidV at HN
          simp only at HN hnz
          rw [← HWD.out] at hst
          have HST := hid (HROW.out.symm.trans hst)
          have hbj : (b0 : Int) + (acc.length : Int) ≤ 4611686018427387904 := by omega
          clear hst hr HROW
          go_wp2_with fail
          refine HN.out.mono ?_
          rintro e w4 ⟨u', rfl, hM4, hS4⟩
          have M4 := hid hM4
          have S4 := hid (S3.out.trans hS4)
          have K4 := hid (K3.out.step hS4 hwp u1)
          have HO4 := hid (hS4.own HO.out (fun q hq => ⟨fun e => by have := (HO.out.lt q hq).1; have := M3.out.lt; have := hwlt; omega, fun e => own_off HO.out M3.out.vown (by decide) hq e⟩))
          have n1 := hS4.far (b := w.heap.size) (by omega) u1
          have hs4 := Nat.le_trans hsz3 hS4.size
          clear hM4 hS4 hM3 hS3 hK3 HN HO M3 S3 K3 B3 k0 k1 k2 k3 u1
          by_cases hy : y = 0
          · subst hy
            by_cases hxw : x.size = wd
            · have HST2 : Hid (rowG s a0 b0 c asked [] = rowG s a0 b0 (c - (acc.length + 1)) (ask ++ [((a0 : Int), ((b0 + acc.length : Nat) : Int))]) (acc ++ [x])) := by unfold Hid; rw [HST.out, if_neg (by simp), if_neg (by simpa using hxw)]
              have hx1 : ((x.size : Int) == (wd : Int)) = true := by simp [hxw]
              have hx2 : decide ((x.size : Int) = (wd : Int)) = true := by simp [hxw]
              have hzx := hxw
              clear hxw HST
              go_wp2_with (at_builtin; refine wp_append1g (w.heap.size + 1) rfl (.tmp 88) (.tmp 90) 36 9 (.string ⟨#[]⟩) 16 rfl Tryd.underlying36 info_str rfl (by decide) _ (strs' acc) (.string x) rfl rfl rfl (by rw [strs'_length]; exact HO4.out) (by omega) (by rw [strs'_length]; omega) ?_; intro v1 w5 hown5 hg5; have HO5 := hid hown5; have HG5 := hid hg5; clear hown5 hg5)
              have hrb : ∀ q, u11.ownBlock = some q → w.heap.size + 1 ≤ q := fun q hq => (HO4.out.lt q hq).1
              go_roundw
              case rel =>
                have hs5 := HG5.out.size
                refine ⟨acc ++ [x], _, u', by simp, by simp; omega, fun z hz => (List.mem_append.1 hz).elim (HZZ.out z) (fun hz => by rw [List.mem_singleton.1 hz]; exact hzx), ?_, M4.out.grown HG5.out (fun e => by have := hrb _ e; omega) (fun q hq e => by have := hrb q e; have := HLV.out q hq; omega) (fun q hq e => own_off HO4.out M4.out.vown (by decide) e hq), S4.out.grow HG5.out (fun q hq => by have := hrb q hq; omega), K4.out.grown HG5.out hrb, ?_, by simp; omega, by omega, n1⟩
                · have := HO5.out
                  rw [show strs' acc ++ [Value.string x] = strs' (acc ++ [x]) by simp [strs'], strs'_length] at this
                  exact this
                · rw [HST2.out, show (acc ++ [x]).length = acc.length + 1 by simp]
              case measure => simp [intOf]; omega
            · have HR2 : Hid (serveG s h l i c n asked = (⟨#[]⟩, 72, ask ++ [((a0 : Int), ((b0 + acc.length : Nat) : Int))])) := by unfold Hid; rw [HS.out _ (HST.out.trans (by rw [if_neg (by simp), if_pos hxw]))]; simp
              have hx1 : ((x.size : Int) == (wd : Int)) = false := beq_eq_false_iff_ne.2 (by omega)
              have hx2 : decide ((x.size : Int) = (wd : Int)) = false := decide_eq_false (by omega)
              clear HST
              go_wp2_with fail
              go_ret2
              exact ⟨u', by rw [HR2.out]; rfl, by rw [HR2.out]; exact M4.out, S4.out⟩
          · have HR2 : Hid (serveG s h l i c n asked = (⟨#[]⟩, y, ask ++ [((a0 : Int), ((b0 + acc.length : Nat) : Int))])) := by unfold Hid; rw [HS.out _ (HST.out.trans (by rw [if_pos hy]))]; simp [hy]
            have hy1 : (y == 0) = false := beq_eq_false_iff_ne.2 hy
            have hy2 : decide (y = 0) = false := decide_eq_false hy
            clear HST
            go_wp2_with fail
            go_ret2
            exact ⟨u', by rw [HR2.out]; rfl, by rw [HR2.out]; exact M4.out, S4.out⟩
        · have hr0 := rowG_zero s a0 b0 (c - acc.length) (by omega) ask acc
          have HR2 : Hid (serveG s h l i c n asked = (⟨(hashesB wd acc).toArray⟩, 0, ask)) := by unfold Hid; rw [HS.out _ (HROW.out.symm.trans hr0)]; simp
          obtain ⟨zo, zc, e9⟩ : ∃ ao cap, u11 = .slice ao acc.length cap := own_val HO.out
          subst e9
          have hwN : widthN (wd : Int) = wd := by unfold widthN; rw [if_neg (by omega)]; omega
          have hcap : acc.length ≤ zc := by
            rcases HO.out.2 with ⟨hv, hn⟩ | ⟨g, cap', cur, hv, _, _, hle2, _⟩
            · simp at hv; omega
            · cases hv; exact hle2
          have hhs := ref11_Hashes (wd : Int) zo acc zc wr (by obtain ⟨ao, cap, e, _, hr⟩ := own_row HO.out; cases e; exact hr)
          have hhr : hashesR (wd : Int) acc = (⟨(hashesB wd acc).toArray⟩, 0) := by
            unfold hashesR
            rw [if_neg (by omega), hwN, if_pos (sized_all fun i hi => HZZ.out _ (List.getElem_mem hi))]
          rw [hhr] at hhs
          have HHS := hid hhs
          generalize (⟨(hashesB wd acc).toArray⟩ : ByteArray) = out at *
          clear hr0 hwN hcap hhs hhr HROW hM3 hS3 hK3
          go_wp2_with fail
          refine HHS.out.mono ?_
          rintro e w6 ⟨rfl, d6⟩
          unfold strErr
          simp only
          have M6 := hid (M3.out.below d6)
          have S6 := hid (S3.out.trans (SStep.of d6))
          clear d6
          go_wp2_with fail
          go_ret2
          exact ⟨u, by rw [HR2.out]; rfl, by rw [HR2.out]; exact M6.out, S6.out⟩
    · rw [show decide (Lies h l i c n) = false from decide_eq_false g6] at hli2
    
      have HR : Hid (serveG s h l i c n asked = (⟨#[]⟩, 80, asked)) := by unfold Hid serveG; rw [if_neg (by simpa using g1), if_neg g23, if_pos (.inr (.inr (by rw [Int.toNat_natCast]; exact g6)))]
      go_enter Tryd.func15, Tryd.ntmps15
      go_wp2_with fail
      rw [HW.out]
      refine hgo.out.mono ?_
      rintro e w1 ⟨rfl, d1⟩
      have K1 := hid (K0.out.below d1)
      have M1 := hid (M0.out.below d1)
      have S1 := hid (S0.out.trans (SStep.of d1))
      have k1 := M1.out.c1
      have k3 := K1.out.t0
      have k4 := K1.out.t1
      have k5 := K1.out.t2
      have k6 := K1.out.t3
      clear d1
      clear g23
      go_wp2_with fail
      refine (hli2.out _).mono ?_
      rintro e w2 ⟨rfl, d2⟩
      have k1 := (M1.out.below d2).c1
      have M2 := hid (M1.out.below d2)
      have S2 := hid (S1.out.trans (SStep.of d2))
      clear d2 k3 k4 k5 k6
      go_wp2_with fail
      go_ret2
      exact ⟨v, by rw [HR.out]; rfl, by rw [HR.out]; exact M2.out, S2.out⟩
  · rw [show decide (Lies h l i c 4611686018427387904) = false from decide_eq_false g1] at hgo
  
    have HR : Hid (serveG s h l i c n asked = (⟨#[]⟩, 230, asked)) := by unfold Hid serveG; rw [if_pos g1]
    go_enter Tryd.func15, Tryd.ntmps15
    go_wp2_with fail
    rw [HW.out]
    refine hgo.out.mono ?_
    rintro e w1 ⟨rfl, d1⟩
    have K1 := hid (K0.out.below d1)
    have M1 := hid (M0.out.below d1)
    have S1 := hid (S0.out.trans (SStep.of d1))
    have k1 := M1.out.c1
    have k3 := K1.out.t0
    have k4 := K1.out.t1
    have k5 := K1.out.t2
    have k6 := K1.out.t3
    clear d1
    go_wp2_with fail
    go_ret2
    exact ⟨v, by rw [HR.out]; rfl, by rw [HR.out]; exact M1.out, S1.out⟩
end Go.Proofs.YtocjjiacmedjmaaDoor
