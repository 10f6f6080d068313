/- Walk of (prove.Reader).hash. -/
import Derived.Test.YtaaldkkfedinpaaDoorFoldR
set_option maxRecDepth 100000
namespace Go.Proofs.YtaaldkkfedinpaaDoor
open Go Go.RowKit

theorem kept_row {W W' : World} {B n size : Nat} {e : TypeId} {r : Value} {xs : List Value} {row : Option Nat} (h : W.ownsRow B e size r n xs) (hg : W.grownBy W' row) (hne : ∀ q, r.ownBlock = some q → row ≠ some q) : W'.ownsRow B e size r n xs := by
  refine World.ownsRow.kept h hg ?_
  cases hq : r.ownBlock with
  | none => exact .inl rfl
  | some q => exact .inr (fun e => hne q hq e.symm)
set_option maxHeartbeats 4000000 in
theorem prove_hash (B p pt : Nat) (s : Src) (lv v : Value) (asked : List (Int × Int)) (a b : Nat) (hab : a ≤ b) (hb62 : b ≤ 4611686018427387904) (w w0 : World) (hz : ∀ x ∈ s.leaves, x.size ≤ 1048576) (hl : s.leaves.length ≤ 1048576) (ha : asked.length ≤ 1048570000)
    (hM : SrcM B p s lv v asked w) (hg : GlobR w0) (hgp : GlobP w0) (ht : TabP w0) (hb : Below w0.heap.size w0 w) (hB : w0.heap.size ≤ B) (hpt : w.cell? ⟨pt, 0, none⟩ = some (.pointer (some ⟨p, 0, none⟩))) (hpp : pt ≠ p) (hpv : v.ownBlock ≠ some pt) :
    Calls Tryd.prog 40 #[readerV s pt, .agg #[.int .i64 a, .int .i64 b]] w fun e w' => ∃ v', e = .returned (saidV ((hashG s a b asked).1, (hashG s a b asked).2.1)) ∧ SrcM B p s lv v' (hashG s a b asked).2.2 w' ∧ SStep p v w v' w' ∧ v'.ownBlock ≠ some pt := by
  obtain ⟨W, hW⟩ : ∃ W, (w.alloc (.cells #[.int .i64 s.k, .int .i64 s.size, .func (.func 41) #[.pointer (some ⟨pt, 0, none⟩)] #[]] 45)).alloc (.cells #[.int .i64 a, .int .i64 b] 77) = W := ⟨_, rfl⟩
  have bW : Below w.heap.size w W := by rw [← hW]; exact ((Below.refl w.heap.size w).alloc (Nat.le_refl _) _).alloc (by simp) _
  have hsW : W.heap.size = w.heap.size + 2 := by rw [← hW]; simp
  have kW : RdK s pt p w.heap.size W := by rw [← hW]; exact (RdK.new s pt p w hpt).below ((Below.refl _ _).alloc (Nat.le_refl _) _)
  have pa : W.cell? ⟨w.heap.size + 1, 0, none⟩ = some (.int .i64 a) := by rw [← hW]; simp [go_sem]
  have pb : W.cell? ⟨w.heap.size + 1, 1, none⟩ = some (.int .i64 b) := by rw [← hW]; simp [go_sem]
  have hcov := tree_Cover_good a b hab hb62 W
  rw [hsW] at hcov
  have hcl := cover_len a b hb62
  have hS : ∀ r, rowC s (coverN a b) asked [] = r → hashG s a b asked = if r.2.1 ≠ 0 then (⟨#[]⟩, r.2.1, r.2.2) else (foldS s.k r.1, 0, r.2.2) := hashG_of s a b asked
  obtain ⟨L, hL⟩ : ∃ L, L = coverN a b := ⟨_, rfl⟩
  rw [← hL] at hcov hcl hS
  have hwd := (wid_le s.k).1
  have hwd0 := (wid_le s.k).2
  have hfo := foldS_wid s.k
  have hwx := fun W => prove_width s.k s.size (.func (.func 41) #[.pointer (some ⟨pt, 0, none⟩)] #[]) W
  obtain ⟨wd, hwde⟩ : ∃ n, n = wid s.k := ⟨_, rfl⟩
  have HWD := hid hwde
  rw [← hwde] at hwd hwd0 hfo hwx
  have HS := hid hS
  have HCV := hid hcov
  have HWX := hid hwx
  have HFO := hid hfo
  have K0 := hid kW
  have M0 := hid (hM.below bW)
  have S0 := hid (SStep.of (p := p) (v := v) bW)
  have HW := hid hW
  have HG := hid hg
  have HGP := hid hgp
  have HT := hid ht
  have HZ := hid hz
  have hwp : w.heap.size ≠ p := by have := hM.lt; omega
  have HV := hid (show ∀ q, v.ownBlock = some q → q < w.heap.size from fun q hq => (hM.vown.lt q hq).2)
  have HPV := hid hpv
  have HB0 := hid hb
  have HV0 := hid (show ∀ q, v.ownBlock = some q → w0.heap.size ≤ q from fun q hq => Nat.le_trans hB (hM.vown.lt q hq).1)
  have hwlt := hM.lt
  have HLV := hid (show ∀ q, lv.ownBlock = some q → q < w.heap.size from fun q hq => (hM.lown.lt q hq).2)
  have hptl := World.block_lt_of_cell? _ _ hpt
  simp only at hptl
  clear hW bW hg hgp ht hz hpt hM hb hpv hL hwde kW hcov hS hwx hfo
  go_enter Tryd.func40, Tryd.ntmps40
  go_upto_region 1 with fail
  rw [HW.out]
  go_wp2_with fail
  refine HCV.out.mono ?_
  rintro e w1 ⟨cv, rfl, hrow, d1⟩
  have hs1 := d1.size
  rw [hsW] at hs1
  have d1' : Below W.heap.size W w1 := by rw [hsW]; exact d1
  have K1 := hid (K0.out.below d1')
  have M1 := hid (M0.out.below d1')
  have S1 := hid (S0.out.trans (SStep.of d1'))
  have HROW := hid hrow
  obtain ⟨co, ccap, rfl⟩ := own_val hrow
  have HCO := hid (show ∀ q, (Value.slice co L.length ccap).ownBlock = some q → w.heap.size + 2 ≤ q from fun q hq => (HROW.out.lt q hq).1)
  clear d1 d1' hrow pa pb K0 M0 S0 HCV HW
  go_wp2_with fail
  go_loopw [8, 26] (fun v' i' wr => ∃ (acc : List ByteArray) (ask : List (Int × Int)) (u : Value), i' = .int .i64 acc.length ∧ acc.length ≤ L.length ∧ (∀ x ∈ acc, x.size = wd) ∧ wr.ownsRow (w.heap.size + 2) 9 1 v' acc.length (strs' acc) ∧ SrcM B p s lv u ask wr ∧ SStep p v w u wr ∧
      wr.ownsRow (w.heap.size + 2) 84 2 (.slice co L.length ccap) L.length (addrsV L) ∧ rowC s (L.drop acc.length) ask acc = rowC s L asked [] ∧ ask.length ≤ asked.length + acc.length ∧ w.heap.size + 2 ≤ wr.heap.size ∧ (∀ q, (Value.slice co L.length ccap).ownBlock = some q → u.ownBlock ≠ some q) ∧
      RdK s pt p w.heap.size wr ∧ u.ownBlock ≠ some w.heap.size ∧ u.ownBlock ≠ some pt) (fun _ i' _ => (L.length - intOf i').toNat)
  case atStart => exact ⟨[], asked, v, rfl, by simp, by simp, World.ownsRow_nil _ _ _ _, M1.out, S1.out, HROW.out, rfl, by simp, hs1, fun q hq e => by have := HCO.out q hq; have := HV.out q e; omega, K1.out, fun e => by have := HV.out _ e; omega, HPV.out⟩
  case round =>
    clear M1 S1 HROW K1
    obtain ⟨acc, ask, u, rfl, hle, hzz, hown, hM3, hS3, hrow3, hrw, hask, hsz3, hne, hK3, u1, u3⟩ := hrel
    have HZZ := hid hzz
    have HO := hid hown
    have M3 := hid hM3
    have S3 := hid hS3
    have K3 := hid hK3
    have HR3 := hid hrow3
    have HRW := hid hrw
    have HNE := hid hne
    have U1 := hid u1
    have U3 := hid u3
    have B3 := hid (Below.trans HB0.out (hS3.below (A := w0.heap.size) (Nat.le_trans hB hM3.le) HV0.out HB0.out.size))
    clear hzz hown hM3 hS3 hrow3 hrw hne hK3 u1 u3
    by_cases hlt : acc.length < L.length
    · obtain ⟨g, cap, hv, a0, a1⟩ := addrs_at HR3.out acc.length hlt
      injection hv with hv1 hv2 hv3
      subst hv1
      have hdr : L.drop acc.length = L[acc.length] :: L.drop (acc.length + 1) := List.drop_eq_getElem_cons hlt
      obtain ⟨ad, had⟩ : ∃ ad, ad = L[acc.length] := ⟨_, rfl⟩
      rw [← had] at a0 a1 hdr
      have HN : Hid (∀ W', Below wr.heap.size wr W' → Calls Tryd.prog 41 #[.pointer (some ⟨pt, 0, none⟩), .agg #[.int .i64 ad.1, .int .i64 ad.2]] W' fun e w' => ∃ u', e = .returned (saidV (nodeG s (ask.length + 1) ad.1 ad.2)) ∧ SrcM B p s lv u' (ask ++ [((ad.1 : Int), (ad.2 : Int))]) w' ∧ SStep p u wr u' w') := by
        intro W' hb
        refine (teller_Node B p pt s lv u ask ad.1 ad.2 W' w0 HZ.out hl (by omega) (M3.out.below hb) HG.out HT.out (B3.out.trans (hb.mono B3.out.size)) hB ((hb.cell (World.block_lt_of_cell? _ _ K3.out.tel)).trans K3.out.tel)).mono ?_
        rintro e w' ⟨u', h1, h2, h3⟩
        exact ⟨u', h1, h2, (SStep.of hb).trans h3⟩
      have hnz := nodeG_size s HZ.out (ask.length + 1) ad.1 ad.2
      obtain ⟨r, hr⟩ : ∃ r, r = nodeG s (ask.length + 1) ad.1 ad.2 := ⟨_, rfl⟩
      obtain ⟨x, y⟩ := r
      have hst := rowC_step s ad (L.drop (acc.length + 1)) ask acc x y hr
      rw [← hr] at HN hnz
      unfold saidV at HN
      simp only at HN hnz
      rw [← HWD.out, ← hdr] at hst
      have HST := hid (HRW.out.symm.trans hst)
      have hltI : (acc.length : Int) < (L.length : Int) := by omega
      have hba := (Below.refl wr.heap.size wr).alloc (Nat.le_refl _) (.cells #[.int .i64 ad.1, .int .i64 ad.2] 84)
      have HBA := hid hba
      have k2 := (hba.cell (World.block_lt_of_cell? _ _ K3.out.r2)).trans K3.out.r2
      clear hst hr HRW had hdr hv2 hv3 hba
      go_wp2_with fail
      refine (HN.out _ HBA.out).mono ?_
      rintro e w3 ⟨u', rfl, hM4, hS4⟩
      have M4 := hid hM4
      have S4 := hid (S3.out.trans hS4)
      have K4 := hid (K3.out.step hS4 hwp hpp U1.out U3.out)
      have HO4 := hid (hS4.own HO.out (fun q hq => ⟨fun e => by have := (HO.out.lt q hq).1; have := hwlt; omega, fun e => own_off HO.out M3.out.vown (by decide) hq e⟩))
      have HR4 := hid (hS4.own HR3.out (fun q hq => ⟨fun e => by have := (HR3.out.lt q hq).1; have := hwlt; omega, HNE.out q hq⟩))
      have n4 := hid (fun q (hq : (Value.slice (some ⟨g, 0, none⟩) L.length ccap).ownBlock = some q) => hS4.far (b := q) (HR3.out.lt q hq).2 (HNE.out q hq))
      have n1 := hid (hS4.far (b := w.heap.size) (by omega) U1.out)
      have n3 := hid (hS4.far (b := pt) (World.block_lt_of_cell? _ _ K3.out.tel) U3.out)
      have hs4 := Nat.le_trans hsz3 hS4.size
      have k0 := K4.out.r0
      have k1 := K4.out.r1
      have k2' := K4.out.r2
      clear hM4 hS4 HN HO M3 S3 K3 HR3 HNE B3 U1 U3 a0 a1 k2 HBA
      by_cases hy : y = 0
      · subst hy
        have HW4 := hid (HWX.out w3)
        by_cases hxw : x.size = wd
        · have HST2 : Hid (rowC s L asked [] = rowC s (L.drop (acc.length + 1)) (ask ++ [((ad.1 : Int), (ad.2 : Int))]) (acc ++ [x])) := by unfold Hid; rw [HST.out, if_neg (by simp), if_neg (by simpa using hxw)]
          have hx1 : ((x.size : Int) != (wd : Int)) = false := by simp [hxw]
          have hx0 : ((x.size : Int) == (wd : Int)) = true := by simp [hxw]
          have hzx := hxw
          clear hxw HST
          go_wp2_with fail
          refine HW4.out.mono ?_
          rintro e w4 ⟨rfl, d4⟩
          have M5 := hid (M4.out.below d4)
          have S5 := hid (S4.out.trans (SStep.of d4))
          have K5 := hid (K4.out.below d4)
          have hg4 : w3.grownBy w4 none := ⟨d4.os, d4.tape, d4.output, d4.size, fun b hlt _ => d4.block b hlt⟩
          have HO5 := hid (kept_row HO4.out hg4 (fun q _ e => by cases e))
          have HR5 := hid (kept_row HR4.out hg4 (fun q _ e => by cases e))
          have hs4' := Nat.le_trans hs4 d4.size
          clear d4 hg4 M4 S4 K4 HO4 HR4 k0 k1 k2' HW4
          go_wp2_with (at_builtin; refine wp_append1g (w.heap.size + 2) rfl (.tmp 45) (.tmp 47) 36 9 (.string ⟨#[]⟩) 16 rfl Tryd.underlying36 info_str rfl (by decide) _ (strs' acc) (.string x) rfl rfl rfl (by rw [strs'_length]; exact HO5.out) (by omega) (by rw [strs'_length]; omega) ?_; intro v1 w5 hown5 hg5; have HO6 := hid hown5; have HG5 := hid hg5; clear hown5 hg5)
          go_roundw
          case rel =>
            have hs5 := HG5.out.size
            have hrb := fun q hq => (HO5.out.lt q hq).1
            refine ⟨acc ++ [x], _, u', by simp, by simp; omega, fun z hz => (List.mem_append.1 hz).elim (HZZ.out z) (fun hz => by rw [List.mem_singleton.1 hz]; exact hzx), ?_, M5.out.grown HG5.out (fun e => by have := hrb _ e; omega) (fun q hq e => by have := hrb q e; have := HLV.out q hq; omega) (fun q hq e => own_off HO5.out M5.out.vown (by decide) e hq), S5.out.grow HG5.out (fun q hq => by have := hrb q hq; omega),
              kept_row HR5.out HG5.out (fun q hq e => own_off HO5.out HR5.out (by decide) e hq), ?_, by simp; omega, by omega, n4.out, K5.out.grown HG5.out (fun q hq => by have := hrb q hq; omega) hptl, n1.out, n3.out⟩
            · have := HO6.out
              rw [show strs' acc ++ [Value.string x] = strs' (acc ++ [x]) by simp [strs'], strs'_length] at this
              exact this
            · rw [HST2.out, show (acc ++ [x]).length = acc.length + 1 by simp]
          case measure => simp [intOf]; omega
        · have HR2 : Hid (hashG s a b asked = (⟨#[]⟩, 72, ask ++ [((ad.1 : Int), (ad.2 : Int))])) := by unfold Hid; rw [HS.out _ (HST.out.trans (by rw [if_neg (by simp), if_pos hxw]))]; simp
          have hx1 : ((x.size : Int) != (wd : Int)) = true := bne_iff_ne.2 (by omega)
          have hx0 : ((x.size : Int) == (wd : Int)) = false := beq_eq_false_iff_ne.2 (by omega)
          clear HST
          go_wp2_with fail
          refine HW4.out.mono ?_
          rintro e w4 ⟨rfl, d4⟩
          have M5 := hid (M4.out.below d4)
          have S5 := hid (S4.out.trans (SStep.of d4))
          clear d4
          go_wp2_with fail
          go_ret2
          exact ⟨u', by rw [HR2.out]; rfl, by rw [HR2.out]; exact M5.out, S5.out, n3.out⟩
      · have HR2 : Hid (hashG s a b asked = (⟨#[]⟩, y, ask ++ [((ad.1 : Int), (ad.2 : Int))])) := by unfold Hid; rw [HS.out _ (HST.out.trans (by rw [if_pos hy]))]; simp [hy]
        have hy1 : (y == 0) = false := beq_eq_false_iff_ne.2 hy
        have hy2 : (y != 0) = true := bne_iff_ne.2 hy
        clear HST
        go_wp2_with fail
        go_ret2
        exact ⟨u', by rw [HR2.out]; rfl, by rw [HR2.out]; exact M4.out, S4.out, n3.out⟩
    · have hll : acc.length = L.length := by omega
      have HR2 : Hid (hashG s a b asked = (foldS (wd : Int) acc, 0, ask)) := by
        unfold Hid
        rw [HFO.out, HS.out (acc, 0, ask) (HRW.out.symm.trans (by rw [hll, List.drop_length]; rfl))]
        simp
      have hltI : ¬ (acc.length : Int) < (L.length : Int) := by omega
      have HW4 := hid (HWX.out wr)
      have k0 := K3.out.r0
      have k1 := K3.out.r1
      have k2' := K3.out.r2
      clear HRW
      go_wp2_with fail
      refine HW4.out.mono ?_
      rintro e w4 ⟨rfl, d4⟩
      have hg4 : wr.grownBy w4 none := ⟨d4.os, d4.tape, d4.output, d4.size, fun b hlt _ => d4.block b hlt⟩
      have hff := hid (tree_Fold (wd : Int) (w.heap.size + 2) _ acc w4 (kept_row HO.out hg4 (fun q _ e => by cases e)) (fun x hx => by rw [HZZ.out x hx]; omega) (by omega) (HGP.out.below (Below.then' B3.out d4)))
      have M4 := hid (M3.out.below d4)
      have S4 := hid (S3.out.trans (SStep.of d4))
      clear d4 hg4 k0 k1 k2' HW4
      go_wp2_with fail
      refine hff.out.mono ?_
      rintro e w6 ⟨rfl, d6⟩
      have M6 := hid (M4.out.below d6)
      have S6 := hid (S4.out.trans (SStep.of d6))
      clear d6
      go_wp2_with fail
      go_ret2
      exact ⟨u, by rw [HR2.out]; rfl, by rw [HR2.out]; exact M6.out, S6.out, U3.out⟩
end Go.Proofs.YtaaldkkfedinpaaDoor
