/- Walk of (*annalsref8.Source).hash. -/
import Derived.Test.YtaaldkkfedinpaaDoorHashP
import Derived.Test.YtaaldkkfedinpaaDoorFoldR
set_option maxRecDepth 100000
namespace Go.Proofs.YtaaldkkfedinpaaDoor
open Go Go.RowKit

theorem ref2_Wid (x : Int) (w : World) : Calls Tryd.prog 94 #[.int .i64 x] w fun e w' => e = .returned (.int .i64 (wid x)) ∧ w = w' := by
  by_cases h1 : x < 1
  · have H : Hid (wid x = 32) := by unfold Hid wid; rw [if_pos (by omega)]
    go_enter Tryd.func94, Tryd.ntmps94
    go_wp2_with fail
    go_ret
    exact ⟨by rw [H.out]; rfl, rfl⟩
  · by_cases h2 : 32 < x
    · have H : Hid (wid x = 32) := by unfold Hid wid; rw [if_pos (by omega)]
      go_enter Tryd.func94, Tryd.ntmps94
      go_wp2_with fail
      go_ret
      exact ⟨by rw [H.out]; rfl, rfl⟩
    · have H : Hid ((wid x : Int) = x) := by unfold Hid wid; rw [if_neg (by omega)]; omega
      go_enter Tryd.func94, Tryd.ntmps94
      go_wp2_with fail
      go_ret
      exact ⟨by rw [H.out]; rfl, rfl⟩
theorem src_w (p : Nat) (k : Int) (w : World) (c0 : w.cell? ⟨p, 0, none⟩ = some (.int .i64 k)) : Calls Tryd.prog 74 #[.pointer (some ⟨p, 0, none⟩)] w fun e w' => e = .returned (.int .i64 (wid k)) ∧ w = w' := by
  have H := hid (ref2_Wid k)
  go_enter Tryd.func74, Tryd.ntmps74
  go_wp2_with fail
  refine (H.out _).mono ?_
  rintro e w1 ⟨rfl, rfl⟩
  go_wp2_with fail
  go_ret
  exact ⟨rfl, rfl⟩
set_option maxHeartbeats 4000000 in
theorem src_hash (B p : Nat) (s : Src) (lv v : Value) (asked : List (Int × Int)) (a b : Nat) (hab : a ≤ b) (hb62 : b ≤ 4611686018427387904) (w w0 : World) (hz : ∀ x ∈ s.leaves, x.size ≤ 1048576) (hl : s.leaves.length ≤ 1048576) (ha : asked.length ≤ 1048570000)
    (hM : SrcM B p s lv v asked w) (hg : GlobR w0) (ht : TabP w0) (hb : Below w0.heap.size w0 w) (hB : w0.heap.size ≤ B) :
    Calls Tryd.prog 43 #[.pointer (some ⟨p, 0, none⟩), .int .i64 a, .int .i64 b] w fun e w' => ∃ v', e = .returned (saidV ((hashG s a b asked).1, (hashG s a b asked).2.1)) ∧ SrcM B p s lv v' (hashG s a b asked).2.2 w' ∧ SStep p v w v' w' := by
  have hcov := ref5_Cover_good a b hab hb62 w
  have hcl := cover_len a b hb62
  have hS : ∀ r, rowC s (coverN a b) asked [] = r → hashG s a b asked = if r.2.1 ≠ 0 then (⟨#[]⟩, r.2.1, r.2.2) else (foldS s.k r.1, 0, r.2.2) := hashG_of s a b asked
  obtain ⟨L, hL⟩ : ∃ L, L = coverN a b := ⟨_, rfl⟩
  rw [← hL] at hcov hcl hS
  have hwd := (wid_le s.k).1
  have hwd0 := (wid_le s.k).2
  have hwx := fun (W : World) (c0 : W.cell? ⟨p, 0, none⟩ = some (.int .i64 s.k)) => src_w p s.k W c0
  obtain ⟨wd, hwde⟩ : ∃ n, n = wid s.k := ⟨_, rfl⟩
  have HWD := hid hwde
  rw [← hwde] at hwd hwd0 hwx
  have HS := hid hS
  have HCV := hid hcov
  have HWX := hid hwx
  have M0 := hid hM
  have HG := hid hg
  have HT := hid ht
  have HZ := hid hz
  have HV := hid (show ∀ q, v.ownBlock = some q → q < w.heap.size from fun q hq => (hM.vown.lt q hq).2)
  have HB0 := hid hb
  have HV0 := hid (show ∀ q, v.ownBlock = some q → w0.heap.size ≤ q from fun q hq => Nat.le_trans hB (hM.vown.lt q hq).1)
  have hwlt := hM.lt
  have HLV := hid (show ∀ q, lv.ownBlock = some q → q < w.heap.size from fun q hq => (hM.lown.lt q hq).2)
  clear hg ht hz hM hb hL hwde hcov hS hwx
  go_enter Tryd.func43, Tryd.ntmps43
  go_wp2_with fail
  refine HCV.out.mono ?_
  rintro e w1 ⟨cv, rfl, hrow, d1⟩
  have hs1 := d1.size
  have M1 := hid (M0.out.below d1)
  have S1 := hid (SStep.of (p := p) (v := v) d1)
  have HROW := hid hrow
  have HCO := hid (show ∀ q, cv.ownBlock = some q → w.heap.size ≤ q from fun q hq => (hrow.lt q hq).1)
  obtain ⟨co, ccap, hcv⟩ := own_val hrow
  clear d1 hrow M0 HCV
  subst hcv
  go_wp2_with fail
  go_loopw [10, 11] (fun v' i' wr => ∃ (acc : List ByteArray) (ask : List (Int × Int)) (u : Value), i' = .int .i64 acc.length ∧ acc.length ≤ L.length ∧ (∀ x ∈ acc, x.size = wd) ∧ wr.ownsRow w.heap.size 9 1 v' acc.length (strs' acc) ∧ SrcM B p s lv u ask wr ∧ SStep p v w u wr ∧
      wr.ownsRow w.heap.size 84 2 (.slice co L.length ccap) L.length (addrsV L) ∧ rowC s (L.drop acc.length) ask acc = rowC s L asked [] ∧ ask.length ≤ asked.length + acc.length ∧ w.heap.size ≤ wr.heap.size ∧ (∀ q, (Value.slice co L.length ccap).ownBlock = some q → u.ownBlock ≠ some q)) (fun _ i' _ => (L.length - intOf i').toNat)
  case atStart => exact ⟨[], asked, v, rfl, by simp, by simp, World.ownsRow_nil _ _ _ _, M1.out, S1.out, HROW.out, rfl, by simp, hs1, fun q hq e => by have := HCO.out q hq; have := HV.out q e; omega⟩
  case round =>
    clear M1 S1 HROW
    obtain ⟨acc, ask, u, rfl, hle, hzz, hown, hM3, hS3, hrow3, hrw, hask, hsz3, hne⟩ := hrel
    have HZZ := hid hzz
    have HO := hid hown
    have M3 := hid hM3
    have S3 := hid hS3
    have HR3 := hid hrow3
    have HRW := hid hrw
    have HNE := hid hne
    have B3 := hid (Below.trans HB0.out (hS3.below (A := w0.heap.size) (Nat.le_trans hB hM3.le) HV0.out HB0.out.size))
    clear hzz hown hM3 hS3 hrow3 hrw hne
    by_cases hlt : acc.length < L.length
    · obtain ⟨g, cap, hv, a0, a1⟩ := addrs_at HR3.out acc.length hlt
      injection hv with hv1 hv2 hv3
      subst hv1
      have hdr : L.drop acc.length = L[acc.length] :: L.drop (acc.length + 1) := List.drop_eq_getElem_cons hlt
      obtain ⟨ad, had⟩ : ∃ ad, ad = L[acc.length] := ⟨_, rfl⟩
      rw [← had] at a0 a1 hdr
      have HN : Hid (Calls Tryd.prog 72 #[.pointer (some ⟨p, 0, none⟩), .agg #[.int .i64 ad.1, .int .i64 ad.2]] wr fun e w' => ∃ u', e = .returned (saidV (nodeG s (ask.length + 1) ad.1 ad.2)) ∧ SrcM B p s lv u' (ask ++ [((ad.1 : Int), (ad.2 : Int))]) w' ∧ SStep p u wr u' w') :=
        src_Node B p s lv u ask ad.1 ad.2 wr w0 HZ.out hl (by omega) M3.out HG.out HT.out B3.out hB
      have hnz := nodeG_size s HZ.out (ask.length + 1) ad.1 ad.2
      obtain ⟨r, hr⟩ : ∃ r, r = nodeG s (ask.length + 1) ad.1 ad.2 := ⟨_, rfl⟩
      obtain ⟨x, y⟩ := r
      have hst := rowC_step s ad (L.drop (acc.length + 1)) ask acc x y hr
      rw [← hr] at HN hnz
      unfold saidV at HN
      simp only at HN hnz
      rw [← HWD.out, ← hdr] at hst
      have HST := hid (HRW.out.symm.trans hst)
      have hltI : (acc.length : Int) < (L.length : Int) := by omega
      clear hst hr HRW had hdr hv2 hv3
      go_wp2_with fail
      refine HN.out.mono ?_
      rintro e w3 ⟨u', rfl, hM4, hS4⟩
      have M4 := hid hM4
      have S4 := hid (S3.out.trans hS4)
      have HO4 := hid (hS4.own HO.out (fun q hq => ⟨fun e => by have := (HO.out.lt q hq).1; have := hwlt; omega, fun e => own_off HO.out M3.out.vown (by decide) hq e⟩))
      have HR4 := hid (hS4.own HR3.out (fun q hq => ⟨fun e => by have := (HR3.out.lt q hq).1; have := hwlt; omega, HNE.out q hq⟩))
      have n4 := hid (fun q (hq : (Value.slice (some ⟨g, 0, none⟩) L.length ccap).ownBlock = some q) => hS4.far (b := q) (HR3.out.lt q hq).2 (HNE.out q hq))
      have hs4 := Nat.le_trans hsz3 hS4.size
      have k0 := M4.out.c0
      clear hM4 hS4 HN HO M3 S3 HR3 HNE B3 a0 a1
      by_cases hy : y = 0
      · subst hy
        have HW4 := hid (HWX.out w3 k0)
        by_cases hxw : x.size = wd
        · have HST2 : Hid (rowC s L asked [] = rowC s (L.drop (acc.length + 1)) (ask ++ [((ad.1 : Int), (ad.2 : Int))]) (acc ++ [x])) := by unfold Hid; rw [HST.out, if_neg (by simp), if_neg (by simpa using hxw)]
          have hx1 : ((x.size : Int) != (wd : Int)) = false := by simp [hxw]
          have hx0 : ((x.size : Int) == (wd : Int)) = true := by simp [hxw]
          have hzx := hxw
          clear hxw HST
          go_wp2_with fail
          refine HW4.out.mono ?_
          rintro e w4 ⟨rfl, rfl⟩
          go_wp2_with (at_builtin; refine wp_append1g w.heap.size rfl (.tmp 43) (.tmp 45) 36 9 (.string ⟨#[]⟩) 16 rfl Tryd.underlying36 info_str rfl (by decide) _ (strs' acc) (.string x) rfl rfl rfl (by rw [strs'_length]; exact HO4.out) (by omega) (by rw [strs'_length]; omega) ?_; intro v1 w5 hown5 hg5; have HO5 := hid hown5; have HG5 := hid hg5; clear hown5 hg5)
          go_roundw
          case rel =>
            have hs5 := HG5.out.size
            have hrb := fun q hq => (HO4.out.lt q hq).1
            refine ⟨acc ++ [x], _, u', by simp, by simp; omega, fun z hz => (List.mem_append.1 hz).elim (HZZ.out z) (fun hz => by rw [List.mem_singleton.1 hz]; exact hzx), ?_, M4.out.grown HG5.out (fun e => by have := hrb _ e; omega) (fun q hq e => by have := hrb q e; have := HLV.out q hq; omega) (fun q hq e => own_off HO4.out M4.out.vown (by decide) e hq), S4.out.grow HG5.out (fun q hq => by have := hrb q hq; omega),
              kept_row HR4.out HG5.out (fun q hq e => own_off HO4.out HR4.out (by decide) e hq), ?_, by simp; omega, by omega, n4.out⟩
            · have := HO5.out
              rw [show strs' acc ++ [Value.string x] = strs' (acc ++ [x]) by simp [strs'], strs'_length] at this
              exact this
            · rw [HST2.out, show (acc ++ [x]).length = acc.length + 1 by simp]
          case measure => simp [intOf]; omega
        · have HR2 : Hid (hashG s a b asked = (⟨#[]⟩, 72, ask ++ [((ad.1 : Int), (ad.2 : Int))])) := by unfold Hid; rw [HS.out _ (HST.out.trans (by rw [if_neg (by simp), if_pos hxw]))]; simp
          have hx1 : ((x.size : Int) != (wd : Int)) = true := bne_iff_ne.2 (by omega)
          have hx0 : ((x.size : Int) == (wd : Int)) = false := beq_eq_false_iff_ne.2 (by omega)
          clear HST
          go_wp2_with fail
          refine HW4.out.mono ?_
          rintro e w4 ⟨rfl, rfl⟩
          go_wp2_with fail
          go_ret2
          exact ⟨u', by rw [HR2.out]; rfl, by rw [HR2.out]; exact M4.out, S4.out⟩
      · have HR2 : Hid (hashG s a b asked = (⟨#[]⟩, y, ask ++ [((ad.1 : Int), (ad.2 : Int))])) := by unfold Hid; rw [HS.out _ (HST.out.trans (by rw [if_pos hy]))]; simp [hy]
        have hy1 : (y == 0) = false := beq_eq_false_iff_ne.2 hy
        have hy2 : (y != 0) = true := bne_iff_ne.2 hy
        clear HST
        go_wp2_with fail
        go_ret2
        exact ⟨u', by rw [HR2.out]; rfl, by rw [HR2.out]; exact M4.out, S4.out⟩
    · have hll : acc.length = L.length := by omega
      have HR2 : Hid (hashG s a b asked = (foldS s.k acc, 0, ask)) := by
        unfold Hid
        rw [HS.out (acc, 0, ask) (HRW.out.symm.trans (by rw [hll, List.drop_length]; rfl))]
        simp
      have hff := hid (ref5_Fold s.k w.heap.size _ acc wr HO.out (fun x hx => by rw [HZZ.out x hx]; omega) (by omega) (HG.out.below B3.out))
      have hltI : ¬ (acc.length : Int) < (L.length : Int) := by omega
      have k0 := M3.out.c0
      clear HRW
      go_wp2_with fail
      refine hff.out.mono ?_
      rintro e w6 ⟨rfl, d6⟩
      have M6 := hid (M3.out.below d6)
      have S6 := hid (S3.out.trans (SStep.of d6))
      clear d6
      go_wp2_with fail
      go_ret2
      exact ⟨u, by rw [HR2.out]; rfl, by rw [HR2.out]; exact M6.out, S6.out⟩
end Go.Proofs.YtaaldkkfedinpaaDoor
