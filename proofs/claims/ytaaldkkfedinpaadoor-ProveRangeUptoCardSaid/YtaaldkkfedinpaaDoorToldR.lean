/- The roots of parts, one after the other: the reference's. -/
import Derived.Test.YtaaldkkfedinpaaDoorTold
set_option maxRecDepth 100000
namespace Go.Proofs.YtaaldkkfedinpaaDoor
open Go Go.RowKit

set_option maxHeartbeats 4000000 in
theorem src_told (B p : Nat) (s : Src) (lv v : Value) (asked : List (Int × Int)) (L : List (Nat × Nat)) (hL : ∀ q ∈ L, q.1 ≤ q.2 ∧ q.2 ≤ 4611686018427387904) (Bp : Nat) (pv : Value) (w w0 : World) (hz : ∀ x ∈ s.leaves, x.size ≤ 1048576) (hl : s.leaves.length ≤ 1048576) (ha : asked.length + 126 * L.length ≤ 1048570000)
    (hM : SrcM B p s lv v asked w) (hg : GlobR w0) (ht : TabP w0) (hb : Below w0.heap.size w0 w) (hB : w0.heap.size ≤ B)
    (hrow : w.ownsRow Bp 92 2 pv L.length (partsV L)) (hpq : ∀ q, pv.ownBlock = some q → q ≠ p) :
    Calls Tryd.prog 48 #[.pointer (some ⟨p, 0, none⟩), pv] w fun e w' => ∃ v' lr, e = .returned (.tuple #[lr, .int .i64 (toldG s L asked []).2.1]) ∧ w'.ownsRow w.heap.size 9 1 lr (toldG s L asked []).1.length (strs' (toldG s L asked []).1) ∧ SrcM B p s lv v' (toldG s L asked []).2.2 w' ∧ SStep p v w v' w' := by
  have HROW := hid hrow
  have M0 := hid hM
  have HL := hid hL
  have HG := hid hg
  have HT := hid ht
  have HZ := hid hz
  have HPQ := hid hpq
  have HV := hid (show ∀ q, v.ownBlock = some q → q < w.heap.size from fun q hq => (hM.vown.lt q hq).2)
  have HB0 := hid hb
  have HV0 := hid (show ∀ q, v.ownBlock = some q → w0.heap.size ≤ q from fun q hq => Nat.le_trans hB (hM.vown.lt q hq).1)
  have hwlt := hM.lt
  have HLV := hid (show ∀ q, lv.ownBlock = some q → q < w.heap.size from fun q hq => (hM.lown.lt q hq).2)
  have HQV := hid (show ∀ q, pv.ownBlock = some q → q < w.heap.size from fun q hq => (hrow.lt q hq).2)
  obtain ⟨po, pcap, hpve⟩ := own_val hrow
  clear hg ht hz hM hb hrow hpq hL
  subst hpve
  go_enter Tryd.func48, Tryd.ntmps48
  go_wp2_with fail
  go_loopw [6, 7] (fun v' i' wr => ∃ (acc : List ByteArray) (ask : List (Int × Int)) (u : Value), i' = .int .i64 acc.length ∧ acc.length ≤ L.length ∧ wr.ownsRow w.heap.size 9 1 v' acc.length (strs' acc) ∧ SrcM B p s lv u ask wr ∧ SStep p v w u wr ∧
      wr.ownsRow Bp 92 2 (.slice po L.length pcap) L.length (partsV L) ∧ toldG s (L.drop acc.length) ask acc = toldG s L asked [] ∧ ask.length ≤ asked.length + 126 * acc.length ∧ w.heap.size ≤ wr.heap.size) (fun _ i' _ => (L.length - intOf i').toNat)
  case atStart => exact ⟨[], asked, v, rfl, by simp, World.ownsRow_nil _ _ _ _, M0.out, SStep.refl _ _ _, HROW.out, rfl, by simp, Nat.le_refl _⟩
  case round =>
    clear M0 HROW
    obtain ⟨acc, ask, u, rfl, hle, hown, hM3, hS3, hrow3, hrw, hask, hsz3⟩ := hrel
    have HO := hid hown
    have M3 := hid hM3
    have S3 := hid hS3
    have HR3 := hid hrow3
    have HRW := hid hrw
    have B3 := hid (Below.trans HB0.out (hS3.below (A := w0.heap.size) (Nat.le_trans hB hM3.le) HV0.out HB0.out.size))
    clear hown hM3 hS3 hrow3 hrw
    by_cases hlt : acc.length < L.length
    · obtain ⟨g, cap, hv, a0, a1⟩ := parts_at HR3.out acc.length hlt
      injection hv with hv1 hv2 hv3
      subst hv1
      have hdr : L.drop acc.length = L[acc.length] :: L.drop (acc.length + 1) := List.drop_eq_getElem_cons hlt
      have hle2 := HL.out L[acc.length] (List.getElem_mem hlt)
      obtain ⟨ad, had⟩ : ∃ ad, ad = L[acc.length] := ⟨_, rfl⟩
      rw [← had] at a0 a1 hdr hle2
      have HN := src_hash B p s lv u ask ad.1 ad.2 hle2.1 hle2.2 wr w0 HZ.out hl (by omega) M3.out HG.out HT.out B3.out hB
      have hnz := hashG_size s ad.1 ad.2 ask
      have hnl := hashG_len s ad.1 ad.2 hle2.2 ask
      obtain ⟨r, hr⟩ : ∃ r, r = hashG s ad.1 ad.2 ask := ⟨_, rfl⟩
      obtain ⟨x, y, ask2⟩ := r
      have hst := toldG_step s ad (L.drop (acc.length + 1)) ask acc x y ask2 hr
      rw [← hr] at HN hnz hnl
      unfold saidV at HN
      simp only at HN hnz hnl
      rw [← hdr] at hst
      have HST := hid (HRW.out.symm.trans hst)
      have hltI : (acc.length : Int) < (L.length : Int) := by omega
      have HNN : Hid (∀ W', Below wr.heap.size wr W' → Calls Tryd.prog 43 #[.pointer (some ⟨p, 0, none⟩), .int .i64 ad.1, .int .i64 ad.2] W' fun e w' => ∃ v', e = .returned (.tuple #[.string x, .int .i64 y]) ∧ SrcM B p s lv v' ask2 w' ∧ SStep p u wr v' w') := by
        intro W' hb
        have := src_hash B p s lv u ask ad.1 ad.2 hle2.1 hle2.2 W' w0 HZ.out hl (by omega) (M3.out.below hb) HG.out HT.out (B3.out.trans (hb.mono B3.out.size)) hB
        rw [← hr] at this
        refine this.mono ?_
        rintro e w' ⟨u', h1, h2, h3⟩
        exact ⟨u', h1, h2, (SStep.of hb).trans h3⟩
      clear hst hr HRW had hdr hv2 hv3 HN hle2
      go_upto_region 5 with fail
      go_cut [8, 9] (fun x' y' wc => x' = .string x ∧ y' = .int .i64 y ∧ ∃ u', SrcM B p s lv u' ask2 wc ∧ SStep p u wr u' wc)
      case first =>
        have HBd := hid ((Below.refl wr.heap.size wr).drew)
        go_region_held3 (fun W => W.cell? ⟨g, acc.length * 2, none⟩ = some (.int .i64 ad.1) ∧ W.cell? ⟨g, acc.length * 2 + 1, none⟩ = some (.int .i64 ad.2)) (go_keep) (first
          | (go_at_call 43; (with_reducible refine Calls.mono (HNN.out _ ?hb) ?_); (case hb => exact Hid.out (show Hid (Below wr.heap.size wr _) by assumption)); rintro e w3 ⟨u', rfl, hM, hS⟩; have HM := hid hM; have HSS := hid hS; have b0 := hS.cell a0 (HPQ.out g rfl) (own_off HR3.out M3.out.vown (by decide) rfl); have b1 := hS.cell a1 (HPQ.out g rfl) (own_off HR3.out M3.out.vown (by decide) rfl); clear hM hS))
        all_goals
          go_wp2_with fail
          go_meet
          case rel => exact ⟨rfl, rfl, u', HM.out, HSS.out⟩
      case rest =>
      obtain ⟨rfl, rfl, u', hM4, hS4⟩ := hcut
      have M4 := hid hM4
      have S4 := hid (S3.out.trans hS4)
      have HO4 := hid (hS4.own HO.out (fun q hq => ⟨fun e => by have := (HO.out.lt q hq).1; have := hwlt; omega, fun e => own_off HO.out M3.out.vown (by decide) hq e⟩))
      have HR4 := hid (hS4.own HR3.out (fun q hq => ⟨HPQ.out q hq, fun e => own_off HR3.out M3.out.vown (by decide) hq e⟩))
      have hs4 := Nat.le_trans hsz3 hS4.size
      clear hM4 hS4 HNN HO M3 S3 HR3 B3 a0 a1
      by_cases hy : y = 0
      · subst hy
        have HST2 : Hid (toldG s L asked [] = toldG s (L.drop (acc.length + 1)) ask2 (acc ++ [x])) := by unfold Hid; rw [HST.out, if_neg (by simp)]
        clear HST
        go_wp2_with (at_builtin; refine wp_append1g w.heap.size rfl (.tmp 34) (.tmp 36) 36 9 (.string ⟨#[]⟩) 16 rfl Tryd.underlying36 info_str rfl (by decide) _ (strs' acc) (.string x) rfl rfl rfl (by rw [strs'_length]; exact HO4.out) (by omega) (by rw [strs'_length]; omega) ?_; intro v1 w5 hown5 hg5; have HO6 := hid hown5; have HG5 := hid hg5; clear hown5 hg5)
        go_roundw
        case rel =>
          have hs5 := HG5.out.size
          have hrb := fun q hq => (HO4.out.lt q hq).1
          refine ⟨acc ++ [x], ask2, u', by simp, by simp; omega, ?_, M4.out.grown HG5.out (fun e => by have := hrb _ e; omega) (fun q hq e => by have := hrb q e; have := HLV.out q hq; omega) (fun q hq e => own_off HO4.out M4.out.vown (by decide) e hq), S4.out.grow HG5.out (fun q hq => by have := hrb q hq; omega),
            kept_row HR4.out HG5.out (fun q hq e => own_off HO4.out HR4.out (by decide) e hq), ?_, by simp; omega, by omega⟩
          · have := HO6.out
            rw [show strs' acc ++ [Value.string x] = strs' (acc ++ [x]) by simp [strs'], strs'_length] at this
            exact this
          · rw [HST2.out, show (acc ++ [x]).length = acc.length + 1 by simp]
        case measure => simp [intOf]; omega
      · have HR2 : Hid (toldG s L asked [] = ([], y, ask2)) := by unfold Hid; rw [HST.out, if_pos hy]
        have hy1 : (y == 0) = false := beq_eq_false_iff_ne.2 hy
        have hy2 : (y != 0) = true := bne_iff_ne.2 hy
        clear HST
        go_wp2_with fail
        go_ret2
        exact ⟨u', _, by rw [HR2.out]; rfl, by rw [HR2.out]; exact World.ownsRow_nil _ _ _ _, by rw [HR2.out]; exact M4.out, S4.out⟩
    · have hll : acc.length = L.length := by omega
      have HR2 : Hid (toldG s L asked [] = (acc, 0, ask)) := by
        unfold Hid
        rw [← HRW.out, hll, List.drop_length]
        rfl
      have hltI : ¬ (acc.length : Int) < (L.length : Int) := by omega
      clear HRW
      go_wp2_with fail
      go_ret2
      exact ⟨u, _, by rw [HR2.out]; rfl, by rw [HR2.out]; exact HO.out, by rw [HR2.out]; exact M3.out, S3.out⟩
end Go.Proofs.YtaaldkkfedinpaaDoor
