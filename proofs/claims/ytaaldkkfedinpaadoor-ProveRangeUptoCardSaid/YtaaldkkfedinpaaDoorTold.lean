/- The roots of parts, one after the other, on both sides. -/
import Derived.Test.YtaaldkkfedinpaaDoorParts
set_option maxRecDepth 100000
namespace Go.Proofs.YtaaldkkfedinpaaDoor
open Go Go.RowKit

theorem hashG_size (s : Src) (a b : Nat) (asked : List (Int × Int)) : (hashG s a b asked).1.size ≤ 1048576 := by
  have hg : ∀ (l : List (Nat × Nat)) ask (acc : List ByteArray), (∀ x ∈ acc, x.size ≤ 1048576) → ∀ x ∈ (rowC s l ask acc).1, x.size ≤ 1048576 := by
    intro l
    induction l with
    | nil => intro ask acc h; exact h
    | cons a r ih =>
      intro ask acc h
      obtain ⟨q, hq⟩ : ∃ q, q = nodeG s (ask.length + 1) a.1 a.2 := ⟨_, rfl⟩
      obtain ⟨x, y⟩ := q
      rw [rowC_step s a r ask acc x y hq]
      split
      · intro x hx; simp at hx
      · split
        · intro x hx; simp at hx
        · rename_i _ hx
          refine ih _ _ (fun z hz => ?_)
          rcases List.mem_append.1 hz with hz | hz
          · exact h z hz
          · rw [List.mem_singleton.1 hz]
            have := (wid_le s.k).1
            simp only [ne_eq, Decidable.not_not] at hx
            omega
  unfold hashG
  split
  · show (⟨#[]⟩ : ByteArray).size ≤ _; decide
  · exact foldS_size _ _ (hg _ _ _ (fun x hx => by cases hx))
set_option maxHeartbeats 4000000 in
theorem prove_hashes (B p pt : Nat) (s : Src) (lv v : Value) (asked : List (Int × Int)) (L : List (Nat × Nat)) (hL : ∀ q ∈ L, q.1 ≤ q.2 ∧ q.2 ≤ 4611686018427387904) (Bp : Nat) (pv : Value) (w w0 : World) (hz : ∀ x ∈ s.leaves, x.size ≤ 1048576) (hl : s.leaves.length ≤ 1048576) (ha : asked.length + 126 * L.length ≤ 1048570000)
    (hM : SrcM B p s lv v asked w) (hg : GlobR w0) (hgp : GlobP w0) (ht : TabP w0) (hb : Below w0.heap.size w0 w) (hB : w0.heap.size ≤ B) (hpt : w.cell? ⟨pt, 0, none⟩ = some (.pointer (some ⟨p, 0, none⟩))) (hpp : pt ≠ p) (hpv : v.ownBlock ≠ some pt)
    (hrow : w.ownsRow Bp 77 2 pv L.length (partsV L)) (hpq : ∀ q, pv.ownBlock = some q → q ≠ p) :
    Calls Tryd.prog 46 #[readerV s pt, pv] w fun e w' => ∃ v' lr, e = .returned (.tuple #[lr, .int .i64 (toldG s L asked []).2.1]) ∧ w'.ownsRow w.heap.size 9 1 lr (toldG s L asked []).1.length (strs' (toldG s L asked []).1) ∧ SrcM B p s lv v' (toldG s L asked []).2.2 w' ∧ SStep p v w v' w' ∧ v'.ownBlock ≠ some pt := by
  obtain ⟨W, hW⟩ : ∃ W, w.alloc (.cells #[.int .i64 s.k, .int .i64 s.size, .func (.func 41) #[.pointer (some ⟨pt, 0, none⟩)] #[]] 45) = W := ⟨_, rfl⟩
  have bW : Below w.heap.size w W := by rw [← hW]; exact (Below.refl w.heap.size w).alloc (Nat.le_refl _) _
  have hsW : W.heap.size = w.heap.size + 1 := by rw [← hW]; simp
  have kW : RdK s pt p w.heap.size W := by rw [← hW]; exact RdK.new s pt p w hpt
  have hgW : w.grownBy W none := ⟨bW.os, bW.tape, bW.output, bW.size, fun b hlt _ => bW.block b hlt⟩
  have HROW := hid (kept_row hrow hgW (fun q _ e => by cases e))
  have K0 := hid kW
  have M0 := hid (hM.below bW)
  have S0 := hid (SStep.of (p := p) (v := v) bW)
  have HW := hid hW
  have HL := hid hL
  have HG := hid hg
  have HGP := hid hgp
  have HT := hid ht
  have HZ := hid hz
  have HPQ := hid hpq
  have hwp : w.heap.size ≠ p := by have := hM.lt; omega
  have HV := hid (show ∀ q, v.ownBlock = some q → q < w.heap.size from fun q hq => (hM.vown.lt q hq).2)
  have HPV := hid hpv
  have HB0 := hid hb
  have HV0 := hid (show ∀ q, v.ownBlock = some q → w0.heap.size ≤ q from fun q hq => Nat.le_trans hB (hM.vown.lt q hq).1)
  have hwlt := hM.lt
  have HLV := hid (show ∀ q, lv.ownBlock = some q → q < w.heap.size from fun q hq => (hM.lown.lt q hq).2)
  have HQV := hid (show ∀ q, pv.ownBlock = some q → q < w.heap.size from fun q hq => (hrow.lt q hq).2)
  have hptl := World.block_lt_of_cell? _ _ hpt
  simp only at hptl
  obtain ⟨po, pcap, hpve⟩ := own_val hrow
  clear hW bW hg hgp ht hz hpt hM hb hpv kW hgW hrow hpq hL
  subst hpve
  go_enter Tryd.func46, Tryd.ntmps46
  go_upto_region 1 with fail
  rw [HW.out]
  clear HW
  go_wp2_with fail
  go_loopw [6, 13] (fun v' i' wr => ∃ (acc : List ByteArray) (ask : List (Int × Int)) (u : Value), i' = .int .i64 acc.length ∧ acc.length ≤ L.length ∧ wr.ownsRow (w.heap.size + 1) 9 1 v' acc.length (strs' acc) ∧ SrcM B p s lv u ask wr ∧ SStep p v w u wr ∧
      wr.ownsRow Bp 77 2 (.slice po L.length pcap) L.length (partsV L) ∧ toldG s (L.drop acc.length) ask acc = toldG s L asked [] ∧ ask.length ≤ asked.length + 126 * acc.length ∧ w.heap.size + 1 ≤ wr.heap.size ∧
      RdK s pt p w.heap.size wr ∧ u.ownBlock ≠ some w.heap.size ∧ u.ownBlock ≠ some pt) (fun _ i' _ => (L.length - intOf i').toNat)
  case atStart => exact ⟨[], asked, v, rfl, by simp, World.ownsRow_nil _ _ _ _, M0.out, S0.out, HROW.out, rfl, by simp, by omega, K0.out, fun e => by have := HV.out _ e; omega, HPV.out⟩
  case round =>
    clear M0 S0 HROW K0
    obtain ⟨acc, ask, u, rfl, hle, hown, hM3, hS3, hrow3, hrw, hask, hsz3, hK3, u1, u3⟩ := hrel
    have HO := hid hown
    have M3 := hid hM3
    have S3 := hid hS3
    have K3 := hid hK3
    have HR3 := hid hrow3
    have HRW := hid hrw
    have U1 := hid u1
    have U3 := hid u3
    have B3 := hid (Below.trans HB0.out (hS3.below (A := w0.heap.size) (Nat.le_trans hB hM3.le) HV0.out HB0.out.size))
    clear hown hM3 hS3 hrow3 hrw hK3 u1 u3
    by_cases hlt : acc.length < L.length
    · obtain ⟨g, cap, hv, a0, a1⟩ := parts_at HR3.out acc.length hlt
      injection hv with hv1 hv2 hv3
      subst hv1
      have hdr : L.drop acc.length = L[acc.length] :: L.drop (acc.length + 1) := List.drop_eq_getElem_cons hlt
      have hle2 := HL.out L[acc.length] (List.getElem_mem hlt)
      obtain ⟨ad, had⟩ : ∃ ad, ad = L[acc.length] := ⟨_, rfl⟩
      rw [← had] at a0 a1 hdr hle2
      have hba := (Below.refl wr.heap.size wr).alloc (Nat.le_refl _) (.cells #[.int .i64 ad.1, .int .i64 ad.2] 77)
      have HN := prove_hash B p pt s lv u ask ad.1 ad.2 hle2.1 hle2.2 (wr.alloc (.cells #[.int .i64 ad.1, .int .i64 ad.2] 77)) w0 HZ.out hl (by omega) (M3.out.below hba) HG.out HGP.out HT.out (B3.out.trans (hba.mono B3.out.size)) hB ((hba.cell (World.block_lt_of_cell? _ _ K3.out.tel)).trans K3.out.tel) hpp U3.out
      have hnz := hashG_size s ad.1 ad.2 ask
      have hnl := hashG_len s ad.1 ad.2 hle2.2 ask
      obtain ⟨r, hr⟩ : ∃ r, r = hashG s ad.1 ad.2 ask := ⟨_, rfl⟩
      obtain ⟨x, y, ask2⟩ := r
      have hst := toldG_step s ad (L.drop (acc.length + 1)) ask acc x y ask2 hr
      rw [← hr] at HN hnz hnl
      unfold saidV readerV at HN
      simp only at HN hnz hnl
      rw [← hdr] at hst
      have HST := hid (HRW.out.symm.trans hst)
      have hltI : (acc.length : Int) < (L.length : Int) := by omega
      have HBA := hid hba
      have HNN := hid HN
      obtain ⟨k0, k1, k2⟩ := And.intro K3.out.r0 (And.intro K3.out.r1 K3.out.r2)
      have HKA := hid (K3.out.below hba)
      obtain ⟨l0, l1, l2⟩ := And.intro HKA.out.r0 (And.intro HKA.out.r1 HKA.out.r2)
      clear hst hr HRW had hdr hv2 hv3 hba HN hle2
      go_wp2_with fail
      refine HNN.out.mono ?_
      rintro e w3 ⟨u', rfl, hM4, hS4', n3⟩
      have hS4 := (SStep.of HBA.out).trans hS4'
      have M4 := hid hM4
      have S4 := hid (S3.out.trans hS4)
      have K4 := hid (K3.out.step hS4 hwp hpp U1.out U3.out)
      have HO4 := hid (hS4.own HO.out (fun q hq => ⟨fun e => by have := (HO.out.lt q hq).1; have := hwlt; omega, fun e => own_off HO.out M3.out.vown (by decide) hq e⟩))
      have HR4 := hid (hS4.own HR3.out (fun q hq => ⟨HPQ.out q hq, fun e => own_off HR3.out M3.out.vown (by decide) hq e⟩))
      have n1 := hid (hS4.far (b := w.heap.size) (by omega) U1.out)
      have N3 := hid n3
      have hs4 := Nat.le_trans hsz3 hS4.size
      clear hM4 hS4 hS4' HNN HO M3 S3 K3 HR3 B3 U1 U3 a0 a1 k0 k1 k2 HBA n3 l0 l1 l2 HKA
      by_cases hy : y = 0
      · subst hy
        have HST2 : Hid (toldG s L asked [] = toldG s (L.drop (acc.length + 1)) ask2 (acc ++ [x])) := by unfold Hid; rw [HST.out, if_neg (by simp)]
        clear HST
        go_wp2_with (at_builtin; refine wp_append1g (w.heap.size + 1) rfl (.tmp 26) (.tmp 28) 36 9 (.string ⟨#[]⟩) 16 rfl Tryd.underlying36 info_str rfl (by decide) _ (strs' acc) (.string x) rfl rfl rfl (by rw [strs'_length]; exact HO4.out) (by omega) (by rw [strs'_length]; omega) ?_; intro v1 w5 hown5 hg5; have HO6 := hid hown5; have HG5 := hid hg5; clear hown5 hg5)
        go_roundw
        case rel =>
          have hs5 := HG5.out.size
          have hrb := fun q hq => (HO4.out.lt q hq).1
          refine ⟨acc ++ [x], ask2, u', by simp, by simp; omega, ?_, M4.out.grown HG5.out (fun e => by have := hrb _ e; omega) (fun q hq e => by have := hrb q e; have := HLV.out q hq; omega) (fun q hq e => own_off HO4.out M4.out.vown (by decide) e hq), S4.out.grow HG5.out (fun q hq => by have := hrb q hq; omega),
            kept_row HR4.out HG5.out (fun q hq e => own_off HO4.out HR4.out (by decide) e hq), ?_, by simp; omega, by omega, K4.out.grown HG5.out (fun q hq => by have := hrb q hq; omega) hptl, n1.out, N3.out⟩
          · have := HO6.out
            rw [show strs' acc ++ [Value.string x] = strs' (acc ++ [x]) by simp [strs'], strs'_length] at this
            exact this
          · rw [HST2.out, show (acc ++ [x]).length = acc.length + 1 by simp]
        case measure => simp [intOf]; omega
      · have HR2 : Hid (toldG s L asked [] = ([], y, ask2)) := by unfold Hid; rw [HST.out, if_pos hy]
        have hy1 : (y == 0) = false := beq_eq_false_iff_ne.2 hy
        have hy2 : (y != 0) = true := bne_iff_ne.2 hy
        clear HST
        go_wp2_with fail
        go_ret2
        exact ⟨u', _, by rw [HR2.out]; rfl, by rw [HR2.out]; exact World.ownsRow_nil _ _ _ _, by rw [HR2.out]; exact M4.out, S4.out, N3.out⟩
    · have hll : acc.length = L.length := by omega
      have HR2 : Hid (toldG s L asked [] = (acc, 0, ask)) := by
        unfold Hid
        rw [← HRW.out, hll, List.drop_length]
        rfl
      have hltI : ¬ (acc.length : Int) < (L.length : Int) := by omega
      clear HRW
      go_wp2_with fail
      go_ret2
      exact ⟨u, _, by rw [HR2.out]; rfl, by rw [HR2.out]; exact own_base HO.out (by omega), by rw [HR2.out]; exact M3.out, S3.out, U3.out⟩
end Go.Proofs.YtaaldkkfedinpaaDoor
