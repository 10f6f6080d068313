/- The walk of the reference's UnFrontier (printed by wip/mkrefunfr.py). -/
import Derived.Test.YtpdjiflbidjcbaaWireUnFr
set_option maxRecDepth 100000
namespace Go.Proofs.Ytpdjiflbidjcbaa
open Go Go.RowKit

/-- The reader's block, the result's block r ahead of it. -/
structure PRd (w : World) (s : ByteArray) (st : St) (W : World) : Prop where
  rd : Rd (w.heap.size + 1) s st W
  r0 : W.cell? ⟨w.heap.size, 0, none⟩ = some (.int .i64 0)
  r1 : W.cell? ⟨w.heap.size, 1, none⟩ = some (.int .i64 0)
  r2 : W.cell? ⟨w.heap.size, 2, none⟩ = some (.slice none 0 0)
  rz : ∀ i, W.frozen? ⟨w.heap.size, i, none⟩ = false
  bel : Below w.heap.size w W
  size : w.heap.size + 2 ≤ W.heap.size
section
variable {w : World} {s : ByteArray} {st st' : St} {W W' : World}
theorem PRd.rest (h : PRd w s st W) (o : Only (w.heap.size + 1) W W') : W'.cell? ⟨w.heap.size, 0, none⟩ = some (.int .i64 0) ∧ W'.cell? ⟨w.heap.size, 1, none⟩ = some (.int .i64 0) ∧ W'.cell? ⟨w.heap.size, 2, none⟩ = some (.slice none 0 0) ∧
      (∀ i, W'.frozen? ⟨w.heap.size, i, none⟩ = false) ∧ Below w.heap.size w W' ∧ w.heap.size + 2 ≤ W'.heap.size := by
  have hs := h.size
  have hb : W'.heap[w.heap.size]? = W.heap[w.heap.size]? := o.block _ (by omega) (by omega)
  have hc : ∀ i, W'.cell? ⟨w.heap.size, i, none⟩ = W.cell? ⟨w.heap.size, i, none⟩ := fun i => by simp [World.cell?, hb]
  have hf : ∀ i, W'.frozen? ⟨w.heap.size, i, none⟩ = W.frozen? ⟨w.heap.size, i, none⟩ := fun i => by simp [World.frozen?, hb]
  exact ⟨(hc 0).trans h.r0, (hc 1).trans h.r1, (hc 2).trans h.r2, fun i => (hf i).trans (h.rz i), h.bel.trans (o.below (B := w.heap.size) (by omega) (by omega)), Nat.le_trans hs o.size⟩
theorem PRd.only (h : PRd w s st W) (r : Rd (w.heap.size + 1) s st' W') (o : Only (w.heap.size + 1) W W') : PRd w s st' W' := by
  obtain ⟨a, b, c, d, e, f⟩ := h.rest o
  exact ⟨r, a, b, c, d, e, f⟩
theorem PRd.below (h : PRd w s st W) (hb : Below W.heap.size W W') : PRd w s st W' := h.only (h.rd.below hb) (Only.of hb h.rd.lt)
end
theorem PRd.start (s : ByteArray) (w : World) : PRd w s (.ok 0) ((w.alloc (.cells #[.int .i64 0, .int .i64 0, .slice none 0 0] 24)).alloc (.cells #[.string s, .int .i64 0, .int .i64 0] 65)) := by
  obtain ⟨W1, hW1⟩ : ∃ W1, W1 = w.alloc (.cells #[.int .i64 0, .int .i64 0, .slice none 0 0] 24) := ⟨_, rfl⟩
  have hz : W1.heap.size = w.heap.size + 1 := by rw [hW1]; simp
  have hr : W1.heap[w.heap.size]? = some (.cells #[.int .i64 0, .int .i64 0, .slice none 0 0] 24 (0, 0)) := by rw [hW1]; exact World.alloc_heap_new w _
  rw [← hW1]
  have hn : (W1.alloc (.cells #[.string s, .int .i64 0, .int .i64 0] 65)).heap[w.heap.size + 1]? = some (.cells #[.string s, .int .i64 0, .int .i64 0] 65 (0, 0)) := by rw [← hz]; exact World.alloc_heap_new W1 _
  have ho : (W1.alloc (.cells #[.string s, .int .i64 0, .int .i64 0] 65)).heap[w.heap.size]? = some (.cells #[.int .i64 0, .int .i64 0, .slice none 0 0] 24 (0, 0)) := (Below.heap_alloc W1 _ _ (by omega)).trans hr
  have hb : Below w.heap.size w (W1.alloc (.cells #[.string s, .int .i64 0, .int .i64 0] 65)) := by rw [hW1]; exact ((Below.refl _ _).alloc (Nat.le_refl _) _).alloc (by simp) _
  have hsz : w.heap.size + 2 ≤ (W1.alloc (.cells #[.string s, .int .i64 0, .int .i64 0] 65)).heap.size := by simp; omega
  generalize W1.alloc (.cells #[.string s, .int .i64 0, .int .i64 0] 65) = V at *
  refine ⟨⟨?_, ?_, ?_, ?_, ?_, by omega⟩, ?_, ?_, ?_, fun i => ?_, hb, hsz⟩
  all_goals simp [World.cell?, World.frozen?, hn, ho]
theorem own_und {B : Nat} {e : TypeId} {v : Value} {n : Nat} {xs : List Value} {w w' : World} (h : w.ownsRow B e 1 v n xs) (hb : Below w.heap.size w w') : w'.ownsRow B e 1 v n xs :=
  h.kept (row := none) ⟨hb.os, hb.tape, hb.output, hb.size, fun k hk _ => hb.block k hk⟩ (by cases v.ownBlock <;> simp)
theorem num_ok (s : ByteArray) (max : Nat) (k : Int) (st : St) (p : Nat) (h : (rdNum s max k st).2 = .ok p) : ∃ q, st = .ok q := by
  cases st with
  | ok q => exact ⟨q, rfl⟩
  | error e => simp [rdNum] at h
theorem ufHi_ok (s : ByteArray) (p : Nat) (h : (ufHi s).2 = .ok p) : ∃ q, (ufW s).2 = .ok q := by
  obtain ⟨q, hq⟩ := num_ok _ _ _ _ _ h
  exact num_ok _ _ _ _ _ hq
set_option maxHeartbeats 2000000 in
theorem ref11_UnFrontier (s : ByteArray) (hs : s.size ≤ 140737488355328) (w : World) :
    Calls Try.prog 10 #[.string s] w (UnFr (unFrontier s) w) := by
  have hlo62 := rdNum_le s 4611686018427387904 10 (ufW s).2
  have hhi62 := rdNum_le s 4611686018427387904 10 (ufLo s).2
  have hwd32 := rdWidth_le s (rdMark s 70 (.ok 0))
  have hmark := hid (fun W (hW : Rd (w.heap.size + 1) s (.ok 0) W) => place_letter (w.heap.size + 1) s (.ok 0) 70 (by decide) hs W hW)
  have hwd := hid (fun W (hW : Rd (w.heap.size + 1) s (rdMark s 70 (.ok 0)) W) => place_width (w.heap.size + 1) s (rdMark s 70 (.ok 0)) hs W hW)
  have hlo := hid (fun W (hW : Rd (w.heap.size + 1) s (ufW s).2 W) => place_number (w.heap.size + 1) s (ufW s).2 4611686018427387904 10 (by decide) (by decide) hs W hW)
  have hhi := hid (fun W (hW : Rd (w.heap.size + 1) s (ufLo s).2 W) => place_number (w.heap.size + 1) s (ufLo s).2 4611686018427387904 10 (by decide) (by decide) hs W hW)
  have hrf := hid (fun (st : St) (k : Int) (hk : k ≠ 0) W (hW : Rd (w.heap.size + 1) s st W) => place_refuse (w.heap.size + 1) s st k hk W hW)
  have hend := hid (fun (st : St) W (hW : Rd (w.heap.size + 1) s st W) => place_end (w.heap.size + 1) s st W hW)
  have hno := hid (fun k h => unFr_no s k h)
  have hok := hid (fun p h => unFr_ok s p h)
  have hst : ufSt s = if (ufHi s).1 < (ufLo s).1 then stNo 10 (ufHi s).2 else (ufHi s).2 := rfl
  have hhs : ufHs s = rdHashes s (ufW s).1 (coverN (ufLo s).1 (ufHi s).1).length (ufSt s) [] := rfl
  have hwk := hid (ufHi_ok s)
  change Hid (∀ W, Rd (w.heap.size + 1) s (rdMark s 70 (.ok 0)) W → Calls Try.prog 33 #[.pointer (some ⟨w.heap.size + 1, 0, none⟩)] W fun e w' => ∃ v : Int, e = .returned (.int .i64 v) ∧ (∀ p, (ufW s).2 = .ok p → v = (ufW s).1) ∧ Rd (w.heap.size + 1) s (ufW s).2 w' ∧ Only (w.heap.size + 1) W w') at hwd
  change Hid (∀ W, Rd (w.heap.size + 1) s (ufW s).2 W → Calls Try.prog 34 #[.pointer (some ⟨w.heap.size + 1, 0, none⟩), .int .i64 (4611686018427387904 : Nat), .int .i64 10] W fun e w' => e = .returned (.int .i64 (ufLo s).1) ∧ Rd (w.heap.size + 1) s (ufLo s).2 w' ∧ Only (w.heap.size + 1) W w') at hlo
  change Hid (∀ W, Rd (w.heap.size + 1) s (ufLo s).2 W → Calls Try.prog 34 #[.pointer (some ⟨w.heap.size + 1, 0, none⟩), .int .i64 (4611686018427387904 : Nat), .int .i64 10] W fun e w' => e = .returned (.int .i64 (ufHi s).1) ∧ Rd (w.heap.size + 1) s (ufHi s).2 w' ∧ Only (w.heap.size + 1) W w') at hhi
  change (ufW s).1 ≤ 32 at hwd32
  change (ufLo s).1 ≤ 4611686018427387904 at hlo62
  change (ufHi s).1 ≤ 4611686018427387904 at hhi62
  obtain ⟨⟨wd, st1⟩, hw1⟩ : ∃ r, r = ufW s := ⟨_, rfl⟩
  obtain ⟨⟨lo, st2⟩, hw2⟩ : ∃ r, r = ufLo s := ⟨_, rfl⟩
  obtain ⟨⟨hi, st3⟩, hw3⟩ : ∃ r, r = ufHi s := ⟨_, rfl⟩
  rw [← hw1] at hwd hlo hhs hok hwd32 hwk
  rw [← hw2] at hlo hhi hhs hok hst hlo62
  rw [← hw3] at hhi hhs hok hst hhi62 hwk
  simp only at hwd hlo hhi hhs hok hst hlo62 hhi62 hwd32 hwk
  generalize rdMark s 70 (.ok 0) = st0 at *
  obtain ⟨xr, hxr⟩ : ∃ x, x = ufHs s := ⟨_, rfl⟩
  rw [← hxr] at hok hhs
  obtain ⟨u, hu⟩ : ∃ u, u = unFrontier s := ⟨_, rfl⟩
  rw [← hu] at hno hok ⊢
  obtain ⟨st, hstt⟩ : ∃ st, st = ufSt s := ⟨_, rfl⟩
  rw [← hstt] at hst hhs hno hok
  clear hw1 hw2 hw3 hu hstt hxr
  have HS := hid (PRd.start s w)
  have HST := hid hst
  have HHS := hid hhs
  clear hst hhs
  by_cases hlt : hi < lo
  · obtain ⟨k, hk⟩ : ∃ k, stNo 10 st3 = .error k := by cases st3 <;> exact ⟨_, rfl⟩
    have HU := hid (hno.out k (by rw [HST.out, if_pos hlt, hk]))
    have HK := hid hk
    clear hk HST HHS hno hok hwk
    go_enter Try.func10, Try.ntmps10
    go_wp2_with fail
    refine (hmark.out _ HS.out.rd).mono ?_
    rintro e w1 ⟨rfl, h1, b1⟩
    have H1 := hid (HS.out.only h1 b1)
    clear h1 b1
    go_wp2_with fail
    refine (hwd.out _ H1.out.rd).mono ?_
    rintro e w2 ⟨kv, rfl, hkv, h1, b1⟩
    have HKV := hid hkv
    have H2 := hid (H1.out.only h1 b1)
    clear h1 b1 hkv
    go_wp2_with fail
    refine (hlo.out _ H2.out.rd).mono ?_
    rintro e w3 ⟨rfl, h1, b1⟩
    have H3 := hid (H2.out.only h1 b1)
    clear h1 b1
    go_wp2_with fail
    refine (hhi.out _ H3.out.rd).mono ?_
    rintro e w7 ⟨rfl, h1, b1⟩
    have H7 := hid (H3.out.only h1 b1)
    clear h1 b1
    go_wp2_with fail
    refine (hrf.out st3 10 (by decide) _ H7.out.rd).mono ?_
    rintro e w8 ⟨rfl, h1, b1⟩
    rw [HK.out] at h1
    have H8 := hid (H7.out.only h1 b1)
    clear h1 b1
    have q2 := rd_code H8.out.rd
    have hkz : (k == 0) = false := beq_eq_false_iff_ne.2 (rd_nz H8.out.rd)
    have hkz2 : (k != 0) = true := bne_iff_ne.2 (rd_nz H8.out.rd)
    have r0 := H8.out.r0
    have r1 := H8.out.r1
    have r2 := H8.out.r2
    have rz := H8.out.rz
    go_wp2_with fail
    go_region
    all_goals go_wp2_with fail
    all_goals have hst := store3_cells r0 r1 r2 (.int .i64 0) (.int .i64 0) (.slice none 0 0)
    all_goals have hbV : Below w.heap.size w (store3 w8 w.heap.size (.int .i64 0) (.int .i64 0) (.slice none 0 0)) := H8.out.bel.grown (store3_grown w8 w.heap.size (.int .i64 0) (.int .i64 0) (.slice none 0 0)) H8.out.bel.size (by rintro k ⟨rfl⟩; omega)
    all_goals show bodyPost Try.prog _ _ _ _ (store3 w8 w.heap.size (.int .i64 0) (.int .i64 0) (.slice none 0 0)).drew
    all_goals generalize store3 w8 w.heap.size (.int .i64 0) (.int .i64 0) (.slice none 0 0) = V at *
    all_goals obtain ⟨d0, d1, d2⟩ := hst
    all_goals clear r0 r1 r2 rz
    all_goals refine bodyPost_ret_by (v := .tuple #[.agg #[.int .i64 0, .int .i64 0, .slice none 0 0], .int .i64 0, .int .i64 k]) (by rw [results_cell2 rfl]; go_simp) rfl ?_
    all_goals (rw [HU.out]; exact unFr_none w _ k (hbV.drew))
  · cases st3 with
    | error k =>
      have HU := hid (hno.out k (by rw [HST.out, if_neg hlt]))
      clear HST HHS hno hok hwk
      go_enter Try.func10, Try.ntmps10
      go_wp2_with fail
      refine (hmark.out _ HS.out.rd).mono ?_
      rintro e w1 ⟨rfl, h1, b1⟩
      have H1 := hid (HS.out.only h1 b1)
      clear h1 b1
      go_wp2_with fail
      refine (hwd.out _ H1.out.rd).mono ?_
      rintro e w2 ⟨kv, rfl, hkv, h1, b1⟩
      have HKV := hid hkv
      have H2 := hid (H1.out.only h1 b1)
      clear h1 b1 hkv
      go_wp2_with fail
      refine (hlo.out _ H2.out.rd).mono ?_
      rintro e w3 ⟨rfl, h1, b1⟩
      have H3 := hid (H2.out.only h1 b1)
      clear h1 b1
      go_wp2_with fail
      refine (hhi.out _ H3.out.rd).mono ?_
      rintro e w7 ⟨rfl, h1, b1⟩
      have H7 := hid (H3.out.only h1 b1)
      clear h1 b1
      have q2 := rd_code H7.out.rd
      have hkz : (k == 0) = false := beq_eq_false_iff_ne.2 (rd_nz H7.out.rd)
      have hkz2 : (k != 0) = true := bne_iff_ne.2 (rd_nz H7.out.rd)
      have r0 := H7.out.r0
      have r1 := H7.out.r1
      have r2 := H7.out.r2
      have rz := H7.out.rz
      go_wp2_with fail
      go_region
      all_goals go_wp2_with fail
      all_goals have hst := store3_cells r0 r1 r2 (.int .i64 0) (.int .i64 0) (.slice none 0 0)
      all_goals have hbV : Below w.heap.size w (store3 w7 w.heap.size (.int .i64 0) (.int .i64 0) (.slice none 0 0)) := H7.out.bel.grown (store3_grown w7 w.heap.size (.int .i64 0) (.int .i64 0) (.slice none 0 0)) H7.out.bel.size (by rintro k ⟨rfl⟩; omega)
      all_goals show bodyPost Try.prog _ _ _ _ (store3 w7 w.heap.size (.int .i64 0) (.int .i64 0) (.slice none 0 0)).drew
      all_goals generalize store3 w7 w.heap.size (.int .i64 0) (.int .i64 0) (.slice none 0 0) = V at *
      all_goals obtain ⟨d0, d1, d2⟩ := hst
      all_goals clear r0 r1 r2 rz
      all_goals refine bodyPost_ret_by (v := .tuple #[.agg #[.int .i64 0, .int .i64 0, .slice none 0 0], .int .i64 0, .int .i64 k]) (by rw [results_cell2 rfl]; go_simp) rfl ?_
      all_goals (rw [HU.out]; exact unFr_none w _ k (hbV.drew))
    | ok p =>
      have HUU := hid (hok.out p (by rw [HST.out, if_neg hlt]))
      have hxx := HHS.out
      rw [show st = .ok p by rw [HST.out, if_neg hlt]] at hxx
      have HCov := hid (ref5_Cover_good lo hi (by omega) hhi62)
      have hcl := cover_len lo hi hhi62
      have HH := hid (fun W (kv : Int) (hkv : kv = wd) (hW : Rd (w.heap.size + 1) s (.ok p) W) => place_hashes (w.heap.size + 1) s (.ok p) (coverN lo hi).length wd kv (fun _ _ => hkv) (by omega) (by omega) hs W hW)
      rw [← hxx] at HH
      obtain ⟨zs, st5⟩ := xr
      simp only at HUU
      obtain ⟨m, hm⟩ : ∃ m, m = (coverN lo hi).length := ⟨_, rfl⟩
      rw [← hm] at HCov HH
      obtain ⟨er, her⟩ : ∃ er, er = rdEnd s st5 := ⟨_, rfl⟩
      have hend5 := hid (fun W hW => hend.out st5 W hW)
      rw [← her] at HUU hend5
      have hww := hid (hwk.out p rfl)
      clear hm hxx HST HHS hno hok hrf hend hcl her hwk
      go_enter Try.func10, Try.ntmps10
      go_wp2_with fail
      refine (hmark.out _ HS.out.rd).mono ?_
      rintro e w1 ⟨rfl, h1, b1⟩
      have H1 := hid (HS.out.only h1 b1)
      clear h1 b1
      go_wp2_with fail
      refine (hwd.out _ H1.out.rd).mono ?_
      rintro e w2 ⟨kv, rfl, hkv, h1, b1⟩
      have HKV := hid hkv
      have H2 := hid (H1.out.only h1 b1)
      clear h1 b1 hkv
      go_wp2_with fail
      refine (hlo.out _ H2.out.rd).mono ?_
      rintro e w3 ⟨rfl, h1, b1⟩
      have H3 := hid (H2.out.only h1 b1)
      clear h1 b1
      go_wp2_with fail
      refine (hhi.out _ H3.out.rd).mono ?_
      rintro e w7 ⟨rfl, h1, b1⟩
      have H7 := hid (H3.out.only h1 b1)
      clear h1 b1
      obtain rfl : kv = (wd : Int) := by obtain ⟨q, hq⟩ := hww.out; exact HKV.out q hq
      clear hww HKV
      have q2 := rd_code0 H7.out.rd
      go_wp2_with fail
      refine (HCov.out _).mono ?_
      rintro e w9 ⟨v, rfl, ho, hb⟩
      obtain ⟨ao, cap, rfl⟩ := own_val ho
      have H9 := hid (H7.out.below hb)
      clear ho hb q2
      go_wp2_with fail
      refine (HH.out _ _ rfl H9.out.rd).mono ?_
      rintro e w10 ⟨v, rfl, ho, h1, b1⟩
      rw [strs'_length] at ho
      obtain ⟨vo, vc, rfl⟩ := own_val ho
      have H10 := hid (H9.out.only h1 b1)
      have HO10 := hid ho
      have hz9 := H9.out.size
      clear ho h1 b1
      go_wp2_with fail
      have H11 := hid (H10.out.below ((Below.refl _ w10).alloc (Nat.le_refl _) (.cells #[.int .i64 lo, .int .i64 hi, .slice vo zs.length vc] 24)))
      have HO11 := hid (own_und HO10.out ((Below.refl _ w10).alloc (Nat.le_refl _) (.cells #[.int .i64 lo, .int .i64 hi, .slice vo zs.length vc] 24)))
      have hbx : (w10.alloc (.cells #[.int .i64 lo, .int .i64 hi, .slice vo zs.length vc] 24)).heap[w10.heap.size]? = some (.cells #[.int .i64 lo, .int .i64 hi, .slice vo zs.length vc] 24 (0, 0)) := World.alloc_heap_new w10 _
      have HBX := hid hbx
      have hz10 := H10.out.size
      clear hbx
      refine (hend5.out _ H11.out.rd).mono ?_
      rintro e w12 ⟨rfl, b1⟩
      obtain ⟨r0, r1, r2, rz, hb12, hs12⟩ := H11.out.rest b1
      have HB12 := hid hb12
      have hbx2 : w12.heap[w10.heap.size]? = some (.cells #[.int .i64 lo, .int .i64 hi, .slice vo zs.length vc] 24 (0, 0)) := (b1.block _ (by omega) (by simp)).trans HBX.out
      have q3 : w12.cell? ⟨w10.heap.size, 0, none⟩ = some (.int .i64 lo) := by simp [World.cell?, hbx2]
      have q4 : w12.cell? ⟨w10.heap.size, 1, none⟩ = some (.int .i64 hi) := by simp [World.cell?, hbx2]
      have q5 : w12.cell? ⟨w10.heap.size, 2, none⟩ = some (.slice vo zs.length vc) := by simp [World.cell?, hbx2]
      have HO12 := hid (own_only HO11.out b1 (by omega))
      clear b1 HO11 HO10 hb12 hbx2 HBX
      by_cases h0 : er = 0
      · have HU : Hid (u = (⟨lo, hi, zs⟩, wd, 0)) := by unfold Hid; rw [HUU.out, if_pos h0]
        subst h0
        go_wp2_with fail
        have hgr := store3_grown w12 w.heap.size (.int .i64 lo) (.int .i64 hi) (.slice vo zs.length vc)
        have HOV := hid (own_past HO12.out hgr (by omega))
        clear hgr q3 q4 q5
        all_goals have hst := store3_cells r0 r1 r2 (.int .i64 lo) (.int .i64 hi) (.slice vo zs.length vc)
        all_goals have hbV : Below w.heap.size w (store3 w12 w.heap.size (.int .i64 lo) (.int .i64 hi) (.slice vo zs.length vc)) := HB12.out.grown (store3_grown w12 w.heap.size (.int .i64 lo) (.int .i64 hi) (.slice vo zs.length vc)) HB12.out.size (by rintro k ⟨rfl⟩; omega)
        all_goals show bodyPost Try.prog _ _ _ _ (store3 w12 w.heap.size (.int .i64 lo) (.int .i64 hi) (.slice vo zs.length vc))
        all_goals generalize store3 w12 w.heap.size (.int .i64 lo) (.int .i64 hi) (.slice vo zs.length vc) = V at *
        all_goals obtain ⟨d0, d1, d2⟩ := hst
        all_goals clear r0 r1 r2 rz
        all_goals refine bodyPost_ret_by (v := .tuple #[.agg #[.int .i64 lo, .int .i64 hi, .slice vo zs.length vc], .int .i64 wd, .int .i64 0]) (by rw [results_cell2 rfl]; go_simp) rfl ?_
        rw [HU.out]
        exact ⟨_, rfl, own_mono HOV.out (by omega), hbV⟩
      · have HU : Hid (u = (noFr, 0, er)) := by unfold Hid; rw [HUU.out, if_neg h0]
        have h0' : (er == 0) = false := beq_eq_false_iff_ne.2 h0
        have h0'' : (er != 0) = true := bne_iff_ne.2 h0
        go_wp2_with fail
        clear q3 q4 q5
        all_goals have hst := store3_cells r0 r1 r2 (.int .i64 0) (.int .i64 0) (.slice none 0 0)
        all_goals have hbV : Below w.heap.size w (store3 w12 w.heap.size (.int .i64 0) (.int .i64 0) (.slice none 0 0)) := HB12.out.grown (store3_grown w12 w.heap.size (.int .i64 0) (.int .i64 0) (.slice none 0 0)) HB12.out.size (by rintro k ⟨rfl⟩; omega)
        all_goals show bodyPost Try.prog _ _ _ _ (store3 w12 w.heap.size (.int .i64 0) (.int .i64 0) (.slice none 0 0))
        all_goals generalize store3 w12 w.heap.size (.int .i64 0) (.int .i64 0) (.slice none 0 0) = V at *
        all_goals obtain ⟨d0, d1, d2⟩ := hst
        all_goals clear r0 r1 r2 rz
        all_goals refine bodyPost_ret_by (v := .tuple #[.agg #[.int .i64 0, .int .i64 0, .slice none 0 0], .int .i64 0, .int .i64 er]) (by rw [results_cell2 rfl]; go_simp) rfl ?_
        rw [HU.out]
        exact unFr_none w _ er hbV
end Go.Proofs.Ytpdjiflbidjcbaa
