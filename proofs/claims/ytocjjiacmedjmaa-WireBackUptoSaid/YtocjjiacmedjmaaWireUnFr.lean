/- The walk of wire.UnFrontier (printed by wip/mkunfr.py). -/
import Derived.Test.YtocjjiacmedjmaaUnFrontier
set_option maxRecDepth 100000
namespace Go.Proofs.Ytocjjiacmedjmaa
open Go Go.RowKit

theorem FRd.drewN {w : World} {s : ByteArray} {st : St} {v3 v4 v5 : Value} {W : World} (h : FRd w s st v3 v4 v5 W) (n : Nat) : FRd w s st v3 v4 v5 (W.drewN n) := h.below (below_drewN (Below.refl _ _) n)
theorem own_past {B t : Nat} {e : TypeId} {v : Value} {n : Nat} {xs : List Value} {w w' : World} (h : w.ownsRow B e 1 v n xs) (hg : w.grownBy w' (Option.some t)) (ht : t < B) : w'.ownsRow B e 1 v n xs := by
  refine h.kept hg ?_
  rcases h.2 with ⟨rfl, _⟩ | ⟨g, cap, cur, rfl, hg, _⟩
  · simp [Value.ownBlock]
  · simp [Value.ownBlock]; omega
theorem unFr_no (s : ByteArray) (k : Int) (h : ufSt s = .error k) : unFrontier s = (noFr, 0, k) := by unfold unFrontier; rw [h]
theorem unFr_ok (s : ByteArray) (p : Nat) (h : ufSt s = .ok p) : unFrontier s = if rdEnd s (ufHs s).2 = 0 then (⟨(ufLo s).1, (ufHi s).1, (ufHs s).1⟩, (ufW s).1, 0) else (noFr, 0, rdEnd s (ufHs s).2) := by unfold unFrontier; rw [h]
theorem unFr_none (w w' : World) (k : Int) (h : Below w.heap.size w w') : UnFr (noFr, 0, k) w (.returned (.tuple #[.agg #[.int .i64 0, .int .i64 0, .slice none 0 0], .int .i64 0, .int .i64 k])) w' :=
  ⟨.slice none 0 0, rfl, World.ownsRow_nil _ _ _ _, h⟩
theorem FRd.rest {w : World} {s : ByteArray} {st : St} {v3 v4 v5 : Value} {W W' : World} (h : FRd w s st v3 v4 v5 W) (o : Only (w.heap.size + 1) W W') :
    W'.cell? ⟨w.heap.size + 1, 3, none⟩ = some v3 ∧ W'.cell? ⟨w.heap.size + 1, 4, none⟩ = some v4 ∧ W'.cell? ⟨w.heap.size + 1, 5, none⟩ = some v5 ∧ W'.cell? ⟨w.heap.size, 0, none⟩ = some (.int .i64 0) ∧ W'.cell? ⟨w.heap.size, 1, none⟩ = some (.int .i64 0) ∧ W'.cell? ⟨w.heap.size, 2, none⟩ = some (.slice none 0 0) ∧
      (∀ i, W'.frozen? ⟨w.heap.size, i, none⟩ = false) ∧ Below w.heap.size w W' := by
  have hs := h.size
  have hb : W'.heap[w.heap.size]? = W.heap[w.heap.size]? := o.block _ (by omega) (by omega)
  have hc : ∀ i, W'.cell? ⟨w.heap.size, i, none⟩ = W.cell? ⟨w.heap.size, i, none⟩ := fun i => by simp [World.cell?, hb]
  have hf : ∀ i, W'.frozen? ⟨w.heap.size, i, none⟩ = W.frozen? ⟨w.heap.size, i, none⟩ := fun i => by simp [World.frozen?, hb]
  exact ⟨(o.cell 3 (by decide) (by decide)).trans h.c3, (o.cell 4 (by decide) (by decide)).trans h.c4, (o.cell 5 (by decide) (by decide)).trans h.c5, (hc 0).trans h.r0, (hc 1).trans h.r1, (hc 2).trans h.r2, fun i => (hf i).trans (h.rz i), h.bel.trans (o.below (B := w.heap.size) (by omega) (by omega))⟩
theorem rd_nz {b : Nat} {s : ByteArray} {k : Int} {W : World} (h : Rd b s (.error k) W) : k ≠ 0 := by obtain ⟨_, _, _, hk, _⟩ := h; exact hk
theorem rd_code {b : Nat} {s : ByteArray} {k : Int} {W : World} (h : Rd b s (.error k) W) : W.cell? ⟨b, 2, none⟩ = some (.int .i64 k) := by obtain ⟨_, _, _, _, hk, _⟩ := h; exact hk
theorem rd_code0 {b : Nat} {s : ByteArray} {p : Nat} {W : World} (h : Rd b s (.ok p) W) : W.cell? ⟨b, 2, none⟩ = some (.int .i64 0) := by obtain ⟨_, _, _, _, hk, _⟩ := h; exact hk
set_option maxHeartbeats 2000000 in
theorem wire_UnFrontier (s : ByteArray) (hs : s.size ≤ 140737488355328) (w : World) :
    Calls Try.prog 17 #[.string s] w (UnFr (unFrontier s) w) := by
  have hlo62 := rdNum_le s 4611686018427387904 10 (ufW s).2
  have hhi62 := rdNum_le s 4611686018427387904 10 (ufLo s).2
  have hwd32 := rdWidth_le s (rdMark s 70 (.ok 0))
  have hmark := hid (fun W (hW : Rd (w.heap.size + 1) s (.ok 0) W) => wire_mark (w.heap.size + 1) s (.ok 0) 70 (by decide) hs W hW)
  have hwd := hid (fun W (hW : Rd (w.heap.size + 1) s (rdMark s 70 (.ok 0)) W) => wire_width (w.heap.size + 1) s (rdMark s 70 (.ok 0)) hs W hW)
  have hlo := hid (fun W (hW : Rd (w.heap.size + 1) s (ufW s).2 W) => wire_size (w.heap.size + 1) s (ufW s).2 hs W hW)
  have hhi := hid (fun W (hW : Rd (w.heap.size + 1) s (ufLo s).2 W) => wire_size (w.heap.size + 1) s (ufLo s).2 hs W hW)
  have hrf := hid (fun (st : St) (k : Int) (hk : k ≠ 0) W (hW : Rd (w.heap.size + 1) s st W) => wire_refuse (w.heap.size + 1) s st k hk W hW)
  have hend := hid (fun (st : St) W (hW : Rd (w.heap.size + 1) s st W) => wire_end (w.heap.size + 1) s st W hW)
  have hno := hid (fun k h => unFr_no s k h)
  have hok := hid (fun p h => unFr_ok s p h)
  have hst : ufSt s = if (ufHi s).1 < (ufLo s).1 then stNo 10 (ufHi s).2 else (ufHi s).2 := rfl
  have hhs : ufHs s = rdHashes s (ufW s).1 (coverN (ufLo s).1 (ufHi s).1).length (ufSt s) [] := rfl
  change Hid (∀ W, Rd (w.heap.size + 1) s (rdMark s 70 (.ok 0)) W → Calls Try.prog 39 #[.pointer (some ⟨w.heap.size + 1, 0, none⟩)] W fun e w' => e = .returned (.int .i64 (ufW s).1) ∧ Rd (w.heap.size + 1) s (ufW s).2 w' ∧ Only (w.heap.size + 1) W w') at hwd
  change Hid (∀ W, Rd (w.heap.size + 1) s (ufW s).2 W → Calls Try.prog 40 #[.pointer (some ⟨w.heap.size + 1, 0, none⟩)] W fun e w' => e = .returned (.int .i64 (ufLo s).1) ∧ Rd (w.heap.size + 1) s (ufLo s).2 w' ∧ Only (w.heap.size + 1) W w') at hlo
  change Hid (∀ W, Rd (w.heap.size + 1) s (ufLo s).2 W → Calls Try.prog 40 #[.pointer (some ⟨w.heap.size + 1, 0, none⟩)] W fun e w' => e = .returned (.int .i64 (ufHi s).1) ∧ Rd (w.heap.size + 1) s (ufHi s).2 w' ∧ Only (w.heap.size + 1) W w') at hhi
  change (ufW s).1 ≤ 32 at hwd32
  change (ufLo s).1 ≤ 4611686018427387904 at hlo62
  change (ufHi s).1 ≤ 4611686018427387904 at hhi62
  obtain ⟨⟨wd, st1⟩, hw1⟩ : ∃ r, r = ufW s := ⟨_, rfl⟩
  obtain ⟨⟨lo, st2⟩, hw2⟩ : ∃ r, r = ufLo s := ⟨_, rfl⟩
  obtain ⟨⟨hi, st3⟩, hw3⟩ : ∃ r, r = ufHi s := ⟨_, rfl⟩
  rw [← hw1] at hwd hlo hhs hok hwd32
  rw [← hw2] at hlo hhi hhs hok hst hlo62
  rw [← hw3] at hhi hhs hok hst hhi62
  simp only at hwd hlo hhi hhs hok hst hlo62 hhi62 hwd32
  generalize rdMark s 70 (.ok 0) = st0 at *
  obtain ⟨xr, hxr⟩ : ∃ x, x = ufHs s := ⟨_, rfl⟩
  rw [← hxr] at hok hhs
  obtain ⟨u, hu⟩ : ∃ u, u = unFrontier s := ⟨_, rfl⟩
  rw [← hu] at hno hok ⊢
  obtain ⟨st, hstt⟩ : ∃ st, st = ufSt s := ⟨_, rfl⟩
  rw [← hstt] at hst hhs hno hok
  clear hw1 hw2 hw3 hu hstt hxr
  have HS := hid (FRd.start s w)
  have HST := hid hst
  have HHS := hid hhs
  clear hst hhs
  by_cases hlt : hi < lo
  · obtain ⟨k, hk⟩ : ∃ k, stNo 10 st3 = .error k := by cases st3 <;> exact ⟨_, rfl⟩
    have HU := hid (hno.out k (by rw [HST.out, if_pos hlt, hk]))
    have HK := hid hk
    clear hk HST HHS hno hok
    go_enter Try.func17, Try.ntmps17
    go_wp2_with fail
    refine (hmark.out _ HS.out.rd).mono ?_
    rintro e w1 ⟨rfl, h1, b1⟩
    have H1 := hid (HS.out.only h1 b1)
    clear h1 b1
    go_wp2_with fail
    refine (hwd.out _ H1.out.rd).mono ?_
    rintro e w2 ⟨rfl, h1, b1⟩
    have H2 := hid (H1.out.only h1 b1)
    clear h1 b1
    go_wp2_with fail
    refine (hlo.out _ H2.out.rd).mono ?_
    rintro e w3 ⟨rfl, h1, b1⟩
    have H3 := hid (H2.out.only h1 b1)
    have q3 := H3.out.c3
    have z3 := H3.out.fz 3
    clear h1 b1
    go_wp2_with fail
    have H4 := hid (H3.out.put3 (.int .i64 lo))
    clear q3 z3
    refine (hhi.out _ H4.out.rd).mono ?_
    rintro e w5 ⟨rfl, h1, b1⟩
    have H5 := hid (H4.out.only h1 b1)
    have q4 := H5.out.c4
    have z4 := H5.out.fz 4
    clear h1 b1
    go_wp2_with fail
    have H6 := hid (H5.out.put4 (.int .i64 hi))
    clear q4 z4
    generalize hw6 : w5.setCell ⟨w.heap.size + 1, 4, none⟩ (.int .i64 (hi : Int)) = w6 at H6 ⊢
    have q3 := H6.out.c3
    have q4 := H6.out.c4
    clear hw6
    go_quiet (fail)
    have H7 := hid (H6.out.drewN nq)
    generalize w6.drewN nq = w7 at H7 ⊢
    clear q3 q4 H6
    go_wp2_with fail
    refine (hrf.out st3 10 (by decide) _ H7.out.rd).mono ?_
    rintro e w8 ⟨rfl, h1, b1⟩
    rw [HK.out] at h1
    have H8 := hid (H7.out.only h1 b1)
    clear h1 b1
    have q2 := rd_code H8.out.rd
    have hkz : (k == 0) = false := beq_eq_false_iff_ne.2 (rd_nz H8.out.rd)
    have hkz2 : (k != 0) = true := bne_iff_ne.2 (rd_nz H8.out.rd)
    have r0 := H8.out.r0
    have r1 := H8.out.r1
    have r2 := H8.out.r2
    have rz := H8.out.rz
    go_wp2_with fail
    go_region
    all_goals go_wp2_with fail
    all_goals have hst := store3_cells r0 r1 r2 (.int .i64 0) (.int .i64 0) (.slice none 0 0)
    all_goals have hbV : Below w.heap.size w (store3 w8 w.heap.size (.int .i64 0) (.int .i64 0) (.slice none 0 0)) := H8.out.bel.grown (store3_grown w8 w.heap.size (.int .i64 0) (.int .i64 0) (.slice none 0 0)) H8.out.bel.size (by rintro k ⟨rfl⟩; omega)
    all_goals show bodyPost Try.prog _ _ _ _ (store3 w8 w.heap.size (.int .i64 0) (.int .i64 0) (.slice none 0 0)).drew
    all_goals generalize store3 w8 w.heap.size (.int .i64 0) (.int .i64 0) (.slice none 0 0) = V at *
    all_goals obtain ⟨d0, d1, d2⟩ := hst
    all_goals clear r0 r1 r2 rz
    all_goals refine bodyPost_ret_by (v := .tuple #[.agg #[.int .i64 0, .int .i64 0, .slice none 0 0], .int .i64 0, .int .i64 k]) (by rw [results_cell2 rfl]; go_simp) rfl ?_
    all_goals (rw [HU.out]; exact unFr_none w _ k (hbV.drew))
  · cases st3 with
    | error k =>
      have HU := hid (hno.out k (by rw [HST.out, if_neg hlt]))
      clear HST HHS hno hok
      go_enter Try.func17, Try.ntmps17
      go_wp2_with fail
      refine (hmark.out _ HS.out.rd).mono ?_
      rintro e w1 ⟨rfl, h1, b1⟩
      have H1 := hid (HS.out.only h1 b1)
      clear h1 b1
      go_wp2_with fail
      refine (hwd.out _ H1.out.rd).mono ?_
      rintro e w2 ⟨rfl, h1, b1⟩
      have H2 := hid (H1.out.only h1 b1)
      clear h1 b1
      go_wp2_with fail
      refine (hlo.out _ H2.out.rd).mono ?_
      rintro e w3 ⟨rfl, h1, b1⟩
      have H3 := hid (H2.out.only h1 b1)
      have q3 := H3.out.c3
      have z3 := H3.out.fz 3
      clear h1 b1
      go_wp2_with fail
      have H4 := hid (H3.out.put3 (.int .i64 lo))
      clear q3 z3
      refine (hhi.out _ H4.out.rd).mono ?_
      rintro e w5 ⟨rfl, h1, b1⟩
      have H5 := hid (H4.out.only h1 b1)
      have q4 := H5.out.c4
      have z4 := H5.out.fz 4
      clear h1 b1
      go_wp2_with fail
      have H6 := hid (H5.out.put4 (.int .i64 hi))
      clear q4 z4
      generalize hw6 : w5.setCell ⟨w.heap.size + 1, 4, none⟩ (.int .i64 (hi : Int)) = w6 at H6 ⊢
      have q3 := H6.out.c3
      have q4 := H6.out.c4
      clear hw6
      go_quiet (fail)
      have H7 := hid (H6.out.drewN nq)
      generalize w6.drewN nq = w7 at H7 ⊢
      clear q3 q4 H6
      have q2 := rd_code H7.out.rd
      have hkz : (k == 0) = false := beq_eq_false_iff_ne.2 (rd_nz H7.out.rd)
      have hkz2 : (k != 0) = true := bne_iff_ne.2 (rd_nz H7.out.rd)
      have r0 := H7.out.r0
      have r1 := H7.out.r1
      have r2 := H7.out.r2
      have rz := H7.out.rz
      go_wp2_with fail
      go_region
      all_goals go_wp2_with fail
      all_goals have hst := store3_cells r0 r1 r2 (.int .i64 0) (.int .i64 0) (.slice none 0 0)
      all_goals have hbV : Below w.heap.size w (store3 w7 w.heap.size (.int .i64 0) (.int .i64 0) (.slice none 0 0)) := H7.out.bel.grown (store3_grown w7 w.heap.size (.int .i64 0) (.int .i64 0) (.slice none 0 0)) H7.out.bel.size (by rintro k ⟨rfl⟩; omega)
      all_goals show bodyPost Try.prog _ _ _ _ (store3 w7 w.heap.size (.int .i64 0) (.int .i64 0) (.slice none 0 0)).drew
      all_goals generalize store3 w7 w.heap.size (.int .i64 0) (.int .i64 0) (.slice none 0 0) = V at *
      all_goals obtain ⟨d0, d1, d2⟩ := hst
      all_goals clear r0 r1 r2 rz
      all_goals refine bodyPost_ret_by (v := .tuple #[.agg #[.int .i64 0, .int .i64 0, .slice none 0 0], .int .i64 0, .int .i64 k]) (by rw [results_cell2 rfl]; go_simp) rfl ?_
      all_goals (rw [HU.out]; exact unFr_none w _ k (hbV.drew))
    | ok p =>
      have HUU := hid (hok.out p (by rw [HST.out, if_neg hlt]))
      have hxx := HHS.out
      rw [show st = .ok p by rw [HST.out, if_neg hlt]] at hxx
      have HCov := hid (tree_Cover_good lo hi (by omega) hhi62)
      have hcl := cover_len lo hi hhi62
      have HH := hid (fun W (hW : Rd (w.heap.size + 1) s (.ok p) W) => wire_hashes (w.heap.size + 1) s (.ok p) (coverN lo hi).length wd (by omega) (by omega) hs W hW)
      rw [← hxx] at HH
      obtain ⟨zs, st5⟩ := xr
      simp only at HUU
      obtain ⟨m, hm⟩ : ∃ m, m = (coverN lo hi).length := ⟨_, rfl⟩
      rw [← hm] at HCov HH
      obtain ⟨er, her⟩ : ∃ er, er = rdEnd s st5 := ⟨_, rfl⟩
      have hend5 := hid (fun W hW => hend.out st5 W hW)
      rw [← her] at HUU hend5
      clear hm hxx HST HHS hno hok hrf hend hcl her
      go_enter Try.func17, Try.ntmps17
      go_wp2_with fail
      refine (hmark.out _ HS.out.rd).mono ?_
      rintro e w1 ⟨rfl, h1, b1⟩
      have H1 := hid (HS.out.only h1 b1)
      clear h1 b1
      go_wp2_with fail
      refine (hwd.out _ H1.out.rd).mono ?_
      rintro e w2 ⟨rfl, h1, b1⟩
      have H2 := hid (H1.out.only h1 b1)
      clear h1 b1
      go_wp2_with fail
      refine (hlo.out _ H2.out.rd).mono ?_
      rintro e w3 ⟨rfl, h1, b1⟩
      have H3 := hid (H2.out.only h1 b1)
      have q3 := H3.out.c3
      have z3 := H3.out.fz 3
      clear h1 b1
      go_wp2_with fail
      have H4 := hid (H3.out.put3 (.int .i64 lo))
      clear q3 z3
      refine (hhi.out _ H4.out.rd).mono ?_
      rintro e w5 ⟨rfl, h1, b1⟩
      have H5 := hid (H4.out.only h1 b1)
      have q4 := H5.out.c4
      have z4 := H5.out.fz 4
      clear h1 b1
      go_wp2_with fail
      have H6 := hid (H5.out.put4 (.int .i64 hi))
      clear q4 z4
      generalize hw6 : w5.setCell ⟨w.heap.size + 1, 4, none⟩ (.int .i64 (hi : Int)) = w6 at H6 ⊢
      have q3 := H6.out.c3
      have q4 := H6.out.c4
      clear hw6
      go_quiet (fail)
      have H7 := hid (H6.out.drewN nq)
      generalize w6.drewN nq = w7 at H7 ⊢
      clear q3 q4 H6
      have q2 := rd_code0 H7.out.rd
      have q3 := H7.out.c3
      have q4 := H7.out.c4
      go_wp2_with fail
      go_region_held3 (fun W => W.cell? ⟨w.heap.size + 1, 3, none⟩ = some (.int .i64 lo) ∧ W.cell? ⟨w.heap.size + 1, 4, none⟩ = some (.int .i64 hi)) (go_keep) ((go_at_call 14; (with_reducible refine Calls.mono (HCov.out _) ?_); rintro e w9 ⟨v, rfl, ho, hb⟩; obtain ⟨ao, cap, rfl⟩ := own_val ho; have H9 := hid (H7.out.drew.below hb); have q93 := H9.out.c3; have q94 := H9.out.c4; clear ho hb))
      clear q2 q3 q4
      go_wp2_with fail
      refine (HH.out _ H9.out.rd).mono ?_
      rintro e w10 ⟨v, rfl, ho, h1, b1⟩
      rw [strs'_length] at ho
      obtain ⟨vo, vc, rfl⟩ := own_val ho
      have H10 := hid (H9.out.only h1 b1)
      have HO10 := hid ho
      have hz9 := H9.out.size
      have q5 := H10.out.c5
      have z5 := H10.out.fz 5
      clear ho h1 b1 q93 q94
      go_wp2_with fail
      have H11 := hid (H10.out.put5 (.slice vo zs.length vc))
      have HO11 := hid (RowKit.ownsRow_setCell_below (a := ⟨w.heap.size + 1, 5, none⟩) HO10.out (show w.heap.size + 1 < w9.heap.size by omega) (.slice vo zs.length vc))
      clear q5 z5
      refine (hend5.out _ H11.out.rd).mono ?_
      rintro e w12 ⟨rfl, b1⟩
      obtain ⟨q3, q4, q5, r0, r1, r2, rz, hb12⟩ := H11.out.rest b1
      have HB12 := hid hb12
      have HO12 := hid (own_only HO11.out b1 (by omega))
      clear b1 HO11 HO10
      clear hb12
      by_cases h0 : er = 0
      · have HU : Hid (u = (⟨lo, hi, zs⟩, wd, 0)) := by unfold Hid; rw [HUU.out, if_pos h0]
        subst h0
        go_wp2_with fail
        have hgr := store3_grown w12 w.heap.size (.int .i64 lo) (.int .i64 hi) (.slice vo zs.length vc)
        have HOV := hid (own_past HO12.out hgr (by omega))
        clear hgr q3 q4 q5
        all_goals have hst := store3_cells r0 r1 r2 (.int .i64 lo) (.int .i64 hi) (.slice vo zs.length vc)
        all_goals have hbV : Below w.heap.size w (store3 w12 w.heap.size (.int .i64 lo) (.int .i64 hi) (.slice vo zs.length vc)) := HB12.out.grown (store3_grown w12 w.heap.size (.int .i64 lo) (.int .i64 hi) (.slice vo zs.length vc)) HB12.out.size (by rintro k ⟨rfl⟩; omega)
        all_goals show bodyPost Try.prog _ _ _ _ (store3 w12 w.heap.size (.int .i64 lo) (.int .i64 hi) (.slice vo zs.length vc))
        all_goals generalize store3 w12 w.heap.size (.int .i64 lo) (.int .i64 hi) (.slice vo zs.length vc) = V at *
        all_goals obtain ⟨d0, d1, d2⟩ := hst
        all_goals clear r0 r1 r2 rz
        all_goals refine bodyPost_ret_by (v := .tuple #[.agg #[.int .i64 lo, .int .i64 hi, .slice vo zs.length vc], .int .i64 wd, .int .i64 0]) (by rw [results_cell2 rfl]; go_simp) rfl ?_
        rw [HU.out]
        exact ⟨_, rfl, own_mono HOV.out (by omega), hbV⟩
      · have HU : Hid (u = (noFr, 0, er)) := by unfold Hid; rw [HUU.out, if_neg h0]
        have h0' : (er == 0) = false := beq_eq_false_iff_ne.2 h0
        have h0'' : (er != 0) = true := bne_iff_ne.2 h0
        go_wp2_with fail
        clear q3 q4 q5
        all_goals have hst := store3_cells r0 r1 r2 (.int .i64 0) (.int .i64 0) (.slice none 0 0)
        all_goals have hbV : Below w.heap.size w (store3 w12 w.heap.size (.int .i64 0) (.int .i64 0) (.slice none 0 0)) := HB12.out.grown (store3_grown w12 w.heap.size (.int .i64 0) (.int .i64 0) (.slice none 0 0)) HB12.out.size (by rintro k ⟨rfl⟩; omega)
        all_goals show bodyPost Try.prog _ _ _ _ (store3 w12 w.heap.size (.int .i64 0) (.int .i64 0) (.slice none 0 0))
        all_goals generalize store3 w12 w.heap.size (.int .i64 0) (.int .i64 0) (.slice none 0 0) = V at *
        all_goals obtain ⟨d0, d1, d2⟩ := hst
        all_goals clear r0 r1 r2 rz
        all_goals refine bodyPost_ret_by (v := .tuple #[.agg #[.int .i64 0, .int .i64 0, .slice none 0 0], .int .i64 0, .int .i64 er]) (by rw [results_cell2 rfl]; go_simp) rfl ?_
        rw [HU.out]
        exact unFr_none w _ er hbV
end Go.Proofs.Ytocjjiacmedjmaa
