/- Walk of the reference's UnLeaves. -/
import Derived.Test.YtmihgnjifmkaaaaUnLeaves
set_option maxRecDepth 100000
namespace Go.Proofs.Ytmihgnjifmkaaaa
open Go Go.RowKit

theorem box_place (s : ByteArray) (w : World) : Rd w.heap.size s (.ok 0) (w.alloc (.cells #[.string s, .int .i64 0, .int .i64 0] 101)) := by
  refine ⟨by simp [go_sem], by simp [go_sem], by simp [go_sem], by simp [go_sem], by simp [go_sem], by omega⟩

set_option maxHeartbeats 2000000 in
theorem ref11_UnLeaves (s : ByteArray) (hs : s.size ≤ 140737488355328) (w : World) :
    Calls Try.prog 19 #[.string s] w fun e w' => ∃ v, e = .returned (.tuple #[v, .int .i64 (unLeaves s).2]) ∧ w'.ownsRow w.heap.size 9 1 v (strs' (unLeaves s).1).length (strs' (unLeaves s).1) ∧ Below w.heap.size w w' := by
  have hle := rdNum_le s 1024 83 (rdMark s 76 (.ok 0))
  have hdef : unLeavesSt s = rdLeaves s (rdNum s 1024 83 (rdMark s 76 (.ok 0))).1 (rdNum s 1024 83 (rdMark s 76 (.ok 0))).2 [] := rfl
  have hnum := hid (fun W (hW : Rd w.heap.size s (rdMark s 76 (.ok 0)) W) => place_number w.heap.size s (rdMark s 76 (.ok 0)) 1024 83 (by decide) (by decide) hs W hW)
  obtain ⟨r1, hr1⟩ : ∃ r, r = rdNum s 1024 83 (rdMark s 76 (.ok 0)) := ⟨_, rfl⟩
  rw [← hr1] at hle hdef hnum
  obtain ⟨n1, st1⟩ := r1
  simp only at hle hdef hnum
  have HDEF := hid hdef
  have hmark := hid (place_letter w.heap.size s (.ok 0) 76 (by decide) hs _ (box_place s w))
  clear hdef hr1
  have hB0 : Hid (Below w.heap.size w (w.alloc (.cells #[.string s, .int .i64 0, .int .i64 0] 101))) := (Below.refl _ _).alloc (Nat.le_refl _) _
  go_enter Try.func19, Try.ntmps19
  go_wp2_with fail
  refine hmark.out.mono ?_
  rintro e w1 ⟨rfl, h1, b1⟩
  have H1 := hid h1; have B1 := hid (hB0.out.trans (b1.below (Nat.le_refl _) (by simp)))
  have hsz1 : w.heap.size + 1 ≤ w1.heap.size := by have := b1.size; simpa using this
  clear h1 b1 hB0 hmark
  go_wp2_with fail
  refine (hnum.out _ H1.out).mono ?_
  rintro e w2 ⟨rfl, h2, b2⟩
  have H2 := hid h2; have B2 := hid (B1.out.trans (b2.below (Nat.le_refl _) (by omega)))
  have hsz2 : w.heap.size + 1 ≤ w2.heap.size := Nat.le_trans hsz1 b2.size
  clear h2 b2 B1 H1 hsz1
  go_wp2_with fail
  go_loopw [6, 7] (fun v' i' wr => ∃ (i : Nat) (acc : List ByteArray) (st : St), i' = .int .i64 i ∧ i ≤ n1 ∧ acc.length ≤ i ∧ Rd w.heap.size s st wr ∧
    wr.ownsRow (w.heap.size + 1) 9 1 v' (strs' acc).length (strs' acc) ∧ rdLeaves s (n1 - i) st acc = rdLeaves s n1 st1 [] ∧ Below w.heap.size w wr ∧ w.heap.size + 1 ≤ wr.heap.size) (fun _ i' _ => (n1 - intOf i').toNat)
  case atStart => exact ⟨0, [], st1, rfl, by omega, by simp, H2.out, World.ownsRow_nil _ _ _ _, rfl, B2.out, hsz2⟩
  case round =>
    clear H2 B2 hsz2
    obtain ⟨i, acc, st, rfl, hi, hacc, hrd, hown, hrest, hbw, hsz⟩ := hrel
    have HRD := hid hrd
    have HO := hid hown
    have HB := hid hbw
    have HREST := hid hrest
    clear hown hbw hrest
    by_cases hlt : i < n1
    · cases st with
      | error k =>
        have hstop : rdLeaves s (n1 - i) (.error k) acc = (acc, .error k) := rdLeaves_no _ _ _ _
        obtain ⟨c0, f1, f2, hk, c2, q, c1, hq⟩ := hrd
        have hk' : (k == 0) = false := beq_eq_false_iff_ne.2 hk
        have HU : Hid (unLeavesSt s = (acc, .error k)) := HDEF.out.trans (HREST.out.symm.trans hstop)
        have hend := hid (fun W (hW : Rd w.heap.size s (.error k) W) => place_end w.heap.size s (.error k) W hW)
        clear hstop HREST
        go_wp2_with fail
        refine (hend.out _ HRD.out).mono ?_
        rintro e w3 ⟨rfl, b3⟩
        have HO3 := hid (own_only HO.out b3 (by omega))
        have HB3 := hid (HB.out.trans (b3.below (Nat.le_refl _) (by omega)))
        clear b3 HO HB
        by_cases h0 : rdEnd s (.error k) = 0
        · have HR : Hid (unLeaves s = (acc, 0)) := by unfold Hid unLeaves; rw [HU.out]; simp only [if_pos h0]
          go_wp2_with fail
          go_ret2
          exact ⟨_, by rw [HR.out]; rfl, by rw [HR.out]; exact own_mono HO3.out (by omega), HB3.out⟩
        · have HR : Hid (unLeaves s = ([], rdEnd s (.error k))) := by unfold Hid unLeaves; rw [HU.out]; simp only [if_neg h0]
          have h0' : (rdEnd s (.error k) == 0) = false := beq_eq_false_iff_ne.2 h0
          go_wp2_with fail
          go_ret2
          exact ⟨.slice none 0 0, by rw [HR.out]; rfl, by rw [HR.out]; exact World.ownsRow_nil _ _ _ _, HB3.out⟩
      | ok p =>
        have HST := hid (HREST.out.symm.trans (rdLeaves_step' s (n1 - i) (n1 - (i + 1)) p acc (by omega)))
        have hnum := hid (fun W (hW : Rd w.heap.size s (.ok p) W) => place_number w.heap.size s (.ok p) 4096 121 (by decide) (by decide) hs W hW)
        have hkl := rdNum_le s 4096 121 (.ok p)
        obtain ⟨r2, hr2⟩ : ∃ r, r = rdNum s 4096 121 (.ok p) := ⟨_, rfl⟩
        rw [← hr2] at HST hnum hkl
        obtain ⟨k, st2⟩ := r2
        simp only at HST hnum hkl
        clear hr2 HREST
        obtain ⟨c0, f1, f2, c1, c2, hq⟩ := hrd
        go_wp2_with fail
        refine (hnum.out _ HRD.out).mono ?_
        rintro e w2 ⟨rfl, h2, b2⟩
        have H2 := hid h2
        have hsz2 : w.heap.size + 1 ≤ w2.heap.size := Nat.le_trans hsz b2.size
        have HO2 := hid (own_only HO.out b2 (by omega))
        have HB2 := hid (HB.out.trans (b2.below (Nat.le_refl _) (by omega)))
        clear h2 b2 c0 c1 c2 f1 f2 hsz HO HB
        have hby := hid (place_bytes w.heap.size s st2 k hs (by omega) w2 H2.out)
        obtain ⟨r3, hr3⟩ : ∃ r, r = rdBytes s k st2 := ⟨_, rfl⟩
        rw [← hr3] at HST hby
        obtain ⟨x, st3⟩ := r3
        simp only at HST hby
        clear hr3 H2
        have hln : (acc.length + 1) * 16 ≤ 140737488355328 := by omega
        have hlen : (strs' acc).length = acc.length := strs'_length acc
        go_wp2_with fail
        refine hby.out.mono ?_
        rintro e w3 ⟨rfl, h3, b3⟩
        have H3 := hid h3
        have hsz3 : w.heap.size + 1 ≤ w3.heap.size := Nat.le_trans hsz2 b3.size
        have HO3 := hid (own_only HO2.out b3 (by omega))
        have HB3 := hid (HB2.out.trans (b3.below (Nat.le_refl _) (by omega)))
        clear h3 b3 HO2 HB2 hsz2
        go_wp2_with (first
          | (at_builtin; refine wp_append1 (w.heap.size + 1) rfl (.tmp 31) (.tmp 35) 27 9 (.string ⟨#[]⟩) 16 rfl Try.underlying27 info_string rfl (by decide) _ (strs' acc) (.string x) rfl rfl rfl HO3.out hsz3 (by rw [hlen]; exact hln) ?_; intro v4 w4 hown4 hb4; have H4 := hid hown4; have HR4 := hid hb4; clear hown4 hb4)
          | fail)
        go_roundw
        case rel =>
          have e : strs' (acc ++ [x]) = strs' acc ++ [.string x] := by simp [strs']
          refine ⟨i + 1, acc ++ [x], st3, by go_num, by omega, by simp; omega, H3.out.upto HR4.out (by omega), by rw [e]; exact H4.out, HST.out.symm, HB3.out.trans (HR4.out.mono (by omega)), ?_⟩
          have := HR4.out.size; omega
        case measure => simp [intOf]; omega
    · have hstop : rdLeaves s (n1 - i) st acc = (acc, st) := by rw [show n1 - i = 0 by omega]; rfl
      have HU : Hid (unLeavesSt s = (acc, st)) := HDEF.out.trans (HREST.out.symm.trans hstop)
      have hend := hid (fun W (hW : Rd w.heap.size s st W) => place_end w.heap.size s st W hW)
      clear hstop HREST
      go_wp2_with fail
      refine (hend.out _ HRD.out).mono ?_
      rintro e w3 ⟨rfl, b3⟩
      have HO3 := hid (own_only HO.out b3 (by omega))
      have HB3 := hid (HB.out.trans (b3.below (Nat.le_refl _) (by omega)))
      clear b3 HO HB
      by_cases h0 : rdEnd s st = 0
      · have HR : Hid (unLeaves s = (acc, 0)) := by unfold Hid unLeaves; rw [HU.out]; simp only [if_pos h0]
        go_wp2_with fail
        go_ret2
        exact ⟨_, by rw [HR.out]; rfl, by rw [HR.out]; exact own_mono HO3.out (by omega), HB3.out⟩
      · have HR : Hid (unLeaves s = ([], rdEnd s st)) := by unfold Hid unLeaves; rw [HU.out]; simp only [if_neg h0]
        have h0' : (rdEnd s st == 0) = false := beq_eq_false_iff_ne.2 h0
        go_wp2_with fail
        go_ret2
        exact ⟨.slice none 0 0, by rw [HR.out]; rfl, by rw [HR.out]; exact World.ownsRow_nil _ _ _ _, HB3.out⟩
end Go.Proofs.Ytmihgnjifmkaaaa
