/- Walk of the law WireLeaves. -/
import Derived.Test.YtmihgnjifmkaaaaSame
set_option maxRecDepth 100000
namespace Go.Proofs.Ytmihgnjifmkaaaa
open Go Go.RowKit

theorem own_below {B : Nat} {e : TypeId} {v : Value} {n : Nat} {xs : List Value} {w w' : World} (h : w.ownsRow B e 1 v n xs) (hb : Below w.heap.size w w') : w'.ownsRow B e 1 v n xs :=
  h.kept (row := none) ⟨hb.os, hb.tape, hb.output, hb.size, fun k hk _ => hb.block k hk⟩ (by cases v.ownBlock <;> simp)

theorem rdLeaves_len (s : ByteArray) : ∀ n st acc, (rdLeaves s n st acc).1.length ≤ acc.length + n := by
  intro n
  induction n with
  | zero => intro st acc; simp [rdLeaves]
  | succ n ih =>
    intro st acc
    cases st with
    | error k => simp [rdLeaves]
    | ok p =>
      rw [rdLeaves_step]
      have := ih (rdBytes s (rdNum s 4096 121 (.ok p)).1 (rdNum s 4096 121 (.ok p)).2).2 (acc ++ [(rdBytes s (rdNum s 4096 121 (.ok p)).1 (rdNum s 4096 121 (.ok p)).2).1])
      simp at this
      omega
theorem unLeaves_len (s : ByteArray) : (unLeaves s).1.length ≤ 1024 := by
  have h := rdLeaves_len s (rdNum s 1024 83 (rdMark s 76 (.ok 0))).1 (rdNum s 1024 83 (rdMark s 76 (.ok 0))).2 []
  have h2 := rdNum_le s 1024 83 (rdMark s 76 (.ok 0))
  simp only [List.length_nil] at h
  unfold unLeaves unLeavesSt
  split
  · simp only; omega
  · simp
set_option maxHeartbeats 2000000 in
theorem law_WireLeaves (ao : Option Addr) (xs : List ByteArray) (cap : Nat) (s : ByteArray) (w : World) (hx : RowAt w ao (strs' xs)) (hao : ao = none → xs.length = 0 ∧ cap = 0) (hl : xs.length * 16 ≤ 140737488351232) (hs : s.size ≤ 140737488355328) :
    Calls Try.prog 4 #[.slice ao xs.length cap, .string s] w fun e w' => e = .returned (.bool true) ∧ Below w.heap.size w w' := by
  have hlonger := hid (law_longer ao xs cap w hx hao hl)
  have HX := hid hx
  clear hx
  have hwl := hid (fun (ao : Option Addr) (xs : List ByteArray) (cap : Nat) W (h : RowAt W ao (strs' xs)) => wire_Leaves ao xs cap W h)
  have hrl := hid (fun (ao : Option Addr) (xs : List ByteArray) (cap : Nat) W (h : RowAt W ao (strs' xs)) => ref11_Leaves ao xs cap W h)
  have hnum := hid law_num
  go_enter Try.func4, Try.ntmps4
  go_wp2_with fail
  refine hlonger.out.mono ?_
  rintro e w1 ⟨v, rfl, hown, b1⟩
  obtain ⟨g, cap1, rfl, hbg, hcap, hcap2, hglt, hfz, hcells⟩ := own_form hown (by simp [strs'])
  have HFZ := hid hfz
  have hlen : (strs' (xs ++ [behind])).length = xs.length + 1 := by simp [strs']
  rw [hlen] at hcap hown
  have hrow : RowAt w1 (some ⟨g, 0, none⟩) (strs' (xs ++ [behind])) := .inr ⟨g, 0, rfl, fun i hi => by simpa using hcells i hi⟩
  have HR1 := hid hrow; have B1 := hid b1; have HO1 := hid hown
  rw [hlen]
  clear hown hfz hcells hrow b1
  go_wp2_with fail
  refine (hwl.out (some ⟨g, 0, none⟩) xs cap1 _ HR1.out.front).mono ?_
  rintro e w2 ⟨rfl, b2⟩
  have HR2 := hid (HR1.out.below b2); have B2 := hid (Below.then B1.out B1.out.size b2)
  have HO2 := hid (own_below HO1.out b2)
  have HX2 := hid (HX.out.below B2.out)
  clear b2 HR1 HO1 B1
  obtain ⟨⟨r, c⟩, hr⟩ : ∃ p, p = leavesR xs := ⟨_, rfl⟩
  rw [← hr]
  unfold strErr
  simp only
  have HRR := hid hr
  clear hr
  go_wp2_with fail
  refine (hrl.out ao xs cap _ HX2.out).mono ?_
  rintro e w3 ⟨rfl, b3⟩
  have HR3 := hid (HR2.out.below b3); have B3 := hid (Below.then B2.out B2.out.size b3)
  have HO3 := hid (own_below HO2.out b3)
  have HX3 := hid (HX.out.below B3.out)
  clear b3 HR2 HO2 B2 HX2
  rw [← HRR.out]
  unfold strErr
  simp only
  have hkept := hid (law_kept g ao xs cap1 cap w3 (by omega) hcap HR3.out HX3.out)
  go_wp2_with (first | (go_at_call 13; refine (hnum.out _ _).mono ?_; rintro e w' ⟨rfl, rfl⟩) | fail)
  refine hkept.out.mono ?_
  rintro e w4 ⟨rfl, b4⟩
  have HR4 := hid (HR3.out.below b4); have B4 := hid (Below.then B3.out B3.out.size b4)
  have HO4 := hid (own_below HO3.out b4)
  clear b4 HR3 HO3 B3 HX3
  have hun := hid (wire_UnLeaves s hs w4)
  go_wp2_with fail
  refine hun.out.mono ?_
  rintro e w5 ⟨v5, rfl, hown5, b5⟩
  obtain ⟨ao5, cap5, rfl, hl5, hc5⟩ := own_row hown5
  have HC5 : Hid (RowAt w5 ao5 (strs' (unLeaves s).1)) := hid hc5
  have HR5 := hid (HR4.out.below b5); have B5 := hid (Below.then B4.out B4.out.size b5)
  have HO5 := hid (own_below HO4.out b5)
  clear b5 HR4 HO4 B4 hown5 hl5 hc5 hun
  have hrun := hid (ref11_UnLeaves s hs w5)
  go_wp2_with fail
  refine hrun.out.mono ?_
  rintro e w6 ⟨v6, rfl, hown6, b6⟩
  obtain ⟨ao6, cap6, rfl, hl6, hc6⟩ := own_row hown6
  have HC6 : Hid (RowAt w6 ao6 (strs' (unLeaves s).1)) := hid hc6
  have HC56 := hid (HC5.out.below b6)
  have HR6 := hid (HR5.out.below b6); have B6 := hid (Below.then B5.out B5.out.size b6)
  have HO6 := hid (own_below HO5.out b6)
  clear b6 HR5 HO5 B5 hown6 hl6 hc6 hrun HC5
  obtain ⟨zs, hzs⟩ : ∃ zs, zs = (unLeaves s).1 := ⟨_, rfl⟩
  obtain ⟨zc, hzc⟩ : ∃ zc, zc = (unLeaves s).2 := ⟨_, rfl⟩
  have hzl : zs.length ≤ 1024 := by rw [hzs]; exact unLeaves_len s
  rw [← hzs] at HC6 HC56
  rw [← hzs, ← hzc, strs'_length]
  clear hzs hzc
  have hsame := hid (law_same ao5 ao6 zs cap5 cap6 w6 (by omega) HC56.out HC6.out)
  go_wp2_with fail
  refine hsame.out.mono ?_
  rintro e w7 ⟨rfl, b7⟩
  have HR7 := hid (HR6.out.below b7); have B7 := hid (Below.then B6.out B6.out.size b7)
  have HO7 := hid (own_below HO6.out b7)
  clear b7 HR6 HO6 B6 HC6 HC56 hsame
  by_cases h0 : xs.length = 0
  · have h0' : ((xs.length : Int) == 0) = true := by rw [h0]; rfl
    go_wp2_with (first | (go_at_call 13; refine (hnum.out _ _).mono ?_; rintro e w' ⟨rfl, rfl⟩) | fail)
    go_ret
    exact ⟨rfl, B7.out⟩
  · have h0' : ((xs.length : Int) == 0) = false := beq_eq_false_iff_ne.2 (by omega)
    go_wp2_with (first | (go_at_call 13; refine (hnum.out _ _).mono ?_; rintro e w' ⟨rfl, rfl⟩) | fail)
    refine (hwl.out (some ⟨g, 0, none⟩) xs cap1 _ HR7.out.front).mono ?_
    rintro e w8 ⟨rfl, b8⟩
    have B8 := hid (Below.then B7.out B7.out.size b8)
    obtain ⟨g', cap', hgc, _, _, _, hglt8, hfz8, hcells8⟩ := own_form (own_below HO7.out b8) (by simp [strs'])
    rw [hlen] at hgc
    obtain ⟨rfl, rfl⟩ : g' = g ∧ cap' = cap1 := by cases hgc; exact ⟨rfl, rfl⟩
    have hfz0 := hfz8 0
    have hrow8 : ∀ i (hi : i < xs.length), w8.cell? ⟨g', i, none⟩ = some (.string xs[i]) := by
      intro i hi
      rw [hcells8 i (by simp [strs']; omega)]
      simp [strs', List.getElem_append_left, hi]
    have HROW := hid hrow8
    clear b8 HR7 HO7 B7 hfz8 hcells8 hgc hrow8
    rw [← HRR.out]
    unfold strErr
    simp only
    have hc0 := HROW.out 0 (by omega)
    have HC0 := hid hc0
    obtain ⟨x0, hx0⟩ : ∃ x, x = xs[0]'(by omega) := ⟨_, rfl⟩
    rw [← hx0] at hc0
    clear hx0
    go_wp2_with fail
    have hother : ∃ ys : List ByteArray, ys.length = xs.length ∧ RowAt (w8.setCell ⟨g', 0, none⟩ (.string ⟨#[97, 110, 111, 116, 104, 101, 114, 32, 108, 101, 97, 102]⟩)) (some ⟨g', 0, none⟩) (strs' ys) := by
      refine ⟨xs.set 0 ⟨#[97, 110, 111, 116, 104, 101, 114, 32, 108, 101, 97, 102]⟩, by simp, .inr ⟨g', 0, rfl, fun i hi => ?_⟩⟩
      have hi' : i < xs.length := by simpa [strs'] using hi
      rcases Nat.eq_zero_or_pos i with rfl | hi0
      · rw [World.cell?_setCell_same _ _ _ HC0.out]; simp [strs']
      · rw [Nat.zero_add, World.cell?_setCell_other _ _ _ _ (by intro e; cases e; omega), HROW.out i hi']
        have h0i : 0 ≠ i := by omega
        simp [strs', List.getElem_set, h0i]
    obtain ⟨ys, hyl, hys⟩ := hother
    rw [← hyl]
    have HYS := hid hys
    clear hys HROW HC0
    have hby : Below w.heap.size w (w8.setCell ⟨g', 0, none⟩ (.string ⟨#[97, 110, 111, 116, 104, 101, 114, 32, 108, 101, 97, 102]⟩)) := B8.out.setCell hbg _
    have HBY := hid hby
    clear hby
    refine (hwl.out (some ⟨g', 0, none⟩) ys cap' _ HYS.out).mono ?_
    rintro e w9 ⟨rfl, b9⟩
    have HY9 := hid (HYS.out.below b9)
    have B9 := hid (Below.then HBY.out HBY.out.size b9)
    clear b9 HYS B8 HBY
    obtain ⟨⟨r2, c2⟩, hr2⟩ : ∃ p, p = leavesR ys := ⟨_, rfl⟩
    rw [← hr2]
    unfold strErr
    simp only
    have HR2 := hid hr2
    clear hr2
    go_wp2_with fail
    rw [← hyl]
    refine (hrl.out (some ⟨g', 0, none⟩) ys cap' _ HY9.out).mono ?_
    rintro e w10 ⟨rfl, b10⟩
    have B10 := hid (Below.then B9.out B9.out.size b10)
    clear b10 HY9 B9
    rw [← HR2.out]
    unfold strErr
    simp only
    go_wp2_with (first | (go_at_call 13; refine (hnum.out _ _).mono ?_; rintro e w' ⟨rfl, rfl⟩) | fail)
    go_ret
    exact ⟨rfl, B10.out⟩
end Go.Proofs.Ytmihgnjifmkaaaa
