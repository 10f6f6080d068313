/- Walk of a source's Node: what is asked is kept, and the ask of one number is refused. -/
import Derived.Test.YtaaldkkfedinpaaDoorSrc2
import Derived.Deep.DeepCutAuto
set_option maxRecDepth 100000
namespace Go.Proofs.YtaaldkkfedinpaaDoor
open Go Go.RowKit

theorem info_addr : (Tryd.prog.info? 84).map (fun i => (i.zero, i.size, i.bytes)) = some (some (.agg #[.int .i64 0, .int .i64 0]), 2, 16) := by kernel_rfl
section
variable {B p : Nat} {s : Src} {lv v : Value} {asked : List (Int × Int)} {W : World}
theorem SrcM.put (h : SrcM B p s lv v asked W) {g cap : Nat} {w1 : World} {l i : Int} (hown : w1.ownsRow B 84 2 (.slice (some ⟨g, 0, none⟩) (asked.length + 1) cap) (asked.length + 1) (askV asked ++ [.int .i64 l, .int .i64 i]))
    (hg : W.grownBy w1 v.ownBlock) (hor : v.ownBlock = some g ∨ W.heap.size ≤ g) :
    (SrcM B p s lv (.slice (some ⟨g, 0, none⟩) (asked.length + 1) cap) (asked ++ [(l, i)]) (w1.setCell ⟨p, 6, none⟩ (.slice (some ⟨g, 0, none⟩) (asked.length + 1) cap)) ∧
      SStep p v W (.slice (some ⟨g, 0, none⟩) (asked.length + 1) cap) (w1.setCell ⟨p, 6, none⟩ (.slice (some ⟨g, 0, none⟩) (asked.length + 1) cap))) ∧ w1.cell? ⟨p, 6, none⟩ = some v ∧ w1.frozen? ⟨p, 6, none⟩ = false := by
  have hp : some p ≠ v.ownBlock := fun e => h.ne2 p e.symm rfl
  have hbp := hg.block p h.lt hp
  have hc := fun {j : Nat} {u : Value} (hc : W.cell? ⟨p, j, none⟩ = some u) => (World.cell?_of_block (w := W) hbp).trans hc
  have hgp : g ≠ p := by
    rcases hor with e | e
    · exact h.ne2 g e
    · have := h.lt; omega
  have hs : SStep p v W (.slice (some ⟨g, 0, none⟩) (asked.length + 1) cap) (w1.setCell ⟨p, 6, none⟩ (.slice (some ⟨g, 0, none⟩) (asked.length + 1) cap)) := by
    refine ⟨hg.os, hg.tape, hg.output, by simpa using hg.size, fun b hb hp2 hv => ?_, ?_⟩
    · exact (Below.heap_setCell w1 ⟨p, 6, none⟩ _ b hp2).trans (hg.block b hb (fun e => hv e.symm))
    · rcases hor with e | e
      · left; rw [e]; rfl
      · right; intro q hq; simp [Value.ownBlock] at hq; omega
  have hk := fun {j : Nat} {u : Value} (hj : j ≠ 6) (h0 : W.cell? ⟨p, j, none⟩ = some u) => (show (w1.setCell ⟨p, 6, none⟩ (.slice (some ⟨g, 0, none⟩) (asked.length + 1) cap)).cell? ⟨p, j, none⟩ = some u by
    rw [World.cell?_setCell_other _ _ _ _ (by intro e; cases e; exact hj rfl)]; exact hc h0)
  refine ⟨⟨⟨hk (by decide) h.c0, hk (by decide) h.c1, hk (by decide) h.c2, hk (by decide) h.c3, hk (by decide) h.c4, hk (by decide) h.c5, World.cell?_setCell_same _ _ _ (hc h.c6), fun j => ?_, ?_, ?_, h.le, h.ne1, ?_, h.sz⟩, hs⟩, hc h.c6, ?_⟩
  · have := (World.frozen?_of_block (w := W) (a := ⟨p, j, none⟩) hbp).trans (h.fz j)
    simpa using this
  · exact hs.own h.lown (fun q hq => ⟨h.ne1 q hq, fun e => own_off h.lown h.vown (by decide) hq e⟩)
  · rw [askV_add, List.length_append]
    have hgr : w1.grownBy (w1.setCell ⟨p, 6, none⟩ (.slice (some ⟨g, 0, none⟩) (asked.length + 1) cap)) (some p) := ⟨rfl, rfl, rfl, by simp, fun q _ hne => Below.heap_setCell w1 ⟨p, 6, none⟩ _ q (fun e => hne (by rw [e]))⟩
    exact World.ownsRow.kept hown hgr (.inr (by simp [Value.ownBlock]; exact hgp))
  · intro q hq; simp [Value.ownBlock] at hq; omega
  · exact (World.frozen?_of_block (w := W) (a := ⟨p, 6, none⟩) hbp).trans (h.fz 6)
end
/-- Look, of any source. -/
theorem src_lookG (B p : Nat) (s : Src) (lv v : Value) (asked : List (Int × Int)) (l i : Int) (W : World) (hz : ∀ x ∈ s.leaves, x.size ≤ 1048576) (hl : s.leaves.length ≤ 1048576) (h : SrcM B p s lv v asked W) (hg : GlobR W) (ht : TabP W) :
    Calls Tryd.prog 92 #[.pointer (some ⟨p, 0, none⟩), .agg #[.int .i64 l, .int .i64 i]] W fun e w' => e = .returned (saidV (lookG s l i)) ∧ Below W.heap.size W w' := by
  cases hm : s.made with
  | true => exact src_look_made s p l i W hm h.c0 h.c1 (by rw [← hm]; exact h.c3) hg ht
  | false =>
    obtain ⟨ao, cap, rfl, hs⟩ := h.at hg hm
    rw [lookG_plain s hm (h.sz hm)]
    exact src_look s.k ao s.leaves cap p hz (by omega) l i W hs
theorem lookG_size (s : Src) (hz : ∀ x ∈ s.leaves, x.size ≤ 1048576) (l i : Int) : (lookG s l i).1.size ≤ 1048576 := by
  unfold lookG
  split
  · exact Nat.zero_le _
  · split
    · exact Nat.zero_le _
    · split
      · have h1 := cutS_size (nodeText l i).data.toList s.k
        have h2 := (wid_le s.k).1
        simp only
        omega
      · exact nodeAt_size s.k s.leaves 1048576 (by decide) hz _ _
theorem nodeG_size (s : Src) (hz : ∀ x ∈ s.leaves, x.size ≤ 1048576) (n : Nat) (l i : Int) : (nodeG s n l i).1.size ≤ 1048576 := by
  have h := lookG_size s hz l i
  unfold nodeG
  split
  · exact h
  · split
    · exact Nat.zero_le _
    · split
      · show (1 : Nat) ≤ _; omega
      · simp only [ByteArray.size_extract]; omega
set_option maxHeartbeats 4000000 in
theorem src_Node (B p : Nat) (s : Src) (lv v : Value) (asked : List (Int × Int)) (l i : Int) (w w0 : World) (hz : ∀ x ∈ s.leaves, x.size ≤ 1048576) (hl : s.leaves.length ≤ 1048576) (ha : asked.length ≤ 1048576000) (hM : SrcM B p s lv v asked w)
    (hg : GlobR w0) (ht : TabP w0) (hb : Below w0.heap.size w0 w) (hB : w0.heap.size ≤ B) :
    Calls Tryd.prog 72 #[.pointer (some ⟨p, 0, none⟩), .agg #[.int .i64 l, .int .i64 i]] w fun e w' => ∃ v', e = .returned (saidV (nodeG s (asked.length + 1) l i)) ∧ SrcM B p s lv v' (asked ++ [(l, i)]) w' ∧ SStep p v w v' w' := by
  have hsz := lookG_size s hz l i
  have HG := hid hg
  have HT := hid ht
  have HZ := hid hz
  have b0 := (Below.refl w.heap.size w).alloc (Nat.le_refl _) (.cells #[.int .i64 l, .int .i64 i] 84)
  obtain ⟨W, hW⟩ : ∃ W, w.alloc (.cells #[.int .i64 l, .int .i64 i] 84) = W := ⟨_, rfl⟩
  have q0 : W.cell? ⟨w.heap.size, 0, none⟩ = some (.int .i64 l) := by rw [← hW]; simp [go_sem]
  have q1 : W.cell? ⟨w.heap.size, 1, none⟩ = some (.int .i64 i) := by rw [← hW]; simp [go_sem]
  have hsW : w.heap.size < W.heap.size := by rw [← hW]; simp
  rw [hW] at b0
  have M0 := hM.below b0
  have k6 := M0.c6
  have hBW : B ≤ W.heap.size := by have := M0.le; have := M0.lt; omega
  have S0 := hid (SStep.of (p := p) (v := v) b0)
  have BW := hid (Below.then' hb b0)
  have HM := hid M0
  have HW := hid hW
  have hvp := hM.ne2
  have hplt := hM.lt
  have hwp : w.heap.size ≠ p := by omega
  have hvw : ∀ q, v.ownBlock = some q → q < w.heap.size := fun q hq => (hM.vown.lt q hq).2
  have HVW := hid hvw
  clear b0 hW M0 hM hb hg ht hz hvp hvw
  have aa : ∀ o, Below W.heap.size W (W.alloc o).drew := fun o => ((Below.refl W.heap.size W).alloc (Nat.le_refl _) o).drew
  have ha6 : ∀ o, (W.alloc o).drew.cell? ⟨p, 6, none⟩ = some v := fun o => ((aa o).cell (World.block_lt_of_cell? _ _ k6)).trans k6
  have ha0 : ∀ o, (W.alloc o).drew.cell? ⟨w.heap.size, 0, none⟩ = some (.int .i64 l) := fun o => ((aa o).cell hsW).trans q0
  have ha1 : ∀ o, (W.alloc o).drew.cell? ⟨w.heap.size, 1, none⟩ = some (.int .i64 i) := fun o => ((aa o).cell hsW).trans q1
  go_enter Tryd.func72, Tryd.ntmps72
  go_upto_region 1 with fail
  rw [HW.out]
  clear HW
  go_cut [] (fun wc => ∃ v', SrcM B p s lv v' (asked ++ [(l, i)]) wc ∧ SStep p v W v' wc)
  case first =>
    go_region_law (first
      | (refine step_append_two B (by rfl) (.tmp 12) (.tmp 14) 37 84 (.agg #[.int .i64 0, .int .i64 0]) 2 16 (by rfl) Tryd.underlying37 info_addr rfl (by decide) (by decide) v asked.length (askV asked) [.int .i64 l, .int .i64 i] (by rfl) (by rfl) rfl (by simp [Value.oneCell']) (HM.out.vown) hBW (by omega) ?_
         intro g cap w1 hown1 hg1 hor1
         obtain ⟨hput, hc6, hf6⟩ := HM.out.put hown1 hg1 hor1
         have HP := hid hput
         clear hown1 hg1 hor1 hput))
    all_goals
      go_wp2_with fail
      go_meet
      case rel => exact ⟨_, HP.out.1, HP.out.2⟩
  case rest =>
  obtain ⟨v', hM1, hS1⟩ := hcut
  have M1 := hid hM1
  have S1 := hid (S0.out.trans hS1)
  have BC := hid (Below.trans BW.out (hS1.below (A := w0.heap.size) (Nat.le_trans hB HM.out.le) (fun q hq => Nat.le_trans hB (HM.out.vown.lt q hq).1) BW.out.size))
  have q0 := hS1.cell q0 hwp (fun e => by have := HVW.out _ e; omega)
  have q1 := hS1.cell q1 hwp (fun e => by have := HVW.out _ e; omega)
  have hlk := hid (src_lookG B p s lv v' (asked ++ [(l, i)]) l i wc HZ.out hl M1.out (HG.out.below BC.out) (HT.out.below BC.out))
  clear hM1 hS1 aa ha6 ha0 ha1 k6 HM BW S0 HVW hsW hBW hwp
  go_wp2_with fail
  refine hlk.out.mono ?_
  clear hlk q0 q1
  rintro e w2 ⟨rfl, hb2⟩
  have M2 := hid (M1.out.below hb2)
  have S2 := hid (S1.out.trans (SStep.of hb2))
  clear hb2 M1 S1 BC
  have k6 := M2.out.c6
  have k4 := M2.out.c4
  have k5 := M2.out.c5
  have hlen : (asked ++ [(l, i)]).length = asked.length + 1 := by simp
  obtain ⟨ao, cap, e1⟩ := own_val M2.out.vown
  rw [e1, hlen] at k6
  obtain ⟨N, hN⟩ : ∃ N, N = asked.length + 1 := ⟨_, rfl⟩
  rw [← hN] at k6
  have HNN := hid hN
  have HD : Hid (∀ x y, lookG s l i = (x, y) → nodeG s N l i = if y ≠ 0 ∨ (N : Int) ≠ s.fails then (x, y) else if s.code ≠ 0 then (⟨#[]⟩, s.code) else if x.size = 0 then (⟨#[120]⟩, 0) else (x.extract 1 x.size, 0)) := by
    intro x y h; unfold nodeG; rw [h]
  obtain ⟨r, hr⟩ : ∃ r, r = lookG s l i := ⟨_, rfl⟩
  rw [← hr] at hsz HD ⊢
  obtain ⟨x, y⟩ := r
  have HN := hid (HD.out x y rfl)
  unfold saidV
  simp only at hsz ⊢
  clear hr HD hlen e1 hN ha hl hB hplt
  generalize s.fails = F at *
  generalize s.code = C at *
  by_cases hy : y = 0
  · subst hy
    by_cases hF : (N : Int) = F
    · by_cases hC : C = 0
      · subst hC
        by_cases hx : x.size = 0
        · have HR : Hid (nodeG s N l i = (⟨#[120]⟩, 0)) := by unfold Hid; rw [HN.out, if_neg (by simp [hF]), if_neg (by simp), if_pos hx]
          obtain rfl : x = ⟨#[]⟩ := ByteArray.ext (Array.eq_empty_of_size_eq_zero hx)
          have f1 : ((N : Int) == F) = true := beq_iff_eq.2 hF
          have f2 : decide ((N : Int) = F) = true := decide_eq_true hF
          clear hF
          go_wp2_with fail
          go_region
          go_wp2_with fail
          go_ret2
          exact ⟨v', by rw [← HNN.out, HR.out]; rfl, M2.out.below (by repeat' (first | exact Below.refl _ _ | apply Below.drew)), S2.out.trans (SStep.of (by repeat' (first | exact Below.refl _ _ | apply Below.drew)))⟩
        · have HR : Hid (nodeG s N l i = (x.extract 1 x.size, 0)) := by unfold Hid; rw [HN.out, if_neg (by simp [hF]), if_neg (by simp), if_neg hx]
          have hxe : x.toList.isEmpty = false := by
            rw [ByteArray.toList_eq, List.isEmpty_eq_false_iff]
            intro e
            exact hx (by have := congrArg List.length e; rw [Array.length_toList] at this; exact this)
          have hx1 : 1 ≤ x.size := by omega
          have f1 : ((N : Int) == F) = true := beq_iff_eq.2 hF
          have f2 : decide ((N : Int) = F) = true := decide_eq_true hF
          clear hF
          go_wp2_with fail
          go_region
          go_wp2_with fail
          go_ret2
          exact ⟨v', by rw [← HNN.out, HR.out]; rfl, M2.out.below (by repeat' (first | exact Below.refl _ _ | apply Below.drew)), S2.out.trans (SStep.of (by repeat' (first | exact Below.refl _ _ | apply Below.drew)))⟩
      · have HR : Hid (nodeG s N l i = (⟨#[]⟩, C)) := by unfold Hid; rw [HN.out, if_neg (by simp [hF]), if_pos hC]
        have hC1 : (C == 0) = false := beq_eq_false_iff_ne.2 hC
        have hC2 : decide (C = 0) = false := decide_eq_false hC
        have f1 : ((N : Int) == F) = true := beq_iff_eq.2 hF
        have f2 : decide ((N : Int) = F) = true := decide_eq_true hF
        clear hF
        go_wp2_with fail
        go_region
        go_wp2_with fail
        go_region
        go_wp2_with fail
        go_ret2
        exact ⟨v', by rw [← HNN.out, HR.out]; rfl, M2.out.below (by repeat' (first | exact Below.refl _ _ | apply Below.drew)), S2.out.trans (SStep.of (by repeat' (first | exact Below.refl _ _ | apply Below.drew)))⟩
    · have HR : Hid (nodeG s N l i = (x, 0)) := by unfold Hid; rw [HN.out, if_pos (.inr hF)]
      have f1 : ((N : Int) == F) = false := beq_eq_false_iff_ne.2 hF
      have f2 : decide ((N : Int) = F) = false := decide_eq_false hF
      go_wp2_with fail
      go_region
      go_wp2_with fail
      go_ret2
      exact ⟨v', by rw [← HNN.out, HR.out]; rfl, M2.out.below (by repeat' (first | exact Below.refl _ _ | apply Below.drew)), S2.out.trans (SStep.of (by repeat' (first | exact Below.refl _ _ | apply Below.drew)))⟩
  · have HR : Hid (nodeG s N l i = (x, y)) := by unfold Hid; rw [HN.out, if_pos (.inl hy)]
    have hy1 : (y == 0) = false := beq_eq_false_iff_ne.2 hy
    have hy2 : decide (y = 0) = false := decide_eq_false hy
    have hy3 : (y != 0) = true := by simp [bne, hy1]
    go_wp2_with fail
    go_region
    go_wp2_with fail
    go_ret2
    exact ⟨v', by rw [← HNN.out, HR.out]; rfl, M2.out.below (by repeat' (first | exact Below.refl _ _ | apply Below.drew)), S2.out.trans (SStep.of (by repeat' (first | exact Below.refl _ _ | apply Below.drew)))⟩
end Go.Proofs.YtaaldkkfedinpaaDoor
