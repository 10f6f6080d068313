/- The walk of annalslaw9.CheckMulti. -/
import Derived.Test.YtcgfeeommhljgaaDoorRange
import Derived.Test.YtcgfeeommhljgaaDoorCheckInclusionWalk
import Derived.Test.YtcgfeeommhljgaaDoorLaw9
set_option maxRecDepth 100000
namespace Go.Proofs.YtcgfeeommhljgaaDoor
open Go Go.RowKit

theorem Twin.row {w wt : World} {v : Value} {xs : List Int} (h : Twin w wt v xs) : ∃ ao cap, v = .slice ao xs.length cap ∧ RowAt wt ao (ints xs) := by
  obtain ⟨g, cap, hv, _, _, hc, _⟩ := h
  refine ⟨_, cap, hv, .inr ⟨g, 0, rfl, fun i hi => ?_⟩⟩
  rw [ints_length] at hi
  rw [ints_get xs i hi, Nat.zero_add, hc i (by simp; omega), List.getElem_append_left hi]
theorem Twin.below {w wt : World} {v : Value} {xs : List Int} (h : Twin w wt v xs) : Below w.heap.size w wt := by
  obtain ⟨_, _, _, _, _, _, hb⟩ := h
  exact hb
theorem count4 (n : Int) (xs : List Int) : countN 4 0 0 n xs = if n < 0 ∨ 4611686018427387904 < n then ((0 : Int), (80 : Int)) else if risingN xs n = 0 then (((outN (hasA xs) 0 n.toNat : Nat) : Int), 0) else (0, risingN xs n) := by
  unfold countN
  rw [if_neg (by omega)]
  rw [if_neg (show ¬ (4 : Int) = 1 by omega), if_neg (show ¬ (4 : Int) = 2 by omega), if_neg (show ¬ (4 : Int) = 3 by omega)]
theorem count4_ok (n : Int) (xs : List Int) (q1 : Int) (h : countN 4 0 0 n xs = (q1, 0)) : 0 < n ∧ n ≤ 4611686018427387904 ∧ Rises xs n ∧ q1 = (outN (hasA xs) 0 n.toNat : Nat) := by
  rw [count4] at h
  split at h
  · simp at h
  · split at h
    · rename_i h1 h2
      exact ⟨risingN_pos xs n h2, by omega, rises_of xs n h2, by simpa using (congrArg Prod.fst h).symm⟩
    · rename_i h1 h2
      have := congrArg Prod.snd h
      simp at this
      exact absurd this h2
/-- What Multi answers. -/
def multiN (k n : Int) (xs : List Int) (hashes proof : List ByteArray) (root : ByteArray) : Int :=
  if (countN 4 0 0 n xs).2 ≠ 0 then (countN 4 0 0 n xs).2 else if hashes.length ≠ xs.length then 71 else
  gathN k (hasA xs) n.toNat (countN 4 0 0 n xs).1 hashes proof root

set_option maxHeartbeats 600000 in
theorem check_Multi (k n : Int) (ai : Option Addr) (xs : List Int) (ci : Nat) (a1 : Option Addr) (hashes : List ByteArray) (c1 : Nat) (a2 : Option Addr) (proof : List ByteArray) (c2 : Nat) (root : ByteArray)
    (n1 : a1 = none → hashes.length = 0 ∧ c1 = 0) (n2 : a2 = none → proof.length = 0 ∧ c2 = 0) (hc1 : hashes.length ≤ c1) (hc2 : proof.length ≤ c2) (hlx : xs.length * 8 ≤ 140737488351232) (hl1 : hashes.length * 16 ≤ 140737488351232) (hl2 : proof.length * 16 ≤ 140737488351232)
    (w : World) (hx : RowAt w ai (ints xs)) (hr1 : RowAt w a1 (strs' hashes)) (hr2 : RowAt w a2 (strs' proof)) (hg : GlobP w) :
    Calls Tryd.prog 20 #[.int .i64 k, .int .i64 n, .slice ai xs.length ci, .slice a1 hashes.length c1, .slice a2 proof.length c2, .string root] w
      fun e w' => e = .returned (.int .i64 (multiN k n xs hashes proof root)) ∧ Below w.heap.size w w' := by
  have hcn := check_Count 4 0 0 n ai xs ci w hx (by omega)
  have HL : Hid (multiN k n xs hashes proof root = if (countN 4 0 0 n xs).2 ≠ 0 then (countN 4 0 0 n xs).2 else if hashes.length ≠ xs.length then 71 else
    gathN k (hasA xs) n.toNat (countN 4 0 0 n xs).1 hashes proof root) := rfl
  obtain ⟨r, hre⟩ : ∃ r, r = multiN k n xs hashes proof root := ⟨_, rfl⟩
  rw [← hre] at HL ⊢
  clear hre
  have hok := count4_ok n xs
  generalize countN 4 0 0 n xs = c at *
  obtain ⟨q1, q2⟩ := c
  unfold Counted countV at hcn
  simp only at hcn HL
  have HC := hid hcn
  clear hcn
  by_cases h0 : q2 = 0
  · subst h0
    obtain ⟨hn0, hn, hrise, hq⟩ := hok q1 rfl
    have hL1 := HL.out
    rw [if_neg (by simp)] at hL1
    clear HL hok
    by_cases hlen : hashes.length = xs.length
    · rw [if_neg (by simpa using hlen)] at hL1
      obtain ⟨n, rfl⟩ := Int.eq_ofNat_of_zero_le (show 0 ≤ n by omega)
      rw [Int.toNat_natCast] at hq hL1
      have hGa := fun (W1 : World) (hW : Below w.heap.size w W1) (H : Nat) (e : W1.heap.size = H) =>
        show Calls Tryd.prog 54 #[.int .i64 k, .int .i64 n, .func (.func 84) #[] #[.pointer (some ⟨H, 0, none⟩)], .int .i64 q1, .slice a1 hashes.length c1, .slice a2 proof.length c2, .string root] (W1.alloc (.cells #[.slice ai xs.length ci] 38)) fun e w' => e = .returned (.int .i64 (gathN k (hasA xs) n q1 hashes proof root)) ∧ Below w.heap.size w w' by
          subst e
          have hal := (Below.refl W1.heap.size W1).alloc (Nat.le_refl _) (.cells #[.slice ai xs.length ci] 38)
          have hW2 := Below.then' hW hal
          have := check_gathered k n (by omega) (by omega) 84 #[.pointer (some ⟨W1.heap.size, 0, none⟩)] (hasA xs) q1 a1 hashes c1 a2 proof c2 root n1 n2 hc1 hc2 hl1 hl2
            (by rw [leafA xs n hrise (by omega)]; omega) (by rw [hq, sideA _ _ _ (by omega)]) _ (hr1.below hW2) (hr2.below hW2) (hg.below hW2)
            (fun a b W => among_run _ a b W) (fun W h a b p1 p2 p3 => among_at ai xs ci a b _ W ((h.cell (by simp)).trans (by simp [go_sem])) ((hx.below hW2).below h) (by omega) p1 p2 p3)
          exact this.mono fun _ _ ⟨h1, h2⟩ => ⟨h1, Below.then' hW2 h2⟩
      rw [← hL1] at hGa
      have HGa := hid hGa
      have HAm := hid (fun W => check_among (.slice ai xs.length ci) W ⟨_, _, _, rfl⟩)
      have hlI : ((hashes.length : Int) != (xs.length : Int)) = false := by simp [hlen]
      clear hGa hL1 hq hr1 hr2 hg hrise hx hlen
      go_enter Tryd.func20, Tryd.ntmps20
      go_wp2_with fail
      refine (HC.out).mono ?_
      rintro e w1 ⟨rfl, hb1⟩
      have B1 := hid hb1
      clear hb1
      go_wp2_with fail
      refine (HAm.out _).mono ?_
      rintro e w' ⟨rfl, rfl⟩
      go_wp2_with fail
      refine (HGa.out _ B1.out _ rfl).mono ?_
      rintro e w3 ⟨rfl, hb3⟩
      have B3 := hid hb3
      clear hb3
      go_wp2_with fail
      go_ret
      exact ⟨rfl, B3.out⟩
    · rw [if_pos hlen] at hL1
      have HR := hid hL1
      have hlI : ((hashes.length : Int) != (xs.length : Int)) = true := by simp; omega
      clear hL1 hq hr1 hr2 hg hrise hx hlen
      go_enter Tryd.func20, Tryd.ntmps20
      go_wp2_with fail
      refine (HC.out).mono ?_
      rintro e w1 ⟨rfl, hb1⟩
      have B1 := hid hb1
      clear hb1
      go_wp2_with fail
      go_ret
      exact ⟨ret_int (by rw [HR.out]), B1.out⟩
  · have HR : Hid (r = q2) := by
      have := HL.out
      unfold Hid
      rw [this, if_pos h0]
    have hzb : (q2 == 0) = false := by simpa using h0
    have hzb2 : (q2 != 0) = true := by simpa using h0
    clear HL hr1 hr2 hg h0 hok hx
    go_enter Tryd.func20, Tryd.ntmps20
    go_wp2_with fail
    refine (HC.out).mono ?_
    rintro e w1 ⟨rfl, hb1⟩
    have B1 := hid hb1
    clear hb1
    go_wp2_with fail
    go_ret
    exact ⟨ret_int (by rw [HR.out]), B1.out⟩

set_option maxHeartbeats 600000 in
theorem ref_Multi (k n : Int) (ai : Option Addr) (xs : List Int) (ci : Nat) (a1 : Option Addr) (hashes : List ByteArray) (c1 : Nat) (a2 : Option Addr) (proof : List ByteArray) (c2 : Nat) (root : ByteArray)
    (n1 : a1 = none → hashes.length = 0 ∧ c1 = 0) (hlx : xs.length * 8 ≤ 140737488351232) (hl1 : hashes.length * 16 ≤ 140737488351232) (hl2 : proof.length * 16 ≤ 140737488351232)
    (w : World) (hx : RowAt w ai (ints xs)) (hr1 : RowAt w a1 (strs' hashes)) (hr2 : RowAt w a2 (strs' proof)) (hg : GlobR w) :
    Calls Tryd.prog 21 #[.int .i64 k, .int .i64 n, .slice ai xs.length ci, .slice a1 hashes.length c1, .slice a2 proof.length c2, .string root] w
      fun e w' => e = .returned (.int .i64 (multiN k n xs hashes proof root)) ∧ Below w.heap.size w w' := by
  have hcn := ref_Count 4 0 0 n ai xs ci w hx (by omega)
  rw [← count_same] at hcn
  have HL : Hid (multiN k n xs hashes proof root = if (countN 4 0 0 n xs).2 ≠ 0 then (countN 4 0 0 n xs).2 else if hashes.length ≠ xs.length then 71 else
    gathN k (hasA xs) n.toNat (countN 4 0 0 n xs).1 hashes proof root) := rfl
  obtain ⟨r, hre⟩ : ∃ r, r = multiN k n xs hashes proof root := ⟨_, rfl⟩
  rw [← hre] at HL ⊢
  clear hre
  have hok := count4_ok n xs
  generalize countN 4 0 0 n xs = c at *
  obtain ⟨q1, q2⟩ := c
  unfold Counted countV at hcn
  simp only at hcn HL
  have HC := hid hcn
  clear hcn
  by_cases h0 : q2 = 0
  · subst h0
    obtain ⟨hn0, hn, hrise, hq⟩ := hok q1 rfl
    have hL1 := HL.out
    rw [if_neg (by simp)] at hL1
    clear HL hok
    by_cases hlen : hashes.length = xs.length
    · rw [if_neg (by simpa using hlen)] at hL1
      have hlI : ((hashes.length : Int) != (xs.length : Int)) = false := by simp [hlen]
      obtain ⟨n, rfl⟩ := Int.eq_ofNat_of_zero_le (show 0 ≤ n by omega)
      rw [Int.toNat_natCast] at hq hL1
      have hln : (strs' ([root] ++ hashes)).length = 1 + hashes.length := by rw [strs'_length]; simp; omega
      have hst : [Value.string root] ++ strs' hashes = strs' ([root] ++ hashes) := by simp [strs']
      have hord := sized_order k q1 proof hashes root
      have HLk := hid (fun (W : World) (hW : Below w.heap.size w W) (g cap : Nat) (hrow : RowAt W (some ⟨g, 0, none⟩) (strs' ([root] ++ hashes))) => ref_looked k q1 a2 proof c2 (some ⟨g, 0, none⟩) ([root] ++ hashes) cap (by omega) (by simp; omega) W (hr2.below hW) hrow)
      rw [show [root] ++ hashes = root :: hashes from rfl] at HLk hst hln
      rw [hord] at HLk
      have HRow1 := hid (fun W (h : Below w.heap.size w W) => hr1.below h)
      unfold gathN at hL1
      have hsd := sideA xs 0 n (by omega)
      have hlf := leafA xs n hrise (by omega)
      have hall := inside_all xs n hrise
      obtain ⟨rh, hrh⟩ : ∃ l, l = root :: hashes := ⟨_, rfl⟩
      rw [← hrh] at HLk hst hln
      have HS := hid hst
      clear hst hrh hord
      by_cases hsz : sizedN k q1 proof (hashes ++ [root]) = 0
      · obtain ⟨hf1, hf2, hpl⟩ := sized_zero hsz
        have hw := (wid_le k).1
        rw [hsz, if_neg (by simp)] at hL1
        rw [hsz] at HLk
        have hf3 : fits (wid k) hashes := ((fits_app _ _ _).1 hf1).1
        have HRg := hid (fun (W : World) (hW : Below w.heap.size w W) (H : Nat) (e : W.heap.size = H) =>
          show Calls Tryd.prog 55 #[.int .i64 (wid k), .int .i64 0, .int .i64 n, .slice ai xs.length ci, .pointer (some ⟨H, 0, none⟩)] (W.alloc (.cells #[.slice a2 proof.length c2, .int .i64 0, .slice a1 hashes.length c1, .int .i64 0] 83)) fun e w' => e = .returned (.string (reckS k (hasA xs) hashes proof 0 n 0 0)) ∧ Below w.heap.size w w' by
            subst e
            have ht := rtaken_new W a2 a1 proof hashes c2 c1 (hr2.below hW) (hr1.below hW) 83
            have hgW := hg.below hW
            have hal := (Below.refl W.heap.size W).alloc (Nat.le_refl _) (.cells #[.slice a2 proof.length c2, .int .i64 0, .slice a1 hashes.length c1, .int .i64 0] 83)
            have hro : RowOff W.heap.size (W.alloc (.cells #[.slice a2 proof.length c2, .int .i64 0, .slice a1 hashes.length c1, .int .i64 0] 83)) ai (ints xs) := by
              rcases RowOff.of (tb := W.heap.size) (hx.below hW) (Nat.le_refl _) with h | ⟨b, off, e, hb, hc⟩
              · exact .inl h
              · exact .inr ⟨b, off, e, hb, fun i hi => (hal.cell (World.block_lt_of_cell? W _ (hc i hi))).trans (hc i hi)⟩
            have := ref_gathered (wid k) xs n hrise (by omega) proof hashes (fun x hx => by rw [hf2 x hx]; exact hw) (fun x hx => by rw [hf3 x hx]; exact hw) (by omega) (by omega) W.heap.size W.heap.size (Nat.ne_of_gt hgW.at1) (Nat.ne_of_gt hgW.at2) n 0 n 0 0 (by omega) (by omega) (by omega) (by rw [hsd]; omega) (by omega) _ ai ci ht (hgW.below hal) (by rw [show ((0 : Nat) : Int) = 0 from rfl, hall]; exact hro)
            rw [reckS_wid k _ _ _ n 0 n 0 0 (by omega)] at this
            rw [show ((0 : Nat) : Int) = 0 from rfl, hall] at this
            exact this.mono fun _ _ ⟨h1, _, h3⟩ => ⟨h1, below_grown (Below.then' hW hal) (Nat.le_trans hW.size hal.size) hW.size h3⟩)
        clear hsd hlf hsz hf1 hf2 hf3 hq hr1 hr2 hg hpl hrise hx hall hlen
        obtain ⟨q, hqq⟩ : ∃ q, q = reckS k (hasA xs) hashes proof 0 n 0 0 := ⟨_, rfl⟩
        rw [← hqq] at HRg hL1
        clear hqq
        by_cases hqr : q = root
        · rw [if_pos hqr] at hL1
          rw [hqr] at HRg
          have HR := hid hL1
          clear hqr hL1
          go_enter Tryd.func21, Tryd.ntmps21
          go_wp2_with fail
          refine (HC.out).mono ?_
          rintro e w1 ⟨rfl, hb1⟩
          have B1 := hid hb1
          clear hb1
          go_wp2_with fail
          refine (ref_width k _).mono ?_
          rintro e w' ⟨rfl, rfl⟩
          have BA := hid (B1.out.alloc B1.out.size (.cells #[.string root] 9))
          have HO := hid (own_new w1 (.string root) 9 rfl)
          go_wp2_with (at_builtin; refine wp_append_all w1.heap.size rfl (.tmp 36) (.tmp 37) 22 9 (.string ⟨#[]⟩) 16 rfl Tryd.underlying22 info_str rfl (by omega) _ [.string root] (strs' hashes) a1 hashes.length c1 rfl rfl (strs'_length hashes) (strs_one hashes) (HRow1.out _ BA.out) n1 HO.out (by simp) (by simp; omega) ?_; intro v1 w2 hown hb2; rw [HS.out] at hown; have B2 := hid (BA.out.trans (hb2.mono B1.out.size)); obtain ⟨g, cap, rfl, _, _, _, _, _, hcell⟩ := own_form hown (by omega); have HRW := hid (show RowAt w2 (some ⟨g, 0, none⟩) (strs' rh) from .inr ⟨g, 0, rfl, fun i hi => by rw [Nat.zero_add]; exact hcell i hi⟩); rw [strs'_length]; clear hown hb2 hcell)
          refine (HLk.out _ B2.out _ _ HRW.out).mono ?_
          rintro e w' ⟨rfl, rfl⟩
          go_wp2_with fail
          refine (HRg.out _ B2.out _ rfl).mono ?_
          rintro e w4 ⟨rfl, hb4⟩
          have B4 := hid hb4
          clear hb4
          go_wp2_with fail
          go_ret
          exact ⟨ret_int (by rw [HR.out]), B4.out⟩
        · rw [if_neg hqr] at hL1
          have hb := str_ne hqr
          have HR := hid hL1
          clear hqr hL1
          go_enter Tryd.func21, Tryd.ntmps21
          go_wp2_with fail
          refine (HC.out).mono ?_
          rintro e w1 ⟨rfl, hb1⟩
          have B1 := hid hb1
          clear hb1
          go_wp2_with fail
          refine (ref_width k _).mono ?_
          rintro e w' ⟨rfl, rfl⟩
          have BA := hid (B1.out.alloc B1.out.size (.cells #[.string root] 9))
          have HO := hid (own_new w1 (.string root) 9 rfl)
          go_wp2_with (at_builtin; refine wp_append_all w1.heap.size rfl (.tmp 36) (.tmp 37) 22 9 (.string ⟨#[]⟩) 16 rfl Tryd.underlying22 info_str rfl (by omega) _ [.string root] (strs' hashes) a1 hashes.length c1 rfl rfl (strs'_length hashes) (strs_one hashes) (HRow1.out _ BA.out) n1 HO.out (by simp) (by simp; omega) ?_; intro v1 w2 hown hb2; rw [HS.out] at hown; have B2 := hid (BA.out.trans (hb2.mono B1.out.size)); obtain ⟨g, cap, rfl, _, _, _, _, _, hcell⟩ := own_form hown (by omega); have HRW := hid (show RowAt w2 (some ⟨g, 0, none⟩) (strs' rh) from .inr ⟨g, 0, rfl, fun i hi => by rw [Nat.zero_add]; exact hcell i hi⟩); rw [strs'_length]; clear hown hb2 hcell)
          refine (HLk.out _ B2.out _ _ HRW.out).mono ?_
          rintro e w' ⟨rfl, rfl⟩
          go_wp2_with fail
          refine (HRg.out _ B2.out _ rfl).mono ?_
          rintro e w4 ⟨rfl, hb4⟩
          have B4 := hid hb4
          clear hb4
          go_wp2_with fail
          go_ret
          exact ⟨ret_int (by rw [HR.out]), B4.out⟩
      · rw [if_pos hsz] at hL1
        have HR := hid hL1
        clear hsd hlf hq hr1 hr2 hg hL1 hrise hx hall hlen
        obtain ⟨z, hz⟩ : ∃ z, z = sizedN k q1 proof (hashes ++ [root]) := ⟨_, rfl⟩
        rw [← hz] at HLk HR hsz
        have hzb : (z == 0) = false := by simpa using hsz
        have hzb2 : (z != 0) = true := by simpa using hsz
        clear hz hsz
        go_enter Tryd.func21, Tryd.ntmps21
        go_wp2_with fail
        refine (HC.out).mono ?_
        rintro e w1 ⟨rfl, hb1⟩
        have B1 := hid hb1
        clear hb1
        go_wp2_with fail
        refine (ref_width k _).mono ?_
        rintro e w' ⟨rfl, rfl⟩
        have BA := hid (B1.out.alloc B1.out.size (.cells #[.string root] 9))
        have HO := hid (own_new w1 (.string root) 9 rfl)
        go_wp2_with (at_builtin; refine wp_append_all w1.heap.size rfl (.tmp 36) (.tmp 37) 22 9 (.string ⟨#[]⟩) 16 rfl Tryd.underlying22 info_str rfl (by omega) _ [.string root] (strs' hashes) a1 hashes.length c1 rfl rfl (strs'_length hashes) (strs_one hashes) (HRow1.out _ BA.out) n1 HO.out (by simp) (by simp; omega) ?_; intro v1 w2 hown hb2; rw [HS.out] at hown; have B2 := hid (BA.out.trans (hb2.mono B1.out.size)); obtain ⟨g, cap, rfl, _, _, _, _, _, hcell⟩ := own_form hown (by omega); have HRW := hid (show RowAt w2 (some ⟨g, 0, none⟩) (strs' rh) from .inr ⟨g, 0, rfl, fun i hi => by rw [Nat.zero_add]; exact hcell i hi⟩); rw [strs'_length]; clear hown hb2 hcell)
        refine (HLk.out _ B2.out _ _ HRW.out).mono ?_
        rintro e w' ⟨rfl, rfl⟩
        go_wp2_with fail
        go_ret
        exact ⟨ret_int (by rw [HR.out]), B2.out⟩
    · rw [if_pos hlen] at hL1
      have HR := hid hL1
      have hlI : ((hashes.length : Int) != (xs.length : Int)) = true := by simp; omega
      clear hL1 hq hr1 hr2 hg hrise hx hlen
      go_enter Tryd.func21, Tryd.ntmps21
      go_wp2_with fail
      refine (HC.out).mono ?_
      rintro e w1 ⟨rfl, hb1⟩
      have B1 := hid hb1
      clear hb1
      go_wp2_with fail
      go_ret
      exact ⟨ret_int (by rw [HR.out]), B1.out⟩
  · have HR : Hid (r = q2) := by
      have := HL.out
      unfold Hid
      rw [this, if_pos h0]
    have hzb : (q2 == 0) = false := by simpa using h0
    have hzb2 : (q2 != 0) = true := by simpa using h0
    clear HL hr1 hr2 hg h0 hok hx
    go_enter Tryd.func21, Tryd.ntmps21
    go_wp2_with fail
    refine (HC.out).mono ?_
    rintro e w1 ⟨rfl, hb1⟩
    have B1 := hid hb1
    clear hb1
    go_wp2_with fail
    go_ret
    exact ⟨ret_int (by rw [HR.out]), B1.out⟩
end Go.Proofs.YtcgfeeommhljgaaDoor
set_option maxRecDepth 100000
namespace Go.Proofs.YtcgfeeommhljgaaDoor
open Go Go.RowKit

theorem law_CheckMulti (k n : Int) (ai : Option Addr) (ps : List Int) (di : Nat) (a1 : Option Addr) (hs : List ByteArray) (d1 : Nat) (a2 : Option Addr) (xs : List ByteArray) (d2 : Nat) (root : ByteArray) (w : World) (_bk : -9223372036854775808 ≤ k ∧ k ≤ 9223372036854775807) (_bn : -9223372036854775808 ≤ n ∧ n ≤ 9223372036854775807)
    (hxi : RowAt w ai (ints ps)) (haoi : ai = none → ps.length = 0 ∧ di = 0) (hli : ps.length * 8 ≤ 140737488351232)
    (hx1 : RowAt w a1 (strs' hs)) (hao1 : a1 = none → hs.length = 0 ∧ d1 = 0) (hl1 : hs.length * 16 ≤ 140737488351232) (_hcap1 : hs.length ≤ d1) (hx2 : RowAt w a2 (strs' xs)) (hao2 : a2 = none → xs.length = 0 ∧ d2 = 0) (hl2 : xs.length * 16 ≤ 140737488351232) (_hcap2 : xs.length ≤ d2) (_sr : root.data.toList.length ≤ 140737488351232) (hg : GlobP w ∧ GlobR w) :
    Calls Tryd.prog 5 #[.int .i64 k, .int .i64 n, .slice ai ps.length di, .slice a1 hs.length d1, .slice a2 xs.length d2, .string root] w fun e w' => e = .returned (.bool true) ∧ Below w.heap.size w w' := by
  have p1 := hid (law_twin a1 hs d1 w hx1 hao1 hl1)
  have p2 := hid (fun W (hb : Below w.heap.size w W) => law_twin a2 xs d2 W (hx2.below hb) hao2 hl2)
  have p3 := hid (fun W (hb : Below w.heap.size w W) => law_places ai ps di W (hxi.below hb) haoi hli)
  have r2 := hid (fun W (hb : Below w.heap.size w W) => ref_Multi k n ai ps di a1 hs d1 a2 xs d2 root hao1 hli hl1 hl2 W (hxi.below hb) (hx1.below hb) (hx2.below hb) (hg.2.below hb))
  have s1 := hid (fun v w0 W wt (hv : TwinS w0 wt v hs) (hbt : Below wt.heap.size wt W) (hb : Below w.heap.size w W) => law_kept v w0 W a1 hs d1 wt hv hbt (hx1.below hb) hl1)
  have s2 := hid (fun v w0 W wt (hv : TwinS w0 wt v xs) (hbt : Below wt.heap.size wt W) (hb : Below w.heap.size w W) => law_kept v w0 W a2 xs d2 wt hv hbt (hx2.below hb) hl2)
  have s3 := hid (fun v w0 W wt (hv : Twin w0 wt v ps) (hbt : Below wt.heap.size wt W) (hb : Below w.heap.size w W) => law_still v w0 W ai ps di wt hv hbt (hxi.below hb) hli)
  have HG := hid hg.1
  obtain ⟨I, hI⟩ : ∃ I, I = multiN k n ps hs xs root := ⟨_, rfl⟩
  rw [← hI] at r2
  have HI := hid hI
  clear hx1 hx2 hao1 hao2 hxi haoi hg hI
  go_enter Tryd.func5, Tryd.ntmps5
  go_wp2_with fail
  refine (p1.out).mono ?_
  rintro e w1 ⟨v1, rfl, ht1⟩
  have HT1 := hid ht1
  obtain ⟨g1, e1, hv1, hcap1, hrow1⟩ := ht1.row
  have HR1 := hid hrow1
  clear hrow1 ht1
  subst hv1
  go_wp2_with fail
  refine (p2.out _ HT1.out.below).mono ?_
  rintro e w2 ⟨v2, rfl, ht2⟩
  have HT2 := hid ht2
  obtain ⟨g2, e2, hv2, hcap2, hrow2⟩ := ht2.row
  have HR2 := hid hrow2
  have HB2 := hid (Below.then' HT1.out.below ht2.below)
  clear hrow2 ht2
  subst hv2
  go_wp2_with fail
  refine (p3.out _ HB2.out).mono ?_
  rintro e w3 ⟨v3, rfl, ht3⟩
  have HT3 := hid ht3
  obtain ⟨ai3, e3, hv3, hrow3⟩ := ht3.row
  have hB3 := Below.then' HB2.out ht3.below
  have hB23 := ht3.below
  have c2 := hid (check_Multi k n ai3 ps e3 (some ⟨g1, 0, none⟩) hs e1 (some ⟨g2, 0, none⟩) xs e2 root (fun h => by cases h) (fun h => by cases h) hcap1 hcap2 hli hl1 hl2 w3 hrow3 (HR1.out.below (Below.then' HT2.out.below hB23)) (HR2.out.below hB23) (HG.out.below hB3))
  rw [← HI.out] at c2
  have HB3 := hid hB3
  have HB23 := hid hB23
  clear hrow3 ht3 hB3 hB23
  subst hv3
  go_wp2_with fail
  refine (c2.out).mono ?_
  rintro e w4 ⟨rfl, hb4⟩
  have B4 := hid hb4; clear hb4
  go_wp2_with fail
  refine (r2.out _ (Below.then' HB3.out B4.out)).mono ?_
  rintro e w5 ⟨rfl, hb5⟩
  have B5 := hid (Below.then' B4.out hb5); clear hb5
  go_wp2_with fail
  refine (s1.out _ _ _ _ HT1.out (Below.then' HT2.out.below (Below.then' HB23.out B5.out)) (Below.then' HB3.out B5.out)).mono ?_
  rintro e w6 ⟨rfl, hb6⟩
  have B6 := hid (Below.then' B5.out hb6); clear hb6
  go_wp2_with fail
  refine (s2.out _ _ _ _ HT2.out (Below.then' HB23.out B6.out) (Below.then' HB3.out B6.out)).mono ?_
  rintro e w7 ⟨rfl, hb7⟩
  have B7 := hid (Below.then' B6.out hb7); clear hb7
  go_wp2_with fail
  refine (s3.out _ _ _ _ HT3.out B7.out (Below.then' HB3.out B7.out)).mono ?_
  rintro e w8 ⟨rfl, hb8⟩
  have B8 := hid (Below.then' HB3.out (Below.then' B7.out hb8)); clear hb8
  go_wp2_with fail
  go_ret
  exact ⟨rfl, B8.out⟩
end Go.Proofs.YtcgfeeommhljgaaDoor
