/- check.Range and the reference's. -/
import Derived.Test.YtcgfeeommhljgaaDoorGathered
import Derived.Test.YtcgfeeommhljgaaDoorRefReck
set_option maxRecDepth 100000
namespace Go.Proofs.YtcgfeeommhljgaaDoor
open Go Go.RowKit

theorem count3 (a b n : Int) : countN 3 a b n [] = if n < 0 ∨ 4611686018427387904 < n then ((0 : Int), (80 : Int)) else if a < 0 ∨ b ≤ a ∨ n < b then (0, 81) else (((outN (hasB a.toNat b.toNat) 0 n.toNat : Nat) : Int), 0) := by
  unfold countN
  rw [if_neg (by omega)]
  rw [if_neg (show ¬ (3 : Int) = 1 by omega), if_neg (show ¬ (3 : Int) = 2 by omega), if_pos rfl]
theorem count3_hi (a b n : Int) (q : Nat) (h : (0 ≤ a → a ≤ n → n ≤ 4611686018427387904 → b = a + q)) (h2 : (a < 0 ∨ n < a) → n ≤ 4611686018427387904 → b = a ∨ b = a + q) : countN 3 a b n [] = countN 3 a (a + q) n [] := by
  rw [count3, count3]
  by_cases c1 : n < 0 ∨ 4611686018427387904 < n
  · rw [if_pos c1, if_pos c1]
  · rw [if_neg c1, if_neg c1]
    by_cases c2 : 0 ≤ a ∧ a ≤ n
    · rw [h c2.1 c2.2 (by omega)]
    · rw [if_pos (by have := h2 (by omega) (by omega); omega), if_pos (by omega)]
theorem count3_bad (a b n : Int) (h : ¬ (0 ≤ a ∧ a ≤ n ∧ n ≤ 4611686018427387904)) (hb : a ≤ b ∨ ¬ n ≤ 4611686018427387904) : (countN 3 a b n []).2 ≠ 0 := by
  rw [count3]
  split
  · simp
  · rw [if_pos (by omega)]; simp
/-- What Range answers. -/
def rangeN (k lo n : Int) (hashes proof : List ByteArray) (root : ByteArray) : Int :=
  if (countN 3 lo (lo + hashes.length) n []).2 ≠ 0 then (countN 3 lo (lo + hashes.length) n []).2 else
  gathN k (hasB lo.toNat (lo + hashes.length).toNat) n.toNat (countN 3 lo (lo + hashes.length) n []).1 hashes proof root

set_option maxHeartbeats 600000 in
theorem check_Range (k lo n : Int) (bl : -9223372036854775808 ≤ lo ∧ lo ≤ 9223372036854775807) (a1 : Option Addr) (hashes : List ByteArray) (c1 : Nat) (a2 : Option Addr) (proof : List ByteArray) (c2 : Nat) (root : ByteArray)
    (n1 : a1 = none → hashes.length = 0 ∧ c1 = 0) (n2 : a2 = none → proof.length = 0 ∧ c2 = 0) (hc1 : hashes.length ≤ c1) (hc2 : proof.length ≤ c2) (hl1 : hashes.length * 16 ≤ 140737488351232) (hl2 : proof.length * 16 ≤ 140737488351232)
    (w : World) (hr1 : RowAt w a1 (strs' hashes)) (hr2 : RowAt w a2 (strs' proof)) (hg : GlobP w) :
    Calls Tryd.prog 27 #[.int .i64 k, .int .i64 lo, .int .i64 n, .slice a1 hashes.length c1, .slice a2 proof.length c2, .string root] w
      fun e w' => e = .returned (.int .i64 (rangeN k lo n hashes proof root)) ∧ Below w.heap.size w w' := by
  have hcnt : ∀ X, Calls Tryd.prog 16 #[.int .i64 3, .int .i64 lo, .int .i64 X, .int .i64 n, .slice none 0 0] w (Counted (countN 3 lo X n []) w) := fun X => check_Count 3 lo X n none [] 0 w (.nil _ _) (by simp)
  have HL : Hid (rangeN k lo n hashes proof root = if (countN 3 lo (lo + hashes.length) n []).2 ≠ 0 then (countN 3 lo (lo + hashes.length) n []).2 else
    gathN k (hasB lo.toNat (lo + hashes.length).toNat) n.toNat (countN 3 lo (lo + hashes.length) n []).1 hashes proof root) := rfl
  obtain ⟨r, hre⟩ : ∃ r, r = rangeN k lo n hashes proof root := ⟨_, rfl⟩
  rw [← hre] at HL ⊢
  clear hre
  by_cases hok : 0 ≤ lo ∧ lo ≤ n ∧ n ≤ 4611686018427387904
  · obtain ⟨h1, h2, h3⟩ := hok
    have hcn := hcnt (lo + hashes.length)
    clear hcnt
    have h3' := count3 lo (lo + hashes.length) n
    generalize hc : countN 3 lo (lo + hashes.length) n [] = c at *
    obtain ⟨q1, q2⟩ := c
    unfold Counted countV at hcn
    simp only at hcn HL
    have HC := hid hcn
    clear hcn hc
    by_cases h0 : q2 = 0
    · subst h0
      rw [if_neg (by omega)] at h3'
      have hb : ¬ (lo < 0 ∨ lo + (hashes.length : Int) ≤ lo ∨ n < lo + (hashes.length : Int)) := by
        intro hb; rw [if_pos hb] at h3'; simp at h3'
      rw [if_neg hb] at h3'
      have hq : q1 = (outN (hasB lo.toNat (lo + hashes.length).toNat) 0 n.toNat : Nat) := by simpa using h3'
      have hL1 := HL.out
      rw [if_neg (by simp)] at hL1
      obtain ⟨hi, hhi⟩ : ∃ hi, hi = lo + (hashes.length : Int) := ⟨_, rfl⟩
      rw [← hhi] at HC hq hL1 hb
      obtain ⟨n, rfl⟩ := Int.eq_ofNat_of_zero_le (show 0 ≤ n by omega)
      rw [Int.toNat_natCast] at hq hL1
      have hGa := fun (W1 : World) (hW : Below w.heap.size w W1) (H H1 : Nat) (e : W1.heap.size = H) (e1 : W1.heap.size + 1 = H1) =>
        show Calls Tryd.prog 54 #[.int .i64 k, .int .i64 n, .func (.func 83) #[] #[.pointer (some ⟨H, 0, none⟩), .pointer (some ⟨H1, 0, none⟩)], .int .i64 q1, .slice a1 hashes.length c1, .slice a2 proof.length c2, .string root] ((W1.alloc (.cells #[.int .i64 lo] 3)).alloc (.cells #[.int .i64 hi] 3)) fun e w' => e = .returned (.int .i64 (gathN k (hasB lo.toNat hi.toNat) n q1 hashes proof root)) ∧ Below w.heap.size w w' by
          subst e; subst e1
          have hal := (Below.refl W1.heap.size W1).alloc (Nat.le_refl _) (.cells #[.int .i64 lo] 3)
          have hal2 := hal.alloc (by simp) (.cells #[.int .i64 hi] 3)
          have hW2 := Below.then' hW hal2
          have := check_gathered k n (by omega) (by omega) 83 #[.pointer (some ⟨W1.heap.size, 0, none⟩), .pointer (some ⟨W1.heap.size + 1, 0, none⟩)] (hasB lo.toNat hi.toNat) q1 a1 hashes c1 a2 proof c2 root n1 n2 hc1 hc2 hl1 hl2
            (by rw [leafB _ _ _ (by omega) (by omega)]; omega) (by rw [hq, sideB _ _ _ _ (by omega)]) _ (hr1.below hW2) (hr2.below hW2) (hg.below hW2)
            (fun a b W => between_run _ _ a b W) (fun W h a b p1 p2 p3 => between_at lo hi a b _ _ W ((h.cell (by simp; omega)).trans (by simp [go_sem])) ((h.cell (by simp)).trans (by simp [go_sem])) (by omega) (by omega) p1 (by omega))
          exact this.mono fun _ _ ⟨h1, h2⟩ => ⟨h1, Below.then' hW2 h2⟩
      rw [← hL1] at hGa
      have HGa := hid hGa
      have HBt := hid (fun W => check_between lo hi W)
      rw [hhi] at HC HBt HGa
      have h4 : lo + (hashes.length : Int) ≤ 9223372036854775807 := by omega
      clear hGa hL1 HL hq h3' hb hr1 hr2 hg hhi hi
      go_enter Tryd.func27, Tryd.ntmps27
      go_wp2_with fail
      refine (HC.out).mono ?_
      rintro e w1 ⟨rfl, hb1⟩
      have B1 := hid hb1
      clear hb1
      go_wp2_with fail
      refine (HBt.out _).mono ?_
      rintro e w' ⟨rfl, rfl⟩
      go_wp2_with fail
      refine (HGa.out _ B1.out _ _ rfl rfl).mono ?_
      rintro e w3 ⟨rfl, hb3⟩
      have B3 := hid hb3
      clear hb3
      go_wp2_with fail
      go_ret
      exact ⟨rfl, B3.out⟩
    · have HR : Hid (r = q2) := by
        have := HL.out
        unfold Hid
        rw [this, if_pos h0]
      have hzb : (q2 == 0) = false := by simpa using h0
      have hzb2 : (q2 != 0) = true := by simpa using h0
      have h4 : lo + (hashes.length : Int) ≤ 9223372036854775807 := by omega
      clear HL hr1 hr2 hg h0 h3'
      go_enter Tryd.func27, Tryd.ntmps27
      go_wp2_with fail
      refine (HC.out).mono ?_
      rintro e w1 ⟨rfl, hb1⟩
      have B1 := hid hb1
      clear hb1
      go_wp2_with fail
      go_ret
      exact ⟨ret_int (by rw [HR.out]), B1.out⟩
  · have hbad := count3_bad lo (lo + hashes.length) n hok (by omega)
    have hL1 := HL.out
    rw [if_pos hbad] at hL1
    clear HL
    by_cases hlo : lo < 0 ∨ n < lo
    · have hcn := hcnt lo
      rw [count3_hi lo lo n hashes.length (fun _ _ _ => by omega) (fun _ _ => .inl rfl)] at hcn
      clear hcnt
      generalize countN 3 lo (lo + hashes.length) n [] = c at *
      obtain ⟨q1, q2⟩ := c
      unfold Counted countV at hcn
      simp only at hcn hL1 hbad
      have HC := hid hcn
      have HR := hid hL1
      have hzb : (q2 == 0) = false := by simpa using hbad
      have hzb2 : (q2 != 0) = true := by simpa using hbad
      clear hcn hr1 hr2 hg hbad hL1
      by_cases hl0 : lo < 0
      · clear hlo hok
        go_enter Tryd.func27, Tryd.ntmps27
        go_wp2_with fail
        refine (HC.out).mono ?_
        rintro e w1 ⟨rfl, hb1⟩
        have B1 := hid hb1
        clear hb1
        go_wp2_with fail
        go_ret
        exact ⟨ret_int (by rw [HR.out]), B1.out⟩
      · have hnl : n < lo := by omega
        have hl0' : 0 ≤ lo := by omega
        clear hlo hok hl0
        go_enter Tryd.func27, Tryd.ntmps27
        go_wp2_with fail
        refine (HC.out).mono ?_
        rintro e w1 ⟨rfl, hb1⟩
        have B1 := hid hb1
        clear hb1
        go_wp2_with fail
        go_ret
        exact ⟨ret_int (by rw [HR.out]), B1.out⟩
    · have h1 : 0 ≤ lo := by omega
      have h2 : lo ≤ n := by omega
      have h3 : ¬ n ≤ 4611686018427387904 := by omega
      have hcn : ∀ X, Calls Tryd.prog 16 #[.int .i64 3, .int .i64 lo, .int .i64 X, .int .i64 n, .slice none 0 0] w (Counted (countN 3 lo (lo + hashes.length) n []) w) := fun X => by
        have := hcnt X
        rwa [count3_hi lo X n hashes.length (fun _ _ h => absurd h h3) (fun _ h => absurd h h3)] at this
      clear hcnt
      generalize countN 3 lo (lo + hashes.length) n [] = c at *
      obtain ⟨q1, q2⟩ := c
      unfold Counted countV at hcn
      simp only at hcn hL1 hbad
      have HC := hid hcn
      have HR := hid hL1
      have hzb : (q2 == 0) = false := by simpa using hbad
      have hzb2 : (q2 != 0) = true := by simpa using hbad
      clear hcn hr1 hr2 hg hbad hL1 hlo hok h3
      go_enter Tryd.func27, Tryd.ntmps27
      go_wp2_with fail
      refine (HC.out _).mono ?_
      rintro e w1 ⟨rfl, hb1⟩
      have B1 := hid hb1
      clear hb1
      go_wp2_with fail
      go_ret
      exact ⟨ret_int (by rw [HR.out]), B1.out⟩
end Go.Proofs.YtcgfeeommhljgaaDoor
set_option maxRecDepth 100000
namespace Go.Proofs.YtcgfeeommhljgaaDoor
open Go Go.RowKit

theorem GlobR.at1 {w : World} (h : GlobR w) : 2 < w.heap.size := World.block_lt_of_cell? w _ (h.1 0 (by omega))
theorem GlobR.at2 {w : World} (h : GlobR w) : 3 < w.heap.size := World.block_lt_of_cell? w _ (h.2 0 (by omega))
theorem fits_comm (n : Nat) (xs ys : List ByteArray) : fits n (xs ++ ys) ↔ fits n (ys ++ xs) := by rw [fits_app, fits_app, And.comm]
theorem sized_order (k c : Int) (proof hashes : List ByteArray) (root : ByteArray) : sizedN k c proof (root :: hashes) = sizedN k c proof (hashes ++ [root]) := by
  unfold sizedN
  have : fits (wid k) (root :: hashes ++ proof) ↔ fits (wid k) (hashes ++ [root] ++ proof) := by
    rw [show root :: hashes ++ proof = [root] ++ hashes ++ proof from rfl, fits_app, fits_app _ (hashes ++ [root]), fits_comm]
  simp only [this]
theorem reckS_wid (k : Int) (h : Nat → Nat → Nat) (xs ys : List ByteArray) (N : Nat) : ∀ a b u v, b - a ≤ N → reckS (wid k) h xs ys a b u v = reckS k h xs ys a b u v := by
  induction N with
  | zero =>
    intro a b u v hN
    by_cases e : h a b = 0
    · rw [reckS_none _ _ _ _ _ _ _ _ e, reckS_none _ _ _ _ _ _ _ _ e]
    · rw [reckS_one _ _ _ _ _ _ _ _ e (by omega), reckS_one _ _ _ _ _ _ _ _ e (by omega)]
  | succ N ih =>
    intro a b u v hN
    by_cases e : h a b = 0
    · rw [reckS_none _ _ _ _ _ _ _ _ e, reckS_none _ _ _ _ _ _ _ _ e]
    · by_cases hn : b - a ≤ 1
      · rw [reckS_one _ _ _ _ _ _ _ _ e hn, reckS_one _ _ _ _ _ _ _ _ e hn]
      · have hs := sp_lt (b - a) (by omega)
        have hp := sp_pos (b - a)
        rw [reckS_some _ _ _ _ _ _ _ _ e (by omega), reckS_some _ _ _ _ _ _ _ _ e (by omega), ih _ _ _ _ (by omega), ih _ _ _ _ (by omega), nodeS_wid]
theorem own_new (w : World) (v : Value) (ty : TypeId) (_h : v.oneCell' = true) : (w.alloc (.cells #[v] ty)).ownsRow w.heap.size ty 1 (.slice (some ⟨w.heap.size, 0, none⟩) 1 1) [v].length [v] :=
  ⟨by simp, .inr ⟨w.heap.size, 1, #[v], rfl, Nat.le_refl _, heap_alloc_new w _, by simp, by unfold maxLen; omega, by simp, by simp⟩⟩

set_option maxHeartbeats 600000 in
theorem ref_Range (k lo n : Int) (a1 : Option Addr) (hashes : List ByteArray) (c1 : Nat) (a2 : Option Addr) (proof : List ByteArray) (c2 : Nat) (root : ByteArray)
    (n1 : a1 = none → hashes.length = 0 ∧ c1 = 0) (hl1 : hashes.length * 16 ≤ 140737488351232) (hl2 : proof.length * 16 ≤ 140737488351232)
    (w : World) (hr1 : RowAt w a1 (strs' hashes)) (hr2 : RowAt w a2 (strs' proof)) (hg : GlobR w) :
    Calls Tryd.prog 28 #[.int .i64 k, .int .i64 lo, .int .i64 n, .slice a1 hashes.length c1, .slice a2 proof.length c2, .string root] w
      fun e w' => e = .returned (.int .i64 (rangeN k lo n hashes proof root)) ∧ Below w.heap.size w w' := by
  have hcnt : ∀ X, Calls Tryd.prog 41 #[.int .i64 3, .int .i64 lo, .int .i64 X, .int .i64 n, .slice none 0 0] w (Counted (countN 3 lo X n []) w) := fun X => by
    have := ref_Count 3 lo X n none [] 0 w (.nil _ _) (by simp)
    rwa [← count_same] at this
  have HL : Hid (rangeN k lo n hashes proof root = if (countN 3 lo (lo + hashes.length) n []).2 ≠ 0 then (countN 3 lo (lo + hashes.length) n []).2 else
    gathN k (hasB lo.toNat (lo + hashes.length).toNat) n.toNat (countN 3 lo (lo + hashes.length) n []).1 hashes proof root) := rfl
  obtain ⟨r, hre⟩ : ∃ r, r = rangeN k lo n hashes proof root := ⟨_, rfl⟩
  rw [← hre] at HL ⊢
  clear hre
  by_cases hok : 0 ≤ lo ∧ lo ≤ 4611686018427387904
  · obtain ⟨h1, h2⟩ := hok
    have hcn := hcnt (lo + hashes.length)
    clear hcnt
    have h3' := count3 lo (lo + hashes.length) n
    generalize hc : countN 3 lo (lo + hashes.length) n [] = c at *
    obtain ⟨q1, q2⟩ := c
    unfold Counted countV at hcn
    simp only at hcn HL
    have HC := hid hcn
    clear hcn hc
    by_cases h0 : q2 = 0
    · subst h0
      have hnn : ¬ (n < 0 ∨ 4611686018427387904 < n) := by
        intro hb; rw [if_pos hb] at h3'; simp at h3'
      rw [if_neg hnn] at h3'
      have hb : ¬ (lo < 0 ∨ lo + (hashes.length : Int) ≤ lo ∨ n < lo + (hashes.length : Int)) := by
        intro hb; rw [if_pos hb] at h3'; simp at h3'
      rw [if_neg hb] at h3'
      have hq : q1 = (outN (hasB lo.toNat (lo + hashes.length).toNat) 0 n.toNat : Nat) := by simpa using h3'
      have hL1 := HL.out
      rw [if_neg (by simp)] at hL1
      obtain ⟨lo, rfl⟩ := Int.eq_ofNat_of_zero_le h1
      obtain ⟨n, rfl⟩ := Int.eq_ofNat_of_zero_le (show 0 ≤ n by omega)
      rw [show ((lo : Int) + (hashes.length : Int)).toNat = lo + hashes.length by omega] at hq hL1
      rw [Int.toNat_natCast, Int.toNat_natCast] at hq hL1
      have hlen : (strs' ([root] ++ hashes)).length = 1 + hashes.length := by rw [strs'_length]; simp; omega
      have hst : [Value.string root] ++ strs' hashes = strs' ([root] ++ hashes) := by simp [strs']
      have hord := sized_order k q1 proof hashes root
      have HLk := hid (fun (W : World) (hW : Below w.heap.size w W) (g cap : Nat) (hrow : RowAt W (some ⟨g, 0, none⟩) (strs' ([root] ++ hashes))) => ref_looked k q1 a2 proof c2 (some ⟨g, 0, none⟩) ([root] ++ hashes) cap (by omega) (by simp; omega) W (hr2.below hW) hrow)
      rw [show [root] ++ hashes = root :: hashes from rfl] at HLk hst hlen
      rw [hord] at HLk
      have HRow1 := hid (fun W (h : Below w.heap.size w W) => hr1.below h)
      unfold gathN at hL1
      have hsd := sideB lo (lo + hashes.length) 0 n (by omega)
      have hlf := leafB lo (lo + hashes.length) n (by omega) (by omega)
      by_cases hsz : sizedN k q1 proof (hashes ++ [root]) = 0
      · obtain ⟨hf1, hf2, hpl⟩ := sized_zero hsz
        have hw := (wid_le k).1
        rw [hsz, if_neg (by simp)] at hL1
        rw [hsz] at HLk
        have hf3 : fits (wid k) hashes := ((fits_app _ _ _).1 hf1).1
        have HRg := hid (fun (W : World) (hW : Below w.heap.size w W) (H : Nat) (e : W.heap.size = H) =>
          show Calls Tryd.prog 60 #[.int .i64 (wid k), .int .i64 0, .int .i64 n, .int .i64 lo, .int .i64 ((lo : Int) + (hashes.length : Int)), .pointer (some ⟨H, 0, none⟩)] (W.alloc (.cells #[.slice a2 proof.length c2, .int .i64 0, .slice a1 hashes.length c1, .int .i64 0] 83)) fun e w' => e = .returned (.string (reckS k (hasB lo (lo + hashes.length)) hashes proof 0 n 0 0)) ∧ Below w.heap.size w w' by
            subst e
            have ht := rtaken_new W a2 a1 proof hashes c2 c1 (hr2.below hW) (hr1.below hW) 83
            have hgW := hg.below hW
            have hal := (Below.refl W.heap.size W).alloc (Nat.le_refl _) (.cells #[.slice a2 proof.length c2, .int .i64 0, .slice a1 hashes.length c1, .int .i64 0] 83)
            have := ref_ranged (wid k) lo (lo + hashes.length) proof hashes (fun x hx => by rw [hf2 x hx]; exact hw) (fun x hx => by rw [hf3 x hx]; exact hw) (by omega) (by omega) W.heap.size W.heap.size (Nat.ne_of_gt hgW.at1) (Nat.ne_of_gt hgW.at2) n 0 n 0 0 (by omega) (by omega) (by omega) (by rw [hsd]; omega) (by omega) _ ht (hgW.below hal)
            rw [reckS_wid k _ _ _ n 0 n 0 0 (by omega)] at this
            exact this.mono fun _ _ ⟨h1, _, h3⟩ => ⟨h1, below_grown (Below.then' hW hal) (Nat.le_trans hW.size hal.size) hW.size h3⟩)
        clear hsd hlf hsz hf1 hf2 hf3 hq h3' hb hr1 hr2 hg hord hpl HL h1
        obtain ⟨q, hqq⟩ : ∃ q, q = reckS k (hasB lo (lo + hashes.length)) hashes proof 0 n 0 0 := ⟨_, rfl⟩
        rw [← hqq] at HRg hL1
        clear hqq
        have hlx := hl1
        obtain ⟨rh, hrh⟩ : ∃ l, l = root :: hashes := ⟨_, rfl⟩
        rw [← hrh] at HLk hst hlen
        have HS := hid hst
        clear hst hrh
        by_cases hqr : q = root
        · rw [if_pos hqr] at hL1
          rw [hqr] at HRg
          have HR := hid hL1
          clear hqr hL1
          go_enter Tryd.func28, Tryd.ntmps28
          go_wp2_with fail
          refine (HC.out).mono ?_
          rintro e w1 ⟨rfl, hb1⟩
          have B1 := hid hb1
          clear hb1
          go_wp2_with fail
          refine (ref_width k _).mono ?_
          rintro e w' ⟨rfl, rfl⟩
          have BA := hid (B1.out.alloc B1.out.size (.cells #[.string root] 9))
          have HO := hid (own_new w1 (.string root) 9 rfl)
          go_wp2_with (at_builtin; refine wp_append_all w1.heap.size rfl (.tmp 44) (.tmp 45) 22 9 (.string ⟨#[]⟩) 16 rfl Tryd.underlying22 info_str rfl (by omega) _ [.string root] (strs' hashes) a1 hashes.length c1 rfl rfl (strs'_length hashes) (strs_one hashes) (HRow1.out _ BA.out) n1 HO.out (by simp) (by simp; omega) ?_; intro v1 w2 hown hb2; rw [HS.out] at hown; have B2 := hid (BA.out.trans (hb2.mono B1.out.size)); obtain ⟨g, cap, rfl, _, _, _, _, _, hcell⟩ := own_form hown (by omega); have HRW := hid (show RowAt w2 (some ⟨g, 0, none⟩) (strs' rh) from .inr ⟨g, 0, rfl, fun i hi => by rw [Nat.zero_add]; exact hcell i hi⟩); rw [strs'_length]; clear hown hb2 hcell)
          refine (HLk.out _ B2.out _ _ HRW.out).mono ?_
          rintro e w' ⟨rfl, rfl⟩
          go_wp2_with fail
          refine (HRg.out _ B2.out _ rfl).mono ?_
          rintro e w4 ⟨rfl, hb4⟩
          have B4 := hid hb4
          clear hb4
          go_wp2_with fail
          go_ret
          exact ⟨ret_int (by rw [HR.out]), B4.out⟩
        · rw [if_neg hqr] at hL1
          have hb := str_ne hqr
          have HR := hid hL1
          clear hqr hL1
          go_enter Tryd.func28, Tryd.ntmps28
          go_wp2_with fail
          refine (HC.out).mono ?_
          rintro e w1 ⟨rfl, hb1⟩
          have B1 := hid hb1
          clear hb1
          go_wp2_with fail
          refine (ref_width k _).mono ?_
          rintro e w' ⟨rfl, rfl⟩
          have BA := hid (B1.out.alloc B1.out.size (.cells #[.string root] 9))
          have HO := hid (own_new w1 (.string root) 9 rfl)
          go_wp2_with (at_builtin; refine wp_append_all w1.heap.size rfl (.tmp 44) (.tmp 45) 22 9 (.string ⟨#[]⟩) 16 rfl Tryd.underlying22 info_str rfl (by omega) _ [.string root] (strs' hashes) a1 hashes.length c1 rfl rfl (strs'_length hashes) (strs_one hashes) (HRow1.out _ BA.out) n1 HO.out (by simp) (by simp; omega) ?_; intro v1 w2 hown hb2; rw [HS.out] at hown; have B2 := hid (BA.out.trans (hb2.mono B1.out.size)); obtain ⟨g, cap, rfl, _, _, _, _, _, hcell⟩ := own_form hown (by omega); have HRW := hid (show RowAt w2 (some ⟨g, 0, none⟩) (strs' rh) from .inr ⟨g, 0, rfl, fun i hi => by rw [Nat.zero_add]; exact hcell i hi⟩); rw [strs'_length]; clear hown hb2 hcell)
          refine (HLk.out _ B2.out _ _ HRW.out).mono ?_
          rintro e w' ⟨rfl, rfl⟩
          go_wp2_with fail
          refine (HRg.out _ B2.out _ rfl).mono ?_
          rintro e w4 ⟨rfl, hb4⟩
          have B4 := hid hb4
          clear hb4
          go_wp2_with fail
          go_ret
          exact ⟨ret_int (by rw [HR.out]), B4.out⟩
      · rw [if_pos hsz] at hL1
        have HR := hid hL1
        clear hsd hlf hq h3' hb hr1 hr2 hg hord HL hL1 h1
        obtain ⟨z, hz⟩ : ∃ z, z = sizedN k q1 proof (hashes ++ [root]) := ⟨_, rfl⟩
        rw [← hz] at HLk HR hsz
        have hzb : (z == 0) = false := by simpa using hsz
        have hzb2 : (z != 0) = true := by simpa using hsz
        clear hz hsz
        obtain ⟨rh, hrh⟩ : ∃ l, l = root :: hashes := ⟨_, rfl⟩
        rw [← hrh] at HLk hst hlen
        have HS := hid hst
        clear hst hrh
        go_enter Tryd.func28, Tryd.ntmps28
        go_wp2_with fail
        refine (HC.out).mono ?_
        rintro e w1 ⟨rfl, hb1⟩
        have B1 := hid hb1
        clear hb1
        go_wp2_with fail
        refine (ref_width k _).mono ?_
        rintro e w' ⟨rfl, rfl⟩
        have BA := hid (B1.out.alloc B1.out.size (.cells #[.string root] 9))
        have HO := hid (own_new w1 (.string root) 9 rfl)
        go_wp2_with (at_builtin; refine wp_append_all w1.heap.size rfl (.tmp 44) (.tmp 45) 22 9 (.string ⟨#[]⟩) 16 rfl Tryd.underlying22 info_str rfl (by omega) _ [.string root] (strs' hashes) a1 hashes.length c1 rfl rfl (strs'_length hashes) (strs_one hashes) (HRow1.out _ BA.out) n1 HO.out (by simp) (by simp; omega) ?_; intro v1 w2 hown hb2; rw [HS.out] at hown; have B2 := hid (BA.out.trans (hb2.mono B1.out.size)); obtain ⟨g, cap, rfl, _, _, _, _, _, hcell⟩ := own_form hown (by omega); have HRW := hid (show RowAt w2 (some ⟨g, 0, none⟩) (strs' rh) from .inr ⟨g, 0, rfl, fun i hi => by rw [Nat.zero_add]; exact hcell i hi⟩); rw [strs'_length]; clear hown hb2 hcell)
        refine (HLk.out _ B2.out _ _ HRW.out).mono ?_
        rintro e w' ⟨rfl, rfl⟩
        go_wp2_with fail
        go_ret
        exact ⟨ret_int (by rw [HR.out]), B2.out⟩
    · have HR : Hid (r = q2) := by
        have := HL.out
        unfold Hid
        rw [this, if_pos h0]
      have hzb : (q2 == 0) = false := by simpa using h0
      have hzb2 : (q2 != 0) = true := by simpa using h0
      clear HL hr1 hr2 hg h0 h3'
      go_enter Tryd.func28, Tryd.ntmps28
      go_wp2_with fail
      refine (HC.out).mono ?_
      rintro e w1 ⟨rfl, hb1⟩
      have B1 := hid hb1
      clear hb1
      go_wp2_with fail
      go_ret
      exact ⟨ret_int (by rw [HR.out]), B1.out⟩
  · have hbad : (countN 3 lo (lo + hashes.length) n []).2 ≠ 0 := count3_bad lo (lo + hashes.length) n (by omega) (by omega)
    have hL1 := HL.out
    rw [if_pos hbad] at hL1
    clear HL
    have hcn := hcnt lo
    rw [count3_hi lo lo n hashes.length (fun _ _ _ => by omega) (fun _ _ => .inl rfl)] at hcn
    clear hcnt
    generalize countN 3 lo (lo + hashes.length) n [] = c at *
    obtain ⟨q1, q2⟩ := c
    unfold Counted countV at hcn
    simp only at hcn hL1 hbad
    have HC := hid hcn
    have HR := hid hL1
    have hzb : (q2 == 0) = false := by simpa using hbad
    have hzb2 : (q2 != 0) = true := by simpa using hbad
    clear hcn hr1 hr2 hg hbad hL1
    by_cases hl0 : lo < 0
    · clear hok
      go_enter Tryd.func28, Tryd.ntmps28
      go_wp2_with fail
      refine (HC.out).mono ?_
      rintro e w1 ⟨rfl, hb1⟩
      have B1 := hid hb1
      clear hb1
      go_wp2_with fail
      go_ret
      exact ⟨ret_int (by rw [HR.out]), B1.out⟩
    · have hnl : 4611686018427387904 < lo := by omega
      have hl0' : 0 ≤ lo := by omega
      clear hok hl0
      go_enter Tryd.func28, Tryd.ntmps28
      go_wp2_with fail
      refine (HC.out).mono ?_
      rintro e w1 ⟨rfl, hb1⟩
      have B1 := hid hb1
      clear hb1
      go_wp2_with fail
      go_ret
      exact ⟨ret_int (by rw [HR.out]), B1.out⟩
end Go.Proofs.YtcgfeeommhljgaaDoor
