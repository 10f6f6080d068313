/- check.Consistency and the reference's. -/
import Derived.Test.YtcgfeeommhljgaaDoorGrown
set_option maxRecDepth 100000
namespace Go.Proofs.YtcgfeeommhljgaaDoor
open Go Go.RowKit

theorem emptyS_wid (k : Int) : emptyS (wid k) = emptyS k := cutS_wid _ _
theorem grownS_wid (k : Int) (old : ByteArray) (xs : List ByteArray) (N : Nat) : ∀ (m n : Nat) (whole : Bool) (u : Nat), n ≤ N → grownS (wid k) old xs m n whole u = grownS k old xs m n whole u := by
  induction N with
  | zero =>
    intro m n whole u h
    rw [grownS, grownS.eq_def k]
    split
    · rfl
    · rw [dif_pos (by omega), dif_pos (by omega)]
  | succ N ih =>
    intro m n whole u h
    by_cases hmn : m = n
    · subst hmn; rw [grownS_eq, grownS_eq]
    · by_cases h1 : n ≤ 1
      · rw [grownS, grownS.eq_def k, if_neg hmn, if_neg hmn, dif_pos h1, dif_pos h1]
      · have hs := sp_lt n (by omega)
        have hs0 := sp_pos n
        rw [grownS, grownS.eq_def k, if_neg hmn, if_neg hmn, dif_neg h1, dif_neg h1]
        split
        · rw [ih _ _ _ _ (by omega), nodeS_wid]
        · rw [ih _ _ _ _ (by omega), nodeS_wid, nodeS_wid]
theorem count_cons (m n : Int) (h : (countN 2 m 0 n []).2 = 0) : 0 ≤ m ∧ m ≤ n ∧ n ≤ 4611686018427387904 ∧ (0 < m → m < n → (countN 2 m 0 n []).1 = oldN m.toNat n.toNat true) := by
  unfold countN at h ⊢
  rw [if_neg (by omega)] at h ⊢
  by_cases c1 : n < 0 ∨ 4611686018427387904 < n
  · rw [if_pos c1] at h; simp at h
  · rw [if_neg c1, if_neg (by omega), if_pos rfl] at h ⊢
    by_cases c2 : m < 0 ∨ n < m
    · rw [if_pos c2] at h; simp at h
    · rw [if_neg c2]
      refine ⟨by omega, by omega, by omega, fun h0 h1 => ?_⟩
      rw [if_neg (by omega)]
/-- What Consistency answers. -/
def consN (k m n : Int) (old root : ByteArray) (proof : List ByteArray) : Int :=
  if (countN 2 m 0 n []).2 ≠ 0 then (countN 2 m 0 n []).2 else
  if sizedN k (countN 2 m 0 n []).1 proof [old, root] ≠ 0 then sizedN k (countN 2 m 0 n []).1 proof [old, root] else
  if m = 0 ∧ old ≠ emptyS k then 90 else
  if m = n then (if old = root then 0 else 90) else
  if m = 0 then 0 else
  if (grownS k old proof m.toNat n.toNat true 0).1 ≠ old then 90 else
  if (grownS k old proof m.toNat n.toNat true 0).2 = root then 0 else 90

set_option maxHeartbeats 2000000 in
theorem check_Consistency (k m n : Int) (old root : ByteArray) (ao : Option Addr) (proof : List ByteArray) (cap : Nat) (hao : ao = none → proof.length = 0 ∧ cap = 0) (hcap : proof.length ≤ cap) (hl : proof.length * 16 ≤ 140737488351232) (w : World) (hr : RowAt w ao (strs' proof)) (hg : GlobP w) :
    Calls Tryd.prog 29 #[.int .i64 k, .int .i64 m, .int .i64 n, .string old, .string root, .slice ao proof.length cap] w fun e w' => e = .returned (.int .i64 (consN k m n old root proof)) ∧ Below w.heap.size w w' := by
  have hcnt := check_Count 2 m 0 n none [] 0 w (.nil _ _) (by simp)
  have hci := count_cons m n
  have HL : Hid (consN k m n old root proof = if (countN 2 m 0 n []).2 ≠ 0 then (countN 2 m 0 n []).2 else if sizedN k (countN 2 m 0 n []).1 proof [old, root] ≠ 0 then sizedN k (countN 2 m 0 n []).1 proof [old, root] else
    if m = 0 ∧ old ≠ emptyS k then 90 else if m = n then (if old = root then 0 else 90) else if m = 0 then 0 else
    if (grownS k old proof m.toNat n.toNat true 0).1 ≠ old then 90 else if (grownS k old proof m.toNat n.toNat true 0).2 = root then 0 else 90) := rfl
  obtain ⟨r, hre⟩ : ∃ r, r = consN k m n old root proof := ⟨_, rfl⟩
  rw [← hre] at HL ⊢
  generalize hp : grownS k old proof m.toNat n.toNat true 0 = p at HL
  obtain ⟨a, b⟩ := p
  generalize countN 2 m 0 n [] = c at *
  obtain ⟨c1, c2⟩ := c
  simp only at hci
  unfold Counted countV at hcnt
  simp only at hcnt HL
  have HC := hid hcnt
  clear hcnt hre
  by_cases h0 : c2 = 0
  · subst h0
    obtain ⟨hm0, hmn, hn62, hst⟩ := hci rfl
    have HSZ := hid (fun (W : World) (hW : Below w.heap.size w W) => check_sized k c1 ao proof cap (some ⟨W.heap.size, 0, none⟩) [old, root] 2 (W.alloc (.cells #[.string old, .string root] 9)) ((hr.below hW).below ((Below.refl _ _).alloc (Nat.le_refl _) _)) hao (row_new W [old, root]) (by simp) (by simp; omega))
    have HEm := hid (fun (W : World) (hW : Below w.heap.size w W) => tree_Empty k W (hg.below hW))
    skip
    clear hci
    have hL1 := HL.out
    rw [if_neg (by simp)] at hL1
    clear HL
    by_cases hsz : sizedN k c1 proof [old, root] = 0
    · obtain ⟨hf1, hf2, hpl⟩ := sized_zero hsz
      have hw := (wid_le k).1
      rw [hsz] at HSZ
      rw [if_neg (by simpa using hsz)] at hL1
      clear hsz
      by_cases hz : m = 0
      · subst hz
        clear hst hf1 hf2 hpl hr hg hp
        obtain ⟨q, hq⟩ : ∃ q, q = emptyS k := ⟨_, rfl⟩
        rw [← hq] at HEm hL1
        clear hq
        by_cases he : old = q
        · rw [if_neg (by simpa using he)] at hL1
          have het : (old.toList == q.toList) = true := by rw [he]; simp
          by_cases hn0 : 0 = n
          · rw [if_pos hn0] at hL1
            subst hn0
            have HR := hid hL1
            have hnI : ((0 : Int) == 0) = true := rfl
            clear hL1 he
            go_enter Tryd.func29, Tryd.ntmps29
            go_wp2_with fail
            refine (HC.out).mono ?_
            rintro e w1 ⟨rfl, hb1⟩
            have B1 := hid hb1
            clear hb1
            go_wp2_with fail
            refine (HSZ.out _ B1.out).mono ?_
            rintro e w2 ⟨rfl, hb2⟩
            have B2 := hid (Below.then' (B1.out.alloc B1.out.size _) hb2)
            clear hb2
            go_wp2_with fail
            refine (HEm.out _ B2.out).mono ?_
            rintro e w3 ⟨rfl, hb3⟩
            have B3 := hid (Below.then' B2.out hb3)
            clear hb3
            go_wp2_with fail
            refine (check_same old root _).mono ?_
            rintro e w' ⟨rfl, rfl⟩
            rw [← HR.out]
            go_wp2_with fail
            go_ret
            exact ⟨rfl, B3.out⟩
          · rw [if_neg hn0, if_pos rfl] at hL1
            have HR := hid hL1
            have hnI : ((0 : Int) == n) = false := by simpa using hn0
            have hnI2 : (n == (0 : Int)) = false := by simp; omega
            clear hL1 he
            go_enter Tryd.func29, Tryd.ntmps29
            go_wp2_with fail
            refine (HC.out).mono ?_
            rintro e w1 ⟨rfl, hb1⟩
            have B1 := hid hb1
            clear hb1
            go_wp2_with fail
            refine (HSZ.out _ B1.out).mono ?_
            rintro e w2 ⟨rfl, hb2⟩
            have B2 := hid (Below.then' (B1.out.alloc B1.out.size _) hb2)
            clear hb2
            go_wp2_with fail
            refine (HEm.out _ B2.out).mono ?_
            rintro e w3 ⟨rfl, hb3⟩
            have B3 := hid (Below.then' B2.out hb3)
            clear hb3
            go_wp2_with fail
            go_ret
            exact ⟨ret_int (by rw [HR.out]), B3.out⟩
        · rw [if_pos ⟨rfl, he⟩] at hL1
          have HR := hid hL1
          have hb := str_ne he
          clear hL1 he
          go_enter Tryd.func29, Tryd.ntmps29
          go_wp2_with fail
          refine (HC.out).mono ?_
          rintro e w1 ⟨rfl, hb1⟩
          have B1 := hid hb1
          clear hb1
          go_wp2_with fail
          refine (HSZ.out _ B1.out).mono ?_
          rintro e w2 ⟨rfl, hb2⟩
          have B2 := hid (Below.then' (B1.out.alloc B1.out.size _) hb2)
          clear hb2
          go_wp2_with fail
          refine (HEm.out _ B2.out).mono ?_
          rintro e w3 ⟨rfl, hb3⟩
          have B3 := hid (Below.then' B2.out hb3)
          clear hb3
          go_wp2_with fail
          go_ret
          exact ⟨ret_int (by rw [HR.out]), B3.out⟩
      · rw [if_neg (fun h => hz h.1)] at hL1
        have hzI : (m == (0 : Int)) = false := by simpa using hz
        obtain ⟨m, rfl⟩ := Int.eq_ofNat_of_zero_le hm0
        obtain ⟨n, rfl⟩ := Int.eq_ofNat_of_zero_le (show 0 ≤ n by omega)
        by_cases hne : m = n
        · subst hne
          rw [if_pos rfl] at hL1
          have HR := hid hL1
          have hneI : ((m : Int) == (m : Int)) = true := by simp
          clear hL1 hst hf1 hf2 hpl hr hg hz hp
          go_enter Tryd.func29, Tryd.ntmps29
          go_wp2_with fail
          refine (HC.out).mono ?_
          rintro e w1 ⟨rfl, hb1⟩
          have B1 := hid hb1
          clear hb1
          go_wp2_with fail
          refine (HSZ.out _ B1.out).mono ?_
          rintro e w2 ⟨rfl, hb2⟩
          have B2 := hid (Below.then' (B1.out.alloc B1.out.size _) hb2)
          clear hb2
          go_wp2_with fail
          refine (check_same old root _).mono ?_
          rintro e w' ⟨rfl, rfl⟩
          rw [← HR.out]
          go_wp2_with fail
          go_ret
          exact ⟨rfl, B2.out⟩
        · rw [if_neg (by omega), if_neg hz] at hL1
          have hst' := hst (by omega) (by omega)
          simp only [Int.toNat_natCast] at hst'
          have hneI : ((m : Int) == (n : Int)) = false := by simp; omega
          have hu : 0 + oldN m n true ≤ proof.length := by omega
          simp only [Int.toNat_natCast] at hp
          have hGr : Hid (∀ (W : World), Below w.heap.size w W → ∀ H : Nat, W.heap.size = H → Calls Tryd.prog 62 #[.int .i64 k, .int .i64 m, .int .i64 n, .string old, .func (.func 63) #[.pointer (some ⟨H, 0, none⟩)] #[], .bool true] (W.alloc (.cells #[.slice ao proof.length cap] 91)) fun e w' => e = .returned (.tuple #[.string a, .string b]) ∧ (W.alloc (.cells #[.slice ao proof.length cap] 91)).grownBy w' (some H)) := fun W hW H hH => by subst hH; have := check_grown k old (by rw [hf1 old (by simp)]; exact hw) proof (fun x hx => by rw [hf2 x hx]; exact hw) (by omega) W.heap.size W.heap.size (Nat.ne_of_gt (hg.below hW).lt1) (Nat.ne_of_gt (hg.below hW).lt2) n m n true 0 (Nat.le_refl _) (by omega) (by omega) (by omega) hu (W.alloc (.cells #[.slice ao proof.length cap] 91)) (taken_new W ao proof cap hcap (hr.below hW) _) ((hg.below hW).below ((Below.refl _ _).alloc (Nat.le_refl _) _)); rw [hp] at this; exact this.mono fun _ _ ⟨h1, _, h3⟩ => ⟨h1, h3⟩
          have hmI : (0 : Int) < (m : Int) := by omega
          clear hst hst' hf1 hf2 hpl hu hr hg hz
          clear hp
          by_cases ha : a = old
          · rw [if_neg (by simpa using ha)] at hL1
            rw [ha] at hGr
            clear ha
            have HR := hid hL1
            clear hL1
            go_enter Tryd.func29, Tryd.ntmps29
            go_wp2_with fail
            refine (HC.out).mono ?_
            rintro e w1 ⟨rfl, hb1⟩
            have B1 := hid hb1
            clear hb1
            go_wp2_with fail
            refine (HSZ.out _ B1.out).mono ?_
            rintro e w2 ⟨rfl, hb2⟩
            have B2 := hid (Below.then' (B1.out.alloc B1.out.size _) hb2)
            clear hb2
            go_wp2_with fail
            refine (hGr.out _ B2.out w2.heap.size rfl).mono ?_
            rintro e w4 ⟨rfl, hG4⟩
            have B4 := hid (below_grown (B2.out.alloc B2.out.size (.cells #[.slice ao proof.length cap] 91)) (by have := B2.out.size; simp; omega) B2.out.size hG4)
            clear hG4
            go_wp2_with fail
            refine (check_same b root _).mono ?_
            rintro e w' ⟨rfl, rfl⟩
            rw [← HR.out]
            go_wp2_with fail
            go_ret
            exact ⟨rfl, B4.out⟩
          · rw [if_pos ha] at hL1
            have HR := hid hL1
            have hb := str_ne ha
            clear hL1 ha
            go_enter Tryd.func29, Tryd.ntmps29
            go_wp2_with fail
            refine (HC.out).mono ?_
            rintro e w1 ⟨rfl, hb1⟩
            have B1 := hid hb1
            clear hb1
            go_wp2_with fail
            refine (HSZ.out _ B1.out).mono ?_
            rintro e w2 ⟨rfl, hb2⟩
            have B2 := hid (Below.then' (B1.out.alloc B1.out.size _) hb2)
            clear hb2
            go_wp2_with fail
            refine (hGr.out _ B2.out w2.heap.size rfl).mono ?_
            rintro e w4 ⟨rfl, hG4⟩
            have B4 := hid (below_grown (B2.out.alloc B2.out.size (.cells #[.slice ao proof.length cap] 91)) (by have := B2.out.size; simp; omega) B2.out.size hG4)
            clear hG4
            go_wp2_with fail
            go_ret
            exact ⟨ret_int (by rw [HR.out]), B4.out⟩
    · rw [if_pos hsz] at hL1
      have HR := hid hL1
      clear hL1 hr hg hst hp
      obtain ⟨z, hz⟩ : ∃ z, z = sizedN k c1 proof [old, root] := ⟨_, rfl⟩
      rw [← hz] at HSZ HR hsz
      have hzb : (z == 0) = false := by simpa using hsz
      have hzb2 : (z != 0) = true := by simpa using hsz
      clear hz hsz
      go_enter Tryd.func29, Tryd.ntmps29
      go_wp2_with fail
      refine (HC.out).mono ?_
      rintro e w1 ⟨rfl, hb1⟩
      have B1 := hid hb1
      clear hb1
      go_wp2_with fail
      refine (HSZ.out _ B1.out).mono ?_
      rintro e w2 ⟨rfl, hb2⟩
      have B2 := hid (Below.then' (B1.out.alloc B1.out.size _) hb2)
      clear hb2
      go_wp2_with fail
      go_ret
      exact ⟨ret_int (by rw [HR.out]), B2.out⟩
  · have hL1 := HL.out
    rw [if_pos h0] at hL1
    have HR := hid hL1
    have hzb : (c2 == 0) = false := by simpa using h0
    have hzb2 : (c2 != 0) = true := by simpa using h0
    clear HL hL1 hr hg hci h0 hp
    go_enter Tryd.func29, Tryd.ntmps29
    go_wp2_with fail
    refine (HC.out).mono ?_
    rintro e w1 ⟨rfl, hb1⟩
    have B1 := hid hb1
    clear hb1
    go_wp2_with fail
    go_ret
    exact ⟨ret_int (by rw [HR.out]), B1.out⟩

theorem GlobR.lt1 {w : World} (h : GlobR w) : 2 < w.heap.size := World.block_lt_of_cell? w _ (h.1 0 (by omega))
theorem GlobR.lt2 {w : World} (h : GlobR w) : 3 < w.heap.size := World.block_lt_of_cell? w _ (h.2 0 (by omega))
set_option maxHeartbeats 2000000 in
theorem ref_Consistency (k m n : Int) (old root : ByteArray) (ao : Option Addr) (proof : List ByteArray) (cap : Nat) (hao : ao = none → proof.length = 0 ∧ cap = 0) (hcap : proof.length ≤ cap) (hl : proof.length * 16 ≤ 140737488351232) (w : World) (hr : RowAt w ao (strs' proof)) (hg : GlobR w) :
    Calls Tryd.prog 30 #[.int .i64 k, .int .i64 m, .int .i64 n, .string old, .string root, .slice ao proof.length cap] w fun e w' => e = .returned (.int .i64 (consN k m n old root proof)) ∧ Below w.heap.size w w' := by
  have hcnt := ref_Count 2 m 0 n none [] 0 w (.nil _ _) (by simp)
  rw [← count_same] at hcnt
  have hci := count_cons m n
  have HL : Hid (consN k m n old root proof = if (countN 2 m 0 n []).2 ≠ 0 then (countN 2 m 0 n []).2 else if sizedN k (countN 2 m 0 n []).1 proof [old, root] ≠ 0 then sizedN k (countN 2 m 0 n []).1 proof [old, root] else
    if m = 0 ∧ old ≠ emptyS k then 90 else if m = n then (if old = root then 0 else 90) else if m = 0 then 0 else
    if (grownS k old proof m.toNat n.toNat true 0).1 ≠ old then 90 else if (grownS k old proof m.toNat n.toNat true 0).2 = root then 0 else 90) := rfl
  obtain ⟨r, hre⟩ : ∃ r, r = consN k m n old root proof := ⟨_, rfl⟩
  rw [← hre] at HL ⊢
  generalize hp : grownS k old proof m.toNat n.toNat true 0 = p at HL
  obtain ⟨a, b⟩ := p
  generalize countN 2 m 0 n [] = c at *
  obtain ⟨c1, c2⟩ := c
  simp only at hci
  unfold Counted countV at hcnt
  simp only at hcnt HL
  have HC := hid hcnt
  clear hcnt hre
  by_cases h0 : c2 = 0
  · subst h0
    obtain ⟨hm0, hmn, hn62, hst⟩ := hci rfl
    have HSZ := hid (fun (W : World) (hW : Below w.heap.size w W) => ref_looked k c1 ao proof cap (some ⟨W.heap.size, 0, none⟩) [old, root] 2 (by omega) (by simp) (W.alloc (.cells #[.string old, .string root] 9)) ((hr.below hW).below ((Below.refl _ _).alloc (Nat.le_refl _) _)) (row_new W [old, root]))
    have HEm := hid (fun (W : World) (hW : Below w.heap.size w W) => ref_Empty (wid k) W (hg.below hW))
    rw [emptyS_wid] at HEm
    clear hci
    have hL1 := HL.out
    rw [if_neg (by simp)] at hL1
    clear HL
    by_cases hsz : sizedN k c1 proof [old, root] = 0
    · obtain ⟨hf1, hf2, hpl⟩ := sized_zero hsz
      have hw := (wid_le k).1
      rw [hsz] at HSZ
      rw [if_neg (by simpa using hsz)] at hL1
      clear hsz
      by_cases hz : m = 0
      · subst hz
        clear hst hf1 hf2 hpl hr hg hp
        obtain ⟨q, hq⟩ : ∃ q, q = emptyS k := ⟨_, rfl⟩
        rw [← hq] at HEm hL1
        clear hq
        by_cases he : old = q
        · rw [if_neg (by simpa using he)] at hL1
          have het : (old.toList == q.toList) = true := by rw [he]; simp
          by_cases hn0 : 0 = n
          · rw [if_pos hn0] at hL1
            subst hn0
            by_cases hro : old = root
            · rw [if_pos hro] at hL1
              have HR := hid hL1
              have hrt : (old.toList == root.toList) = true := by rw [hro]; simp
              have hrt2 : (root.toList == old.toList) = true := by rw [hro]; simp
              clear hL1 hro he
              go_enter Tryd.func30, Tryd.ntmps30
              go_wp2_with fail
              refine (HC.out).mono ?_
              rintro e w1 ⟨rfl, hb1⟩
              have B1 := hid hb1
              clear hb1
              go_wp2_with fail
              refine (ref_width k _).mono ?_
              rintro e w' ⟨rfl, rfl⟩
              go_wp2_with fail
              refine (HSZ.out _ B1.out).mono ?_
              rintro e w2 ⟨rfl, rfl⟩
              have B2 := hid (B1.out.alloc B1.out.size (.cells #[.string old, .string root] 9))
              skip
              go_wp2_with fail
              refine (HEm.out _ B2.out).mono ?_
              rintro e w3 ⟨rfl, hb3⟩
              have B3 := hid (Below.then' B2.out hb3)
              clear hb3
              go_wp2_with fail
              go_ret
              exact ⟨ret_int (by rw [HR.out]), B3.out⟩
            · rw [if_neg hro] at hL1
              have HR := hid hL1
              have hrt : (old.toList == root.toList) = false := str_ne hro
              have hrt2 : (root.toList == old.toList) = false := str_ne (fun e => hro e.symm)
              clear hL1 hro he
              go_enter Tryd.func30, Tryd.ntmps30
              go_wp2_with fail
              refine (HC.out).mono ?_
              rintro e w1 ⟨rfl, hb1⟩
              have B1 := hid hb1
              clear hb1
              go_wp2_with fail
              refine (ref_width k _).mono ?_
              rintro e w' ⟨rfl, rfl⟩
              go_wp2_with fail
              refine (HSZ.out _ B1.out).mono ?_
              rintro e w2 ⟨rfl, rfl⟩
              have B2 := hid (B1.out.alloc B1.out.size (.cells #[.string old, .string root] 9))
              skip
              go_wp2_with fail
              refine (HEm.out _ B2.out).mono ?_
              rintro e w3 ⟨rfl, hb3⟩
              have B3 := hid (Below.then' B2.out hb3)
              clear hb3
              go_wp2_with fail
              go_ret
              exact ⟨ret_int (by rw [HR.out]), B3.out⟩
          · rw [if_neg hn0, if_pos rfl] at hL1
            have HR := hid hL1
            have hnI : ((0 : Int) == n) = false := by simpa using hn0
            have hnI2 : (n == (0 : Int)) = false := by simp; omega
            clear hL1 he
            go_enter Tryd.func30, Tryd.ntmps30
            go_wp2_with fail
            refine (HC.out).mono ?_
            rintro e w1 ⟨rfl, hb1⟩
            have B1 := hid hb1
            clear hb1
            go_wp2_with fail
            refine (ref_width k _).mono ?_
            rintro e w' ⟨rfl, rfl⟩
            go_wp2_with fail
            refine (HSZ.out _ B1.out).mono ?_
            rintro e w2 ⟨rfl, rfl⟩
            have B2 := hid (B1.out.alloc B1.out.size (.cells #[.string old, .string root] 9))
            skip
            go_wp2_with fail
            refine (HEm.out _ B2.out).mono ?_
            rintro e w3 ⟨rfl, hb3⟩
            have B3 := hid (Below.then' B2.out hb3)
            clear hb3
            go_wp2_with fail
            go_ret
            exact ⟨ret_int (by rw [HR.out]), B3.out⟩
        · rw [if_pos ⟨rfl, he⟩] at hL1
          have HR := hid hL1
          have hb := str_ne he
          clear hL1 he
          go_enter Tryd.func30, Tryd.ntmps30
          go_wp2_with fail
          refine (HC.out).mono ?_
          rintro e w1 ⟨rfl, hb1⟩
          have B1 := hid hb1
          clear hb1
          go_wp2_with fail
          refine (ref_width k _).mono ?_
          rintro e w' ⟨rfl, rfl⟩
          go_wp2_with fail
          refine (HSZ.out _ B1.out).mono ?_
          rintro e w2 ⟨rfl, rfl⟩
          have B2 := hid (B1.out.alloc B1.out.size (.cells #[.string old, .string root] 9))
          skip
          go_wp2_with fail
          refine (HEm.out _ B2.out).mono ?_
          rintro e w3 ⟨rfl, hb3⟩
          have B3 := hid (Below.then' B2.out hb3)
          clear hb3
          go_wp2_with fail
          go_ret
          exact ⟨ret_int (by rw [HR.out]), B3.out⟩
      · rw [if_neg (fun h => hz h.1)] at hL1
        have hzI : (m == (0 : Int)) = false := by simpa using hz
        obtain ⟨m, rfl⟩ := Int.eq_ofNat_of_zero_le hm0
        obtain ⟨n, rfl⟩ := Int.eq_ofNat_of_zero_le (show 0 ≤ n by omega)
        by_cases hne : m = n
        · subst hne
          rw [if_pos rfl] at hL1
          have hu : 0 + oldN m m true ≤ proof.length := by rw [oldN_eq]; simp
          have hGr : Hid (∀ (W : World), Below w.heap.size w W → ∀ H : Nat, W.heap.size = H → Calls Tryd.prog 65 #[.int .i64 (wid k), .int .i64 m, .int .i64 m, .bool true, .string old, .pointer (some ⟨H, 0, none⟩)] (W.alloc (.cells #[.slice ao proof.length cap, .int .i64 0, .slice none 0 0, .int .i64 0] 83)) fun e w' => e = .returned (.tuple #[.string old, .string old]) ∧ (W.alloc (.cells #[.slice ao proof.length cap, .int .i64 0, .slice none 0 0, .int .i64 0] 83)).grownBy w' (some H)) := fun W hW H hH => by subst hH; have := ref_grown (wid k : Int) old (by rw [hf1 old (by simp)]; exact hw) proof (fun x hx => by rw [hf2 x hx]; exact hw) (by omega) [] 0 W.heap.size W.heap.size (Nat.ne_of_gt (hg.below hW).lt1) (Nat.ne_of_gt (hg.below hW).lt2) m m m true 0 (Nat.le_refl _) (by omega) (by omega) (by omega) hu (W.alloc (.cells #[.slice ao proof.length cap, .int .i64 0, .slice none 0 0, .int .i64 0] 83)) (rtaken_new W ao none proof [] cap 0 (hr.below hW) (.nil _ _) _) ((hg.below hW).below ((Below.refl _ _).alloc (Nat.le_refl _) _)); rw [grownS_eq] at this; exact this.mono fun _ _ ⟨h1, _, h3⟩ => ⟨h1, h3⟩
          have hmI : (0 : Int) < (m : Int) := by omega
          clear hst hf1 hf2 hpl hu hr hg hz hp
          by_cases hro : old = root
          · rw [if_pos hro] at hL1
            have HR := hid hL1
            have hrt : (old.toList == root.toList) = true := by rw [hro]; simp
            have hrt2 : (root.toList == old.toList) = true := by rw [hro]; simp
            clear hL1 hro
            go_enter Tryd.func30, Tryd.ntmps30
            go_wp2_with fail
            refine (HC.out).mono ?_
            rintro e w1 ⟨rfl, hb1⟩
            have B1 := hid hb1
            clear hb1
            go_wp2_with fail
            refine (ref_width k _).mono ?_
            rintro e w' ⟨rfl, rfl⟩
            go_wp2_with fail
            refine (HSZ.out _ B1.out).mono ?_
            rintro e w2 ⟨rfl, rfl⟩
            have B2 := hid (B1.out.alloc B1.out.size (.cells #[.string old, .string root] 9))
            skip
            go_wp2_with fail
            refine (hGr.out _ B2.out (w1.heap.size + 1) (by simp)).mono ?_
            rintro e w4 ⟨rfl, hG4⟩
            have B4 := hid (below_grown (B2.out.alloc B2.out.size (.cells #[.slice ao proof.length cap, .int .i64 0, .slice none 0 0, .int .i64 0] 83)) (by have := B1.out.size; simp; omega) (by have := B1.out.size; omega) hG4)
            clear hG4
            go_wp2_with fail
            go_ret
            exact ⟨ret_int (by rw [HR.out]), B4.out⟩
          · rw [if_neg hro] at hL1
            have HR := hid hL1
            have hrt : (old.toList == root.toList) = false := str_ne hro
            have hrt2 : (root.toList == old.toList) = false := str_ne (fun e => hro e.symm)
            clear hL1 hro
            go_enter Tryd.func30, Tryd.ntmps30
            go_wp2_with fail
            refine (HC.out).mono ?_
            rintro e w1 ⟨rfl, hb1⟩
            have B1 := hid hb1
            clear hb1
            go_wp2_with fail
            refine (ref_width k _).mono ?_
            rintro e w' ⟨rfl, rfl⟩
            go_wp2_with fail
            refine (HSZ.out _ B1.out).mono ?_
            rintro e w2 ⟨rfl, rfl⟩
            have B2 := hid (B1.out.alloc B1.out.size (.cells #[.string old, .string root] 9))
            skip
            go_wp2_with fail
            refine (hGr.out _ B2.out (w1.heap.size + 1) (by simp)).mono ?_
            rintro e w4 ⟨rfl, hG4⟩
            have B4 := hid (below_grown (B2.out.alloc B2.out.size (.cells #[.slice ao proof.length cap, .int .i64 0, .slice none 0 0, .int .i64 0] 83)) (by have := B1.out.size; simp; omega) (by have := B1.out.size; omega) hG4)
            clear hG4
            go_wp2_with fail
            go_ret
            exact ⟨ret_int (by rw [HR.out]), B4.out⟩
        · rw [if_neg (by omega), if_neg hz] at hL1
          have hst' := hst (by omega) (by omega)
          simp only [Int.toNat_natCast] at hst'
          have hneI : ((m : Int) == (n : Int)) = false := by simp; omega
          have hu : 0 + oldN m n true ≤ proof.length := by omega
          simp only [Int.toNat_natCast] at hp
          have hGr : Hid (∀ (W : World), Below w.heap.size w W → ∀ H : Nat, W.heap.size = H → Calls Tryd.prog 65 #[.int .i64 (wid k), .int .i64 m, .int .i64 n, .bool true, .string old, .pointer (some ⟨H, 0, none⟩)] (W.alloc (.cells #[.slice ao proof.length cap, .int .i64 0, .slice none 0 0, .int .i64 0] 83)) fun e w' => e = .returned (.tuple #[.string a, .string b]) ∧ (W.alloc (.cells #[.slice ao proof.length cap, .int .i64 0, .slice none 0 0, .int .i64 0] 83)).grownBy w' (some H)) := fun W hW H hH => by subst hH; have := ref_grown (wid k : Int) old (by rw [hf1 old (by simp)]; exact hw) proof (fun x hx => by rw [hf2 x hx]; exact hw) (by omega) [] 0 W.heap.size W.heap.size (Nat.ne_of_gt (hg.below hW).lt1) (Nat.ne_of_gt (hg.below hW).lt2) n m n true 0 (Nat.le_refl _) (by omega) (by omega) (by omega) hu (W.alloc (.cells #[.slice ao proof.length cap, .int .i64 0, .slice none 0 0, .int .i64 0] 83)) (rtaken_new W ao none proof [] cap 0 (hr.below hW) (.nil _ _) _) ((hg.below hW).below ((Below.refl _ _).alloc (Nat.le_refl _) _)); rw [grownS_wid k old proof n m n true 0 (Nat.le_refl _)] at this; rw [hp] at this; exact this.mono fun _ _ ⟨h1, _, h3⟩ => ⟨h1, h3⟩
          have hmI : (0 : Int) < (m : Int) := by omega
          clear hst hst' hf1 hf2 hpl hu hr hg hz
          clear hp
          by_cases ha : a = old
          · rw [if_neg (by simpa using ha)] at hL1
            rw [ha] at hGr
            clear ha
            by_cases hro : b = root
            · rw [if_pos hro] at hL1
              have HR := hid hL1
              have hrt : (b.toList == root.toList) = true := by rw [hro]; simp
              have hrt2 : (root.toList == b.toList) = true := by rw [hro]; simp
              clear hL1 hro
              go_enter Tryd.func30, Tryd.ntmps30
              go_wp2_with fail
              refine (HC.out).mono ?_
              rintro e w1 ⟨rfl, hb1⟩
              have B1 := hid hb1
              clear hb1
              go_wp2_with fail
              refine (ref_width k _).mono ?_
              rintro e w' ⟨rfl, rfl⟩
              go_wp2_with fail
              refine (HSZ.out _ B1.out).mono ?_
              rintro e w2 ⟨rfl, rfl⟩
              have B2 := hid (B1.out.alloc B1.out.size (.cells #[.string old, .string root] 9))
              skip
              go_wp2_with fail
              refine (hGr.out _ B2.out (w1.heap.size + 1) (by simp)).mono ?_
              rintro e w4 ⟨rfl, hG4⟩
              have B4 := hid (below_grown (B2.out.alloc B2.out.size (.cells #[.slice ao proof.length cap, .int .i64 0, .slice none 0 0, .int .i64 0] 83)) (by have := B1.out.size; simp; omega) (by have := B1.out.size; omega) hG4)
              clear hG4
              go_wp2_with fail
              go_ret
              exact ⟨ret_int (by rw [HR.out]), B4.out⟩
            · rw [if_neg hro] at hL1
              have HR := hid hL1
              have hrt : (b.toList == root.toList) = false := str_ne hro
              have hrt2 : (root.toList == b.toList) = false := str_ne (fun e => hro e.symm)
              clear hL1 hro
              go_enter Tryd.func30, Tryd.ntmps30
              go_wp2_with fail
              refine (HC.out).mono ?_
              rintro e w1 ⟨rfl, hb1⟩
              have B1 := hid hb1
              clear hb1
              go_wp2_with fail
              refine (ref_width k _).mono ?_
              rintro e w' ⟨rfl, rfl⟩
              go_wp2_with fail
              refine (HSZ.out _ B1.out).mono ?_
              rintro e w2 ⟨rfl, rfl⟩
              have B2 := hid (B1.out.alloc B1.out.size (.cells #[.string old, .string root] 9))
              skip
              go_wp2_with fail
              refine (hGr.out _ B2.out (w1.heap.size + 1) (by simp)).mono ?_
              rintro e w4 ⟨rfl, hG4⟩
              have B4 := hid (below_grown (B2.out.alloc B2.out.size (.cells #[.slice ao proof.length cap, .int .i64 0, .slice none 0 0, .int .i64 0] 83)) (by have := B1.out.size; simp; omega) (by have := B1.out.size; omega) hG4)
              clear hG4
              go_wp2_with fail
              go_ret
              exact ⟨ret_int (by rw [HR.out]), B4.out⟩
          · rw [if_pos ha] at hL1
            have HR := hid hL1
            have hb := str_ne ha
            clear hL1 ha
            go_enter Tryd.func30, Tryd.ntmps30
            go_wp2_with fail
            refine (HC.out).mono ?_
            rintro e w1 ⟨rfl, hb1⟩
            have B1 := hid hb1
            clear hb1
            go_wp2_with fail
            refine (ref_width k _).mono ?_
            rintro e w' ⟨rfl, rfl⟩
            go_wp2_with fail
            refine (HSZ.out _ B1.out).mono ?_
            rintro e w2 ⟨rfl, rfl⟩
            have B2 := hid (B1.out.alloc B1.out.size (.cells #[.string old, .string root] 9))
            skip
            go_wp2_with fail
            refine (hGr.out _ B2.out (w1.heap.size + 1) (by simp)).mono ?_
            rintro e w4 ⟨rfl, hG4⟩
            have B4 := hid (below_grown (B2.out.alloc B2.out.size (.cells #[.slice ao proof.length cap, .int .i64 0, .slice none 0 0, .int .i64 0] 83)) (by have := B1.out.size; simp; omega) (by have := B1.out.size; omega) hG4)
            clear hG4
            go_wp2_with fail
            go_ret
            exact ⟨ret_int (by rw [HR.out]), B4.out⟩
    · rw [if_pos hsz] at hL1
      have HR := hid hL1
      clear hL1 hr hg hst hp
      obtain ⟨z, hz⟩ : ∃ z, z = sizedN k c1 proof [old, root] := ⟨_, rfl⟩
      rw [← hz] at HSZ HR hsz
      have hzb : (z == 0) = false := by simpa using hsz
      have hzb2 : (z != 0) = true := by simpa using hsz
      clear hz hsz
      go_enter Tryd.func30, Tryd.ntmps30
      go_wp2_with fail
      refine (HC.out).mono ?_
      rintro e w1 ⟨rfl, hb1⟩
      have B1 := hid hb1
      clear hb1
      go_wp2_with fail
      refine (ref_width k _).mono ?_
      rintro e w' ⟨rfl, rfl⟩
      go_wp2_with fail
      refine (HSZ.out _ B1.out).mono ?_
      rintro e w2 ⟨rfl, rfl⟩
      have B2 := hid (B1.out.alloc B1.out.size (.cells #[.string old, .string root] 9))
      skip
      go_wp2_with fail
      go_ret
      exact ⟨ret_int (by rw [HR.out]), B2.out⟩
  · have hL1 := HL.out
    rw [if_pos h0] at hL1
    have HR := hid hL1
    have hzb : (c2 == 0) = false := by simpa using h0
    have hzb2 : (c2 != 0) = true := by simpa using h0
    clear HL hL1 hr hg hci h0 hp
    go_enter Tryd.func30, Tryd.ntmps30
    go_wp2_with fail
    refine (HC.out).mono ?_
    rintro e w1 ⟨rfl, hb1⟩
    have B1 := hid hb1
    clear hb1
    go_wp2_with fail
    go_ret
    exact ⟨ret_int (by rw [HR.out]), B1.out⟩
end Go.Proofs.YtcgfeeommhljgaaDoor
