/- check.Leads, check.Inclusion and the reference's; the law's twin and kept. -/
import Derived.Test.YtcgfeeommhljgaaDoorRefLeads
import Derived.Test.YtcgfeeommhljgaaDoorCountLaw
import Derived.Test.YtcgfeeommhljgaaDoorLaw9
set_option maxRecDepth 100000
namespace Go.Proofs.YtcgfeeommhljgaaDoor
open Go Go.RowKit

theorem str_ne {a b : ByteArray} (h : ¬ a = b) : (a.toList == b.toList) = false := by
  rw [beq_eq_false_iff_ne]
  intro e
  exact h (ByteArray.ext (Array.toList_inj.1 (by simpa [ByteArray.toList_eq] using e)))
theorem check_same (a b : ByteArray) (w : World) : Calls Tryd.prog 45 #[.string a, .string b] w fun e w' => e = .returned (.int .i64 (if a = b then 0 else 90)) ∧ w = w' := by
  by_cases h : a = b
  · subst h
    rw [if_pos rfl]
    go_enter Tryd.func45, Tryd.ntmps45
    go_wp2_with fail
    go_ret
    exact ⟨rfl, rfl⟩
  · rw [if_neg h]
    have hb := str_ne h
    clear h
    go_enter Tryd.func45, Tryd.ntmps45
    go_wp2_with fail
    go_ret
    exact ⟨rfl, rfl⟩

theorem count_in (i n : Int) (h : (countN 1 i 0 n []).2 = 0) : 0 ≤ i ∧ i < n ∧ n ≤ 4611686018427387904 ∧ (countN 1 i 0 n []).1 = stepsN i.toNat n.toNat := by
  unfold countN at h ⊢
  rw [if_neg (by omega)] at h ⊢
  by_cases c1 : n < 0 ∨ 4611686018427387904 < n
  · rw [if_pos c1] at h; simp at h
  · rw [if_neg c1, if_pos rfl] at h ⊢
    by_cases c2 : i < 0 ∨ n ≤ i
    · rw [if_pos c2] at h; simp at h
    · rw [if_neg c2]; exact ⟨by omega, by omega, by omega, rfl⟩
theorem sized_zero {k count : Int} {proof others : List ByteArray} (h : sizedN k count proof others = 0) : fits (wid k) others ∧ fits (wid k) proof ∧ (proof.length : Int) = count := by
  unfold sizedN at h
  by_cases c1 : fits (wid k) (others ++ proof)
  · rw [if_neg (by simpa using c1)] at h
    by_cases c2 : (proof.length : Int) ≠ count
    · rw [if_pos c2] at h; simp at h
    · rw [fits_app] at c1; exact ⟨c1.1, c1.2, by omega⟩
  · rw [if_pos c1] at h; simp at h
/-- What Leads answers. -/
def leadsN (k i n : Int) (hash : ByteArray) (path : List ByteArray) : ByteArray × Int :=
  if (countN 1 i 0 n []).2 ≠ 0 then (⟨#[]⟩, (countN 1 i 0 n []).2) else
  if sizedN k (countN 1 i 0 n []).1 path [hash] ≠ 0 then (⟨#[]⟩, sizedN k (countN 1 i 0 n []).1 path [hash]) else
  (leadsS k hash path i.toNat n.toNat path.length, 0)
/-- What Inclusion answers. -/
def inclN (k i n : Int) (hash : ByteArray) (path : List ByteArray) (root : ByteArray) : Int :=
  if (countN 1 i 0 n []).2 ≠ 0 then (countN 1 i 0 n []).2 else
  if sizedN k (countN 1 i 0 n []).1 path [hash, root] ≠ 0 then sizedN k (countN 1 i 0 n []).1 path [hash, root] else
  if leadsS k hash path i.toNat n.toNat path.length = root then 0 else 90
/-- A row of strings in a new block. -/
theorem row_new (w : World) (xs : List ByteArray) : RowAt (w.alloc (.cells (strs' xs).toArray 9)) (some ⟨w.heap.size, 0, none⟩) (strs' xs) :=
  .inr ⟨w.heap.size, 0, rfl, fun i hi => by rw [Nat.zero_add, cell_of_row _ _ i _ _ _ (heap_alloc_new w _)]; simp [hi]⟩

theorem check_Leads (k i n : Int) (hash : ByteArray) (ao : Option Addr) (path : List ByteArray) (cap : Nat) (hao : ao = none → path.length = 0 ∧ cap = 0) (hcap : path.length ≤ cap) (hl : path.length * 16 ≤ 140737488351232) (w : World) (hr : RowAt w ao (strs' path)) (hg : GlobP w) :
    Calls Tryd.prog 11 #[.int .i64 k, .int .i64 i, .int .i64 n, .string hash, .slice ao path.length cap] w fun e w' => e = .returned (.tuple #[.string (leadsN k i n hash path).1, .int .i64 (leadsN k i n hash path).2]) ∧ Below w.heap.size w w' := by
  have hcnt := check_Count 1 i 0 n none [] 0 w (.nil _ _) (by simp)
  have hci := count_in i n
  have HL : Hid (leadsN k i n hash path = if (countN 1 i 0 n []).2 ≠ 0 then (⟨#[]⟩, (countN 1 i 0 n []).2) else if sizedN k (countN 1 i 0 n []).1 path [hash] ≠ 0 then (⟨#[]⟩, sizedN k (countN 1 i 0 n []).1 path [hash]) else (leadsS k hash path i.toNat n.toNat path.length, 0)) := rfl
  obtain ⟨r, hre⟩ : ∃ r, r = leadsN k i n hash path := ⟨_, rfl⟩
  rw [← hre] at HL ⊢
  generalize countN 1 i 0 n [] = c at *
  obtain ⟨c1, c2⟩ := c
  simp only at hci
  unfold Counted countV at hcnt
  simp only at hcnt
  have HC := hid hcnt
  clear hcnt hre
  by_cases h0 : c2 = 0
  · subst h0
    obtain ⟨hi0, hin, hn62, hst⟩ := hci rfl
    subst hst
    obtain ⟨i, rfl⟩ := Int.eq_ofNat_of_zero_le hi0
    obtain ⟨n, rfl⟩ := Int.eq_ofNat_of_zero_le (show 0 ≤ n by omega)
    simp only [Int.toNat_natCast] at HC HL
    have HSZ := hid (fun (W : World) (hW : Below w.heap.size w W) => check_sized k (stepsN i n : Nat) ao path cap (some ⟨W.heap.size, 0, none⟩) [hash] 1 (W.alloc (.cells #[.string hash] 9)) ((hr.below hW).below ((Below.refl _ _).alloc (Nat.le_refl _) _)) hao (row_new W [hash]) (by simp) (by simp; omega))
    clear hci
    by_cases hsz : sizedN k (stepsN i n : Nat) path [hash] = 0
    · obtain ⟨hf1, hf2, hpl⟩ := sized_zero hsz
      have hw := (wid_le k).1
      have hLd := hid (fun (W : World) (hW : Below w.heap.size w W) => check_leads k hash (by rw [hf1 hash (by simp)]; exact hw) path (fun x hx => by rw [hf2 x hx]; exact hw) ao cap n i n path.length (Nat.le_refl _) (by omega) (by omega) (by omega) (Nat.le_refl _) hcap W (hr.below hW) (hg.below hW))
      rw [hsz] at HSZ
      have HR : Hid (r = (leadsS k hash path i n path.length, 0)) := by
        have := HL.out
        unfold Hid
        rw [this, if_neg (by simp), if_neg (by simpa using hsz)]
      clear HL hsz hf1 hf2 hpl hr hg
      go_enter Tryd.func11, Tryd.ntmps11
      go_wp2_with fail
      refine (HC.out).mono ?_
      rintro e w1 ⟨rfl, hb1⟩
      have B1 := hid hb1
      clear hb1
      go_wp2_with fail
      refine (HSZ.out _ B1.out).mono ?_
      rintro e w2 ⟨rfl, hb2⟩
      have B2 := hid (Below.then' (B1.out.alloc B1.out.size _) hb2)
      clear hb2
      go_wp2_with fail
      refine (hLd.out _ B2.out).mono ?_
      rintro e w3 ⟨rfl, hb3⟩
      have B3 := hid (Below.then' B2.out hb3)
      clear hb3
      go_wp2_with fail
      go_ret2
      exact ⟨ret2 (by rw [HR.out]; rfl) (by rw [HR.out]; rfl), B3.out⟩
    · have HR : Hid (r = (⟨#[]⟩, sizedN k (stepsN i n : Nat) path [hash])) := by
        have := HL.out
        unfold Hid
        rw [this, if_neg (by simp), if_pos hsz]
      clear HL hr hg
      obtain ⟨z, hz⟩ : ∃ z, z = sizedN k (stepsN i n : Nat) path [hash] := ⟨_, rfl⟩
      rw [← hz] at HSZ HR hsz
      have hzb : (z == 0) = false := by simpa using hsz
      have hzb2 : (z != 0) = true := by simpa using hsz
      clear hz hsz
      go_enter Tryd.func11, Tryd.ntmps11
      go_wp2_with fail
      refine (HC.out).mono ?_
      rintro e w1 ⟨rfl, hb1⟩
      have B1 := hid hb1
      clear hb1
      go_wp2_with fail
      refine (HSZ.out _ B1.out).mono ?_
      rintro e w2 ⟨rfl, hb2⟩
      have B2 := hid (Below.then' (B1.out.alloc B1.out.size _) hb2)
      clear hb2
      go_wp2_with fail
      go_ret2
      exact ⟨ret2 (by rw [HR.out]; rfl) (by rw [HR.out]; rfl), B2.out⟩
  · have HR : Hid (r = (⟨#[]⟩, c2)) := by
      have := HL.out
      unfold Hid
      rw [this, if_pos h0]
    have hzb : (c2 == 0) = false := by simpa using h0
    have hzb2 : (c2 != 0) = true := by simpa using h0
    clear HL hr hg hci h0
    go_enter Tryd.func11, Tryd.ntmps11
    go_wp2_with fail
    refine (HC.out).mono ?_
    rintro e w1 ⟨rfl, hb1⟩
    have B1 := hid hb1
    clear hb1
    go_wp2_with fail
    go_ret2
    exact ⟨ret2 (by rw [HR.out]; rfl) (by rw [HR.out]; rfl), B1.out⟩

theorem ref_Leads (k i n : Int) (hash : ByteArray) (ao : Option Addr) (path : List ByteArray) (cap : Nat) (_hao : ao = none → path.length = 0 ∧ cap = 0) (hcap : path.length ≤ cap) (hl : path.length * 16 ≤ 140737488351232) (w : World) (hr : RowAt w ao (strs' path)) (hg : GlobR w) :
    Calls Tryd.prog 12 #[.int .i64 k, .int .i64 i, .int .i64 n, .string hash, .slice ao path.length cap] w fun e w' => e = .returned (.tuple #[.string (leadsN k i n hash path).1, .int .i64 (leadsN k i n hash path).2]) ∧ Below w.heap.size w w' := by
  have hcnt := ref_Count 1 i 0 n none [] 0 w (.nil _ _) (by simp)
  rw [← count_same] at hcnt
  have hci := count_in i n
  have HL : Hid (leadsN k i n hash path = if (countN 1 i 0 n []).2 ≠ 0 then (⟨#[]⟩, (countN 1 i 0 n []).2) else if sizedN k (countN 1 i 0 n []).1 path [hash] ≠ 0 then (⟨#[]⟩, sizedN k (countN 1 i 0 n []).1 path [hash]) else (leadsS k hash path i.toNat n.toNat path.length, 0)) := rfl
  obtain ⟨r, hre⟩ : ∃ r, r = leadsN k i n hash path := ⟨_, rfl⟩
  rw [← hre] at HL ⊢
  generalize countN 1 i 0 n [] = c at *
  obtain ⟨c1, c2⟩ := c
  simp only at hci
  unfold Counted countV at hcnt
  simp only at hcnt
  have HC := hid hcnt
  clear hcnt hre
  by_cases h0 : c2 = 0
  · subst h0
    obtain ⟨hi0, hin, hn62, hst⟩ := hci rfl
    subst hst
    obtain ⟨i, rfl⟩ := Int.eq_ofNat_of_zero_le hi0
    obtain ⟨n, rfl⟩ := Int.eq_ofNat_of_zero_le (show 0 ≤ n by omega)
    simp only [Int.toNat_natCast] at HC HL
    have HSZ := hid (fun (W : World) (hW : Below w.heap.size w W) => ref_looked k (stepsN i n : Nat) ao path cap (some ⟨W.heap.size, 0, none⟩) [hash] 1 (by omega) (by simp) (W.alloc (.cells #[.string hash] 9)) ((hr.below hW).below ((Below.refl _ _).alloc (Nat.le_refl _) _)) (row_new W [hash]))
    clear hci
    by_cases hsz : sizedN k (stepsN i n : Nat) path [hash] = 0
    · obtain ⟨hf1, hf2, hpl⟩ := sized_zero hsz
      have hw := (wid_le k).1
      have hLd := hid (fun (W : World) (hW : Below w.heap.size w W) => ref_leads (wid k : Int) hash (by rw [hf1 hash (by simp)]; exact hw) path (fun x hx => by rw [hf2 x hx]; exact hw) ao cap n i n path.length (Nat.le_refl _) (by omega) (by omega) (by omega) (Nat.le_refl _) hcap W (hr.below hW) (hg.below hW))
      rw [hsz] at HSZ
      rw [leadsS_wid k hash path n i n path.length (Nat.le_refl _)] at hLd
      have HR : Hid (r = (leadsS k hash path i n path.length, 0)) := by
        have := HL.out
        unfold Hid
        rw [this, if_neg (by simp), if_neg (by simpa using hsz)]
      clear HL hsz hf1 hf2 hpl hr hg
      go_enter Tryd.func12, Tryd.ntmps12
      go_wp2_with fail
      refine (HC.out).mono ?_
      rintro e w1 ⟨rfl, hb1⟩
      have B1 := hid hb1
      clear hb1
      go_wp2_with fail
      refine (ref_width k _).mono ?_
      rintro e w' ⟨rfl, rfl⟩
      go_wp2_with fail
      refine (HSZ.out _ B1.out).mono ?_
      rintro e w2 ⟨rfl, rfl⟩
      have B2 := hid (B1.out.alloc B1.out.size (.cells #[.string hash] 9))
      go_wp2_with fail
      refine (hLd.out _ B2.out).mono ?_
      rintro e w3 ⟨rfl, hb3⟩
      have B3 := hid (Below.then' B2.out hb3)
      clear hb3
      go_wp2_with fail
      go_ret2
      exact ⟨ret2 (by rw [HR.out]; rfl) (by rw [HR.out]; rfl), B3.out⟩
    · have HR : Hid (r = (⟨#[]⟩, sizedN k (stepsN i n : Nat) path [hash])) := by
        have := HL.out
        unfold Hid
        rw [this, if_neg (by simp), if_pos hsz]
      clear HL hr hg
      obtain ⟨z, hz⟩ : ∃ z, z = sizedN k (stepsN i n : Nat) path [hash] := ⟨_, rfl⟩
      rw [← hz] at HSZ HR hsz
      have hzb : (z == 0) = false := by simpa using hsz
      have hzb2 : (z != 0) = true := by simpa using hsz
      clear hz hsz
      go_enter Tryd.func12, Tryd.ntmps12
      go_wp2_with fail
      refine (HC.out).mono ?_
      rintro e w1 ⟨rfl, hb1⟩
      have B1 := hid hb1
      clear hb1
      go_wp2_with fail
      refine (ref_width k _).mono ?_
      rintro e w' ⟨rfl, rfl⟩
      go_wp2_with fail
      refine (HSZ.out _ B1.out).mono ?_
      rintro e w2 ⟨rfl, rfl⟩
      have B2 := hid (B1.out.alloc B1.out.size (.cells #[.string hash] 9))
      go_wp2_with fail
      go_ret2
      exact ⟨ret2 (by rw [HR.out]; rfl) (by rw [HR.out]; rfl), B2.out⟩
  · have HR : Hid (r = (⟨#[]⟩, c2)) := by
      have := HL.out
      unfold Hid
      rw [this, if_pos h0]
    have hzb : (c2 == 0) = false := by simpa using h0
    have hzb2 : (c2 != 0) = true := by simpa using h0
    clear HL hr hg hci h0
    go_enter Tryd.func12, Tryd.ntmps12
    go_wp2_with fail
    refine (HC.out).mono ?_
    rintro e w1 ⟨rfl, hb1⟩
    have B1 := hid hb1
    clear hb1
    go_wp2_with fail
    go_ret2
    exact ⟨ret2 (by rw [HR.out]; rfl) (by rw [HR.out]; rfl), B1.out⟩
end Go.Proofs.YtcgfeeommhljgaaDoor
