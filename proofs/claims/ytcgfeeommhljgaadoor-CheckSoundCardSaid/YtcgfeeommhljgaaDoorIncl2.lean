/- check.Inclusion and the reference's; the law's twin and kept. -/
import Derived.Test.YtcgfeeommhljgaaDoorIncl
set_option maxRecDepth 100000
namespace Go.Proofs.YtcgfeeommhljgaaDoor
open Go Go.RowKit

theorem check_Inclusion (k i n : Int) (hash : ByteArray) (ao : Option Addr) (path : List ByteArray) (cap : Nat) (root : ByteArray) (hao : ao = none → path.length = 0 ∧ cap = 0) (hcap : path.length ≤ cap) (hl : path.length * 16 ≤ 140737488351232) (w : World) (hr : RowAt w ao (strs' path)) (hg : GlobP w) :
    Calls Tryd.prog 13 #[.int .i64 k, .int .i64 i, .int .i64 n, .string hash, .slice ao path.length cap, .string root] w fun e w' => e = .returned (.int .i64 (inclN k i n hash path root)) ∧ Below w.heap.size w w' := by
  have hcnt := check_Count 1 i 0 n none [] 0 w (.nil _ _) (by simp)
  have hci := count_in i n
  have HL : Hid (inclN k i n hash path root = if (countN 1 i 0 n []).2 ≠ 0 then (countN 1 i 0 n []).2 else if sizedN k (countN 1 i 0 n []).1 path [hash, root] ≠ 0 then sizedN k (countN 1 i 0 n []).1 path [hash, root] else if leadsS k hash path i.toNat n.toNat path.length = root then 0 else 90) := rfl
  obtain ⟨r, hre⟩ : ∃ r, r = inclN k i n hash path root := ⟨_, rfl⟩
  rw [← hre] at HL ⊢
  generalize countN 1 i 0 n [] = c at *
  obtain ⟨c1, c2⟩ := c
  simp only at hci
  unfold Counted countV at hcnt
  simp only at hcnt
  have HC := hid hcnt
  clear hcnt hre
  by_cases h0 : c2 = 0
  · subst h0
    obtain ⟨hi0, hin, hn62, hst⟩ := hci rfl
    subst hst
    obtain ⟨i, rfl⟩ := Int.eq_ofNat_of_zero_le hi0
    obtain ⟨n, rfl⟩ := Int.eq_ofNat_of_zero_le (show 0 ≤ n by omega)
    simp only [Int.toNat_natCast] at HC HL
    have HSZ := hid (fun (W : World) (hW : Below w.heap.size w W) => check_sized k (stepsN i n : Nat) ao path cap (some ⟨W.heap.size, 0, none⟩) [hash, root] 2 (W.alloc (.cells #[.string hash, .string root] 9)) ((hr.below hW).below ((Below.refl _ _).alloc (Nat.le_refl _) _)) hao (row_new W [hash, root]) (by simp) (by simp; omega))
    clear hci
    by_cases hsz : sizedN k (stepsN i n : Nat) path [hash, root] = 0
    · obtain ⟨hf1, hf2, hpl⟩ := sized_zero hsz
      have hw := (wid_le k).1
      have hLd := hid (fun (W : World) (hW : Below w.heap.size w W) => check_leads k hash (by rw [hf1 hash (by simp)]; exact hw) path (fun x hx => by rw [hf2 x hx]; exact hw) ao cap n i n path.length (Nat.le_refl _) (by omega) (by omega) (by omega) (Nat.le_refl _) hcap W (hr.below hW) (hg.below hW))
      rw [hsz] at HSZ
      have HR : Hid (r = if leadsS k hash path i n path.length = root then 0 else 90) := by
        have := HL.out
        unfold Hid
        rw [this, if_neg (by simp), if_neg (by simpa using hsz)]
      clear HL hsz hf1 hf2 hpl hr hg
      obtain ⟨q, hq⟩ : ∃ q, q = leadsS k hash path i n path.length := ⟨_, rfl⟩
      rw [← hq] at hLd HR
      clear hq
      go_enter Tryd.func13, Tryd.ntmps13
      go_wp2_with fail
      refine (HC.out).mono ?_
      rintro e w1 ⟨rfl, hb1⟩
      have B1 := hid hb1
      clear hb1
      go_wp2_with fail
      refine (HSZ.out _ B1.out).mono ?_
      rintro e w2 ⟨rfl, hb2⟩
      have B2 := hid (Below.then' (B1.out.alloc B1.out.size _) hb2)
      clear hb2
      go_wp2_with fail
      refine (hLd.out _ B2.out).mono ?_
      rintro e w3 ⟨rfl, hb3⟩
      have B3 := hid (Below.then' B2.out hb3)
      clear hb3
      go_wp2_with fail
      refine (check_same q root _).mono ?_
      rintro e w' ⟨rfl, rfl⟩
      rw [← HR.out]
      go_wp2_with fail
      go_ret
      exact ⟨rfl, B3.out⟩
    · have HR : Hid (r = sizedN k (stepsN i n : Nat) path [hash, root]) := by
        have := HL.out
        unfold Hid
        rw [this, if_neg (by simp), if_pos hsz]
      clear HL hr hg
      obtain ⟨z, hz⟩ : ∃ z, z = sizedN k (stepsN i n : Nat) path [hash, root] := ⟨_, rfl⟩
      rw [← hz] at HSZ HR hsz
      have hzb : (z == 0) = false := by simpa using hsz
      have hzb2 : (z != 0) = true := by simpa using hsz
      clear hz hsz
      go_enter Tryd.func13, Tryd.ntmps13
      go_wp2_with fail
      refine (HC.out).mono ?_
      rintro e w1 ⟨rfl, hb1⟩
      have B1 := hid hb1
      clear hb1
      go_wp2_with fail
      refine (HSZ.out _ B1.out).mono ?_
      rintro e w2 ⟨rfl, hb2⟩
      have B2 := hid (Below.then' (B1.out.alloc B1.out.size _) hb2)
      clear hb2
      go_wp2_with fail
      go_ret
      exact ⟨ret_int (by rw [HR.out]), B2.out⟩
  · have HR : Hid (r = c2) := by
      have := HL.out
      unfold Hid
      rw [this, if_pos h0]
    have hzb : (c2 == 0) = false := by simpa using h0
    have hzb2 : (c2 != 0) = true := by simpa using h0
    clear HL hr hg hci h0
    go_enter Tryd.func13, Tryd.ntmps13
    go_wp2_with fail
    refine (HC.out).mono ?_
    rintro e w1 ⟨rfl, hb1⟩
    have B1 := hid hb1
    clear hb1
    go_wp2_with fail
    go_ret
    exact ⟨ret_int (by rw [HR.out]), B1.out⟩

theorem ref_Inclusion (k i n : Int) (hash : ByteArray) (ao : Option Addr) (path : List ByteArray) (cap : Nat) (root : ByteArray) (_hao : ao = none → path.length = 0 ∧ cap = 0) (hcap : path.length ≤ cap) (hl : path.length * 16 ≤ 140737488351232) (w : World) (hr : RowAt w ao (strs' path)) (hg : GlobR w) :
    Calls Tryd.prog 14 #[.int .i64 k, .int .i64 i, .int .i64 n, .string hash, .slice ao path.length cap, .string root] w fun e w' => e = .returned (.int .i64 (inclN k i n hash path root)) ∧ Below w.heap.size w w' := by
  have hcnt := ref_Count 1 i 0 n none [] 0 w (.nil _ _) (by simp)
  rw [← count_same] at hcnt
  have hci := count_in i n
  have HL : Hid (inclN k i n hash path root = if (countN 1 i 0 n []).2 ≠ 0 then (countN 1 i 0 n []).2 else if sizedN k (countN 1 i 0 n []).1 path [hash, root] ≠ 0 then sizedN k (countN 1 i 0 n []).1 path [hash, root] else if leadsS k hash path i.toNat n.toNat path.length = root then 0 else 90) := rfl
  obtain ⟨r, hre⟩ : ∃ r, r = inclN k i n hash path root := ⟨_, rfl⟩
  rw [← hre] at HL ⊢
  generalize countN 1 i 0 n [] = c at *
  obtain ⟨c1, c2⟩ := c
  simp only at hci
  unfold Counted countV at hcnt
  simp only at hcnt
  have HC := hid hcnt
  clear hcnt hre
  by_cases h0 : c2 = 0
  · subst h0
    obtain ⟨hi0, hin, hn62, hst⟩ := hci rfl
    subst hst
    obtain ⟨i, rfl⟩ := Int.eq_ofNat_of_zero_le hi0
    obtain ⟨n, rfl⟩ := Int.eq_ofNat_of_zero_le (show 0 ≤ n by omega)
    simp only [Int.toNat_natCast] at HC HL
    have HSZ := hid (fun (W : World) (hW : Below w.heap.size w W) => ref_looked k (stepsN i n : Nat) ao path cap (some ⟨W.heap.size, 0, none⟩) [hash, root] 2 (by omega) (by simp) (W.alloc (.cells #[.string hash, .string root] 9)) ((hr.below hW).below ((Below.refl _ _).alloc (Nat.le_refl _) _)) (row_new W [hash, root]))
    clear hci
    by_cases hsz : sizedN k (stepsN i n : Nat) path [hash, root] = 0
    · obtain ⟨hf1, hf2, hpl⟩ := sized_zero hsz
      have hw := (wid_le k).1
      have hLd := hid (fun (W : World) (hW : Below w.heap.size w W) => ref_leads (wid k : Int) hash (by rw [hf1 hash (by simp)]; exact hw) path (fun x hx => by rw [hf2 x hx]; exact hw) ao cap n i n path.length (Nat.le_refl _) (by omega) (by omega) (by omega) (Nat.le_refl _) hcap W (hr.below hW) (hg.below hW))
      rw [hsz] at HSZ
      rw [leadsS_wid k hash path n i n path.length (Nat.le_refl _)] at hLd
      have HR : Hid (r = if leadsS k hash path i n path.length = root then 0 else 90) := by
        have := HL.out
        unfold Hid
        rw [this, if_neg (by simp), if_neg (by simpa using hsz)]
      clear HL hsz hf1 hf2 hpl hr hg
      obtain ⟨q, hq⟩ : ∃ q, q = leadsS k hash path i n path.length := ⟨_, rfl⟩
      rw [← hq] at hLd HR
      clear hq
      by_cases hqr : q = root
      · rw [hqr] at hLd HR
        rw [if_pos rfl] at HR
        clear hqr
        go_enter Tryd.func14, Tryd.ntmps14
        go_wp2_with fail
        refine (HC.out).mono ?_
        rintro e w1 ⟨rfl, hb1⟩
        have B1 := hid hb1
        clear hb1
        go_wp2_with fail
        refine (ref_width k _).mono ?_
        rintro e w' ⟨rfl, rfl⟩
        go_wp2_with fail
        refine (HSZ.out _ B1.out).mono ?_
        rintro e w2 ⟨rfl, rfl⟩
        have B2 := hid (B1.out.alloc B1.out.size (.cells #[.string hash, .string root] 9))
        skip
        go_wp2_with fail
        refine (hLd.out _ B2.out).mono ?_
        rintro e w3 ⟨rfl, hb3⟩
        have B3 := hid (Below.then' B2.out hb3)
        clear hb3
        go_wp2_with fail
        go_ret
        exact ⟨ret_int (by rw [HR.out]), B3.out⟩
      · rw [if_neg hqr] at HR
        have hb := str_ne hqr
        clear hqr
        go_enter Tryd.func14, Tryd.ntmps14
        go_wp2_with fail
        refine (HC.out).mono ?_
        rintro e w1 ⟨rfl, hb1⟩
        have B1 := hid hb1
        clear hb1
        go_wp2_with fail
        refine (ref_width k _).mono ?_
        rintro e w' ⟨rfl, rfl⟩
        go_wp2_with fail
        refine (HSZ.out _ B1.out).mono ?_
        rintro e w2 ⟨rfl, rfl⟩
        have B2 := hid (B1.out.alloc B1.out.size (.cells #[.string hash, .string root] 9))
        skip
        go_wp2_with fail
        refine (hLd.out _ B2.out).mono ?_
        rintro e w3 ⟨rfl, hb3⟩
        have B3 := hid (Below.then' B2.out hb3)
        clear hb3
        go_wp2_with fail
        go_ret
        exact ⟨ret_int (by rw [HR.out]), B3.out⟩
    · have HR : Hid (r = sizedN k (stepsN i n : Nat) path [hash, root]) := by
        have := HL.out
        unfold Hid
        rw [this, if_neg (by simp), if_pos hsz]
      clear HL hr hg
      obtain ⟨z, hz⟩ : ∃ z, z = sizedN k (stepsN i n : Nat) path [hash, root] := ⟨_, rfl⟩
      rw [← hz] at HSZ HR hsz
      have hzb : (z == 0) = false := by simpa using hsz
      have hzb2 : (z != 0) = true := by simpa using hsz
      clear hz hsz
      go_enter Tryd.func14, Tryd.ntmps14
      go_wp2_with fail
      refine (HC.out).mono ?_
      rintro e w1 ⟨rfl, hb1⟩
      have B1 := hid hb1
      clear hb1
      go_wp2_with fail
      refine (ref_width k _).mono ?_
      rintro e w' ⟨rfl, rfl⟩
      go_wp2_with fail
      refine (HSZ.out _ B1.out).mono ?_
      rintro e w2 ⟨rfl, rfl⟩
      have B2 := hid (B1.out.alloc B1.out.size (.cells #[.string hash, .string root] 9))
      skip
      go_wp2_with fail
      go_ret
      exact ⟨ret_int (by rw [HR.out]), B2.out⟩
  · have HR : Hid (r = c2) := by
      have := HL.out
      unfold Hid
      rw [this, if_pos h0]
    have hzb : (c2 == 0) = false := by simpa using h0
    have hzb2 : (c2 != 0) = true := by simpa using h0
    clear HL hr hg hci h0
    go_enter Tryd.func14, Tryd.ntmps14
    go_wp2_with fail
    refine (HC.out).mono ?_
    rintro e w1 ⟨rfl, hb1⟩
    have B1 := hid hb1
    clear hb1
    go_wp2_with fail
    go_ret
    exact ⟨ret_int (by rw [HR.out]), B1.out⟩

/-- A list's twin: a row of its own, with a mark behind it. -/
def markS : ByteArray := ⟨#[109, 97, 114, 107]⟩
def TwinS (w w' : World) (v : Value) (xs : List ByteArray) : Prop :=
  ∃ g cap, v = .slice (some ⟨g, 0, none⟩) xs.length cap ∧ xs.length + 1 ≤ cap ∧ w.heap.size ≤ g ∧ (∀ i (h : i < (xs ++ [markS]).length), w'.cell? ⟨g, i, none⟩ = some (.string (xs ++ [markS])[i])) ∧ Below w.heap.size w w'

theorem law_twin (ao : Option Addr) (xs : List ByteArray) (cap : Nat) (w : World) (hx : RowAt w ao (strs' xs)) (hao : ao = none → xs.length = 0 ∧ cap = 0) (hl : xs.length * 16 ≤ 140737488351232) :
    Calls Tryd.prog 10 #[.slice ao xs.length cap] w fun e w' => ∃ v, e = .returned v ∧ TwinS w w' v xs := by
  go_enter Tryd.func10, Tryd.ntmps10
  have hbytes : ((strs' xs).length + 1) * 16 ≤ 140737488355328 := by rw [strs'_length]; omega
  have hmark : strs' xs ++ [Value.string markS] = strs' (xs ++ [markS]) := by simp [strs']
  have HM := hid hmark
  clear hmark
  go_wp2_with (first
    | (at_builtin; refine wp_append_all w.heap.size rfl (.tmp 4) (.tmp 5) 22 9 (.string ⟨#[]⟩) 16 rfl Tryd.underlying22 info_str rfl (by omega) _ [] (strs' xs) ao xs.length cap rfl rfl (strs'_length xs) (strs_one xs) hx hao (World.ownsRow_nil _ _ _ _) (Nat.le_refl _) (by simp; omega) ?_; intro v1 w1 hown1 hb1; rw [List.nil_append] at hown1; have H1 := hid hown1; have B1 := hid hb1; clear hown1 hb1 hx hao)
    | (at_builtin; refine wp_append1 w.heap.size rfl (.tmp 7) (.tmp 8) 22 9 (.string ⟨#[]⟩) 16 rfl Tryd.underlying22 info_str rfl (by omega) _ _ (.string markS) rfl rfl rfl H1.out (B1.out.size) hbytes ?_; intro v2 w2 hown2 hb2; rw [HM.out] at hown2; have B2 := hid (B1.out.trans hb2); obtain ⟨g, cap2, rfl, hg, hcap, _, _, _, hc⟩ := own_form hown2 (by simp [strs']); rw [strs'_length, List.length_append, List.length_singleton] at hcap ⊢; have HC := hid hc; clear hown2 hb2 hc))
  go_ret
  exact ⟨_, rfl, g, cap2, rfl, hcap, hg, fun i hi => by rw [HC.out i (by rw [strs'_length]; exact hi), strsG], B2.out⟩

theorem law_kept (v : Value) (w0 w : World) (ao : Option Addr) (xs : List ByteArray) (cap : Nat) (wt : World) (hv : TwinS w0 wt v xs) (hbt : Below wt.heap.size wt w) (hx : RowAt w ao (strs' xs)) (hl : xs.length * 16 ≤ 140737488351232) :
    Calls Tryd.prog 15 #[v, .slice ao xs.length cap] w fun e w' => e = .returned (.bool true) ∧ Below w.heap.size w w' := by
  obtain ⟨g, cap2, rfl, hcap, hg, hcell, _⟩ := hv
  have hcw : ∀ i (h : i < (xs ++ [markS]).length), w.cell? ⟨g, i, none⟩ = some (.string (xs ++ [markS])[i]) := fun i hi =>
    (hbt.cell (World.block_lt_of_cell? wt _ (hcell i hi))).trans (hcell i hi)
  have hlast := hcw xs.length (by simp)
  rw [List.getElem_concat_length rfl] at hlast
  have hmk : (markS.toList == [109, 97, 114, 107]) = true := by rw [beq_iff_eq, ByteArray.toList_eq]; rfl
  have hc1 : (xs.length : Int) + 1 ≤ (cap2 : Int) := by omega
  go_enter Tryd.func15, Tryd.ntmps15
  go_wp2_with fail
  go_loopw [6] (fun i' wr => ∃ i : Nat, i' = .int .i64 i ∧ i ≤ xs.length ∧ Below w.heap.size w wr) (fun i' _ => (xs.length - intOf i').toNat)
  case atStart => exact ⟨0, rfl, by omega, Below.refl _ _⟩
  case round =>
    obtain ⟨i, rfl, hi, hbw⟩ := hrel
    have HB := hid hbw
    by_cases hlt : i < xs.length
    · have hx' := hx.below hbw
      obtain ⟨b, off, rfl, hc⟩ := hx'.strG (k := i) hlt
      have hc1 := hc i hlt
      have hc2 := (hbw.cell (World.block_lt_of_cell? w _ (hcw i (by simp; omega)))).trans (hcw i (by simp; omega))
      rw [List.getElem_append_left hlt] at hc2
      obtain ⟨y, hy⟩ : ∃ y, y = xs[i] := ⟨_, rfl⟩
      rw [← hy] at hc1 hc2
      clear hx hx' hc hy hbw hcw hlast hcell hbt
      go_wp2_with fail
      go_quiet (fail)
      go_wp2_with fail
      go_roundw
      case rel => exact ⟨i + 1, by go_num, by omega, below_drewN HB.out _⟩
      case measure => simp [intOf]; omega
    · clear hx hbw hcw hlast hcell hbt
      go_wp2_with fail
      go_ret
      exact ⟨rfl, HB.out⟩
end Go.Proofs.YtcgfeeommhljgaaDoor
