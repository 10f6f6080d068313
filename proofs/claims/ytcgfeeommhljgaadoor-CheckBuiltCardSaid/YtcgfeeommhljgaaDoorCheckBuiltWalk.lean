/- The walk of annalslaw9.CheckBuilt (printed by wip/mkbuilt.py). -/
import Derived.Test.YtcgfeeommhljgaaDoorBuilt
import Derived.Test.YtcgfeeommhljgaaDoorCheckInclusionWalk
set_option maxRecDepth 100000
namespace Go.Proofs.YtcgfeeommhljgaaDoor
open Go Go.RowKit

theorem own_any {w : World} {base e n : Nat} {v : Value} {xs : List Value} (h : w.ownsRow base e 1 v n xs) : ∃ ao cap, v = .slice ao n cap ∧ n ≤ cap ∧ (ao = none → n = 0 ∧ cap = 0) ∧ RowAt w ao xs := by
  have hl : xs.length = n := by have := h.1; omega
  by_cases h0 : 0 < xs.length
  · obtain ⟨g, cap, hv, _, hc, _, _, _, hcell⟩ := own_form h h0
    exact ⟨some ⟨g, 0, none⟩, cap, by rw [hv, hl], by omega, by simp, .inr ⟨g, 0, rfl, fun i hi => by rw [Nat.zero_add]; exact hcell i hi⟩⟩
  · have hx : xs = [] := List.eq_nil_of_length_eq_zero (by omega)
    rcases h.2 with ⟨hv, hn⟩ | ⟨g, cap, cur, hv, _, _, hc, _⟩
    · exact ⟨none, 0, by rw [hv, hn], by omega, fun _ => ⟨hn, rfl⟩, .inl hx⟩
    · exact ⟨some ⟨g, 0, none⟩, cap, hv, hc, by simp, .inl hx⟩
theorem own_under {B : Nat} {e : TypeId} {v : Value} {n : Nat} {xs : List Value} {w w' : World} (h : w.ownsRow B e 1 v n xs) (hb : Below w.heap.size w w') : w'.ownsRow B e 1 v n xs := by
  refine ⟨h.1, ?_⟩
  rcases h.2 with h0 | ⟨g, cap, cur, h1, h2, h3, h4⟩
  · exact .inl h0
  · exact .inr ⟨g, cap, cur, h1, h2, (hb.block g (Array.getElem?_eq_some_iff.1 h3).1).trans h3, h4⟩
def anotherS : ByteArray := ⟨#[97, 110, 111, 116, 104, 101, 114]⟩

set_option maxHeartbeats 600000 in
theorem law_CheckBuilt (k i n : Int) (hash : ByteArray) (ao : Option Addr) (xs : List ByteArray) (cap : Nat) (w : World) (_bk : -9223372036854775808 ≤ k ∧ k ≤ 9223372036854775807) (_bi : -9223372036854775808 ≤ i ∧ i ≤ 9223372036854775807) (_bn : -9223372036854775808 ≤ n ∧ n ≤ 9223372036854775807) (sh : hash.size ≤ 140737488351232)
    (hx : RowAt w ao (strs' xs)) (_hao : ao = none → xs.length = 0 ∧ cap = 0) (hl : xs.length * 16 ≤ 140737488351232) (hxs : ∀ x ∈ xs, x.size ≤ 140737488351232) (hg : GlobP w) :
    Calls Tryd.prog 4 #[.int .i64 k, .int .i64 i, .int .i64 n, .string hash, .slice ao xs.length cap] w fun e w' => e = .returned (.bool true) ∧ Below w.heap.size w w' := by
  have hcnt := check_Count 1 i 0 n none [] 0 w (.nil _ _) (by simp)
  have hci := count_in i n
  have hbad := count_bad i n
  generalize countN 1 i 0 n [] = c at hcnt hci hbad
  obtain ⟨c1, c2⟩ := c
  simp only at hci hbad
  unfold Counted countV at hcnt
  simp only at hcnt
  have HC := hid hcnt
  clear hcnt
  by_cases h0 : c2 = 0
  · subst h0
    obtain ⟨hi0, hin, hn62, hst⟩ := hci rfl
    subst hst
    obtain ⟨i, rfl⟩ := Int.eq_ofNat_of_zero_le hi0
    obtain ⟨n, rfl⟩ := Int.eq_ofNat_of_zero_le (show 0 ≤ n by omega)
    simp only [Int.toNat_natCast] at HC
    have hCe := fun W => nums_Ceil (n : Int) (by omega) W
    rw [Int.toNat_natCast] at hCe
    have HCe := hid hCe
    have h62 := steps62 i n (by omega)
    have hcl := stepsN_le i n
    have hw := (wid_le k).1
    have hh : (cutS hash.data.toList k).size = wid k := cutS_size _ _
    have PL := hid (fun ps hf hl => built_leads k i n (by omega) (by omega) (cutS hash.data.toList k) hh ps hf hl)
    have PI := hid (fun ps hf hl r hr => built_incl k i n (by omega) (by omega) (cutS hash.data.toList k) hh ps hf hl r hr)
    have PC := hid (fun ps hf hl r hr => built_count k i n (by omega) (by omega) (cutS hash.data.toList k) hh ps hf hl r hr)
    have HCut := hid (fun (t : ByteArray) (ht : t.size ≤ 140737488351232) (W : World) (hW : GlobP W) => sha_Cut t (by omega) k W hW)
    have HCutH := hid (fun (W : World) (hW : GlobP W) => sha_Cut hash (by omega) k W hW)
    have HLd := hid (fun (W : World) (hW : GlobP W) (ao : Option Addr) (ps : List ByteArray) (cap : Nat) (hr : RowAt W ao (strs' ps)) (hao : ao = none → ps.length = 0 ∧ cap = 0) (hcap : ps.length ≤ cap) (hl : ps.length ≤ 100) => check_Leads k i n (cutS hash.data.toList k) ao ps cap hao hcap (by omega) W hr hW)
    have HIn := hid (fun (W : World) (hW : GlobP W) (ao : Option Addr) (ps : List ByteArray) (cap : Nat) (root : ByteArray) (hr : RowAt W ao (strs' ps)) (hao : ao = none → ps.length = 0 ∧ cap = 0) (hcap : ps.length ≤ cap) (hl : ps.length ≤ 100) => check_Inclusion k i n (cutS hash.data.toList k) ao ps cap root hao hcap (by omega) W hr hW)
    have HG := hid hg
    have HX := hid hx
    have HXs := hid hxs
    clear hci hbad hg hx hxs hCe
    generalize cutS hash.data.toList k = h at *
    generalize stepsN i n = c at *
    generalize ceilN n = t at *
    have HLw := hid (fun (ps : List ByteArray) => leadsS_wide k h ps i n ps.length hh)
    go_enter Tryd.func4, Tryd.ntmps4
    go_wp2_with fail
    refine (HC.out).mono ?_
    rintro e w1 ⟨rfl, hb1⟩
    have B1 := hid hb1
    clear hb1
    go_wp2_with fail
    refine (HCe.out _).mono ?_
    rintro e w' ⟨rfl, rfl⟩
    go_wp2_with fail
    refine (HCutH.out _ (HG.out.below B1.out)).mono ?_
    rintro e w2 ⟨rfl, hb2⟩
    have B2 := hid (Below.then' B1.out hb2)
    clear hb2
    go_wp2_with fail
    go_loopw [14, 15] (fun v' j' wr => ∃ ps : List ByteArray, j' = .int .i64 ps.length ∧ ps.length ≤ c ∧ fits (wid k) ps ∧ wr.ownsRow w.heap.size 9 1 v' (strs' ps).length (strs' ps) ∧ Below w.heap.size w wr) (fun _ j' _ => c - (intOf j').toNat)
    case atStart => exact ⟨[], rfl, by simp, by intro x hx; simp at hx, World.ownsRow_nil _ _ _ _, B2.out⟩
    case round =>
      clear B1 B2
      obtain ⟨ps, rfl, hle, hf, hown, hbw⟩ := hrel
      have HF := hid hf
      have HO := hid hown
      have HB := hid hbw
      clear hf hown hbw
      by_cases hlt : ps.length < c
      · have hbytes : ((strs' ps).length + 1) * 16 ≤ 140737488355328 := by rw [strs'_length]; omega
        by_cases hx0 : xs.length = 0
        · have hx0I : ¬ (0 : Int) < (xs.length : Int) := by omega
          clear hx0
          go_wp2_with fail
          refine (HCut.out _ (by decide) _ (HG.out.below HB.out)).mono ?_
          rintro e w3 ⟨rfl, hb3⟩
          have B3 := hid (Below.then' HB.out hb3)
          have HO3 := hid (own_under HO.out hb3)
          clear hb3
          go_wp2_with (at_builtin; refine wp_append1 w.heap.size rfl (.tmp 74) (.tmp 78) 22 9 (.string ⟨#[]⟩) 16 rfl Tryd.underlying22 info_str rfl (by omega) _ _ _ rfl rfl rfl HO3.out B3.out.size hbytes ?_; intro v1 w4 hown4 hb4; have HO4 := hid hown4; have B4 := hid (B3.out.trans hb4); clear hown4 hb4)
          go_roundw
          case rel =>
            have hrel := fun (z : ByteArray) (hz : z.size = wid k) (ho : w4.ownsRow w.heap.size 9 1 v1 (strs' ps ++ [Value.string z]).length (strs' ps ++ [Value.string z])) => (show ∃ qs : List ByteArray, Value.int .i64 ((ps.length : Int) + 1) = .int .i64 qs.length ∧ qs.length ≤ c ∧ fits (wid k) qs ∧ w4.ownsRow w.heap.size 9 1 v1 (strs' qs).length (strs' qs) ∧ Below w.heap.size w w4 from
              ⟨ps ++ [z], by simp, by simp; omega, (fits_app _ _ _).2 ⟨HF.out, fits_one _ _ hz⟩, by rw [show strs' (ps ++ [z]) = strs' ps ++ [Value.string z] by simp [strs']]; exact ho, B4.out⟩)
            exact hrel _ (cutS_size _ _) HO4.out
          case measure => simp [intOf]; omega
        · have hx0I : (0 : Int) < (xs.length : Int) := by omega
          have hml := Nat.mod_lt ps.length (show 0 < xs.length by omega)
          obtain ⟨b, off, rfl, hc⟩ := (HX.out.below HB.out).strG hml
          have hcell := hc (ps.length % xs.length) hml
          have hsz := HXs.out xs[ps.length % xs.length] (List.getElem_mem hml)
          obtain ⟨y, hy⟩ : ∃ y, y = xs[ps.length % xs.length] := ⟨_, rfl⟩
          rw [← hy] at hcell hsz
          have hmod : ((ps.length : Int).tmod (xs.length : Int)) = ((ps.length % xs.length : Nat) : Int) := by rw [Int.tmod_eq_emod_of_nonneg (by omega)]; omega
          obtain ⟨q, hq⟩ : ∃ q, q = ps.length % xs.length := ⟨_, rfl⟩
          rw [← hq] at hcell hmod hml
          clear hc hy hq
          go_wp2_with fail
          refine (HCut.out _ hsz _ (HG.out.below HB.out)).mono ?_
          rintro e w3 ⟨rfl, hb3⟩
          have B3 := hid (Below.then' HB.out hb3)
          have HO3 := hid (own_under HO.out hb3)
          clear hb3
          go_wp2_with (at_builtin; refine wp_append1 w.heap.size rfl (.tmp 74) (.tmp 78) 22 9 (.string ⟨#[]⟩) 16 rfl Tryd.underlying22 info_str rfl (by omega) _ _ _ rfl rfl rfl HO3.out B3.out.size hbytes ?_; intro v1 w4 hown4 hb4; have HO4 := hid hown4; have B4 := hid (B3.out.trans hb4); clear hown4 hb4)
          go_roundw
          case rel =>
            have hrel := fun (z : ByteArray) (hz : z.size = wid k) (ho : w4.ownsRow w.heap.size 9 1 v1 (strs' ps ++ [Value.string z]).length (strs' ps ++ [Value.string z])) => (show ∃ qs : List ByteArray, Value.int .i64 ((ps.length : Int) + 1) = .int .i64 qs.length ∧ qs.length ≤ c ∧ fits (wid k) qs ∧ w4.ownsRow w.heap.size 9 1 v1 (strs' qs).length (strs' qs) ∧ Below w.heap.size w w4 from
              ⟨ps ++ [z], by simp, by simp; omega, (fits_app _ _ _).2 ⟨HF.out, fits_one _ _ hz⟩, by rw [show strs' (ps ++ [z]) = strs' ps ++ [Value.string z] by simp [strs']]; exact ho, B4.out⟩)
            exact hrel _ (cutS_size _ _) HO4.out
          case measure => simp [intOf]; omega
      · have hpl : ps.length = c := by omega
        have hL := PL.out ps HF.out hpl
        have hI := PI.out ps HF.out hpl
        have hM := PC.out (ps ++ [h]) ((fits_app _ _ _).2 ⟨HF.out, fits_one _ _ hh⟩) (by simp; omega)
        have hN := fun (h0 : c ≠ 0) => PC.out (ps.take (c - 1)) (fun x hx => HF.out x (List.mem_of_mem_take hx)) (by rw [List.length_take]; omega)
        have hr := HLw.out ps
        generalize leadsS k h ps i n ps.length = r at hL hI hr
        have hI0 := hI r hr
        rw [if_pos rfl] at hI0
        have hM0 := hM r hr
        have hN0 := fun h0 => hN h0 r hr
        have hos : (cutS (r ++ anotherS).data.toList k).size = wid k := cutS_size _ _
        have hIo := hI _ hos
        have hsz : (r ++ anotherS).size ≤ 140737488351232 := by rw [ByteArray.size_append, show anotherS.size = 7 from rfl]; omega
        have HCo := hid (fun (W : World) (hW : GlobP W) => HCut.out (r ++ anotherS) hsz W hW)
        obtain ⟨o, ho⟩ : ∃ o, o = cutS (r ++ anotherS).data.toList k := ⟨_, rfl⟩
        rw [← ho] at hIo HCo
        have HL := hid hL
        have HI0 := hid hI0
        have HIo := hid hIo
        have HM0 := hid hM0
        have HN0 := hid hN0
        clear hL hI hM hN hI0 hIo hM0 hN0 hos ho hsz
        clear PL PI PC HLw
        have hbytes : ((strs' ps).length + 1) * 16 ≤ 140737488355328 := by rw [strs'_length]; omega
        have hst : strs' ps ++ [Value.string h] = strs' (ps ++ [h]) := by simp [strs']
        obtain ⟨qs, hqs⟩ : ∃ qs, qs = ps ++ [h] := ⟨_, rfl⟩
        have hq1 : 0 < qs.length := by rw [hqs]; simp
        have hq2 : qs.length ≤ 100 := by rw [hqs]; simp; omega
        rw [← hqs] at hst HM0
        have HS := hid hst
        clear hst hqs
        have h100 : ps.length ≤ 60 + 2 := by omega
        have HPL := hid hpl
        have hge : c ≤ ps.length := by omega
        clear hpl hlt hle
        by_cases hc0 : c = 0
        · have hcI : ((c : Int) == 0) = true := by rw [hc0]; rfl
          obtain ⟨ap, capp, rfl, hcp, hnp, hrow⟩ := own_any HO.out
          have HRow := hid hrow
          have HNp := hid hnp
          clear hrow hnp
          rw [strs'_length] at *
          have HO2 := hid (show World.ownsRow _ w.heap.size 9 1 (.slice ap ps.length capp) (strs' ps).length (strs' ps) by rw [strs'_length]; exact HO.out)
          have hbytes2 : ((strs' ps).length + 1) * 16 ≤ 140737488355328 := by rw [strs'_length]; omega
          clear hc0
          by_cases hor : o = r
          · have horI : (o.toList == r.toList) = true := by rw [hor]; simp
            go_wp2_with fail
            refine (HLd.out _ (HG.out.below HB.out) _ ps _ HRow.out HNp.out hcp (by omega)).mono ?_
            rw [HL.out]
            rintro e w3 ⟨rfl, hb3⟩
            have B3 := hid (Below.then' HB.out hb3)
            have HR3 := hid (HRow.out.below hb3)
            have HO3 := hid (own_under HO2.out hb3)
            clear hb3
            go_wp2_with fail
            refine (HIn.out _ (HG.out.below B3.out) _ ps _ r HR3.out HNp.out hcp (by omega)).mono ?_
            rw [HI0.out]
            rintro e w4 ⟨rfl, hb4⟩
            have B4 := hid (Below.then' B3.out hb4)
            have HR4 := hid (HR3.out.below hb4)
            have HO4 := hid (own_under HO3.out hb4)
            clear hb4
            go_wp2_with fail
            refine (HCo.out _ (HG.out.below B4.out)).mono ?_
            rintro e w5 ⟨rfl, hb5⟩
            have B5 := hid (Below.then' B4.out hb5)
            have HR5 := hid (HR4.out.below hb5)
            have HO5 := hid (own_under HO4.out hb5)
            clear hb5
            go_wp2_with (at_builtin; refine wp_append1_keep w.heap.size rfl (.tmp 125) (.tmp 127) 22 9 (.string ⟨#[]⟩) 16 rfl Tryd.underlying22 info_str rfl (by omega) _ _ (.string h) rfl rfl rfl HO5.out B5.out.size hbytes2 ?_; intro v1 w7 hk7 hown7 hb7; rw [HS.out] at hown7; have hR7 := hk7 _ _ _ rfl; have B7 := hid (B5.out.trans hb7); obtain ⟨g7, cap7, rfl, _, hcp7, _, _, _, hcell7⟩ := own_form hown7 (by rw [strs'_length]; exact hq1); rw [strs'_length] at hcp7; have HM7 := hid (show RowAt w7 (some ⟨g7, 0, none⟩) (strs' qs) from .inr ⟨g7, 0, rfl, fun i hi => by rw [Nat.zero_add]; exact hcell7 i hi⟩); have HR7 := hid hR7; rw [strs'_length]; clear hk7 hown7 hb7 hcell7 hR7)
            refine (HIn.out _ (HG.out.below B7.out) _ qs _ r HM7.out (by simp) hcp7 hq2).mono ?_
            rw [HM0.out]
            rintro e w8 ⟨rfl, hb8⟩
            have B8 := hid (Below.then' B7.out hb8)
            have HR8 := hid (HR7.out.below hb8)
            clear hb8
            go_wp2_with fail
            go_ret
            exact ⟨rfl, B8.out⟩
          · have horI : (o.toList == r.toList) = false := str_ne hor
            rw [if_neg (fun e => hor e.symm)] at HIo
            clear hor
            go_wp2_with fail
            refine (HLd.out _ (HG.out.below HB.out) _ ps _ HRow.out HNp.out hcp (by omega)).mono ?_
            rw [HL.out]
            rintro e w3 ⟨rfl, hb3⟩
            have B3 := hid (Below.then' HB.out hb3)
            have HR3 := hid (HRow.out.below hb3)
            have HO3 := hid (own_under HO2.out hb3)
            clear hb3
            go_wp2_with fail
            refine (HIn.out _ (HG.out.below B3.out) _ ps _ r HR3.out HNp.out hcp (by omega)).mono ?_
            rw [HI0.out]
            rintro e w4 ⟨rfl, hb4⟩
            have B4 := hid (Below.then' B3.out hb4)
            have HR4 := hid (HR3.out.below hb4)
            have HO4 := hid (own_under HO3.out hb4)
            clear hb4
            go_wp2_with fail
            refine (HCo.out _ (HG.out.below B4.out)).mono ?_
            rintro e w5 ⟨rfl, hb5⟩
            have B5 := hid (Below.then' B4.out hb5)
            have HR5 := hid (HR4.out.below hb5)
            have HO5 := hid (own_under HO4.out hb5)
            clear hb5
            go_wp2_with fail
            refine (HIn.out _ (HG.out.below B5.out) _ ps _ o HR5.out HNp.out hcp (by omega)).mono ?_
            rw [HIo.out]
            rintro e w6 ⟨rfl, hb6⟩
            have B6 := hid (Below.then' B5.out hb6)
            have HR6 := hid (HR5.out.below hb6)
            have HO6 := hid (own_under HO5.out hb6)
            clear hb6
            go_wp2_with (at_builtin; refine wp_append1_keep w.heap.size rfl (.tmp 125) (.tmp 127) 22 9 (.string ⟨#[]⟩) 16 rfl Tryd.underlying22 info_str rfl (by omega) _ _ (.string h) rfl rfl rfl HO6.out B6.out.size hbytes2 ?_; intro v1 w7 hk7 hown7 hb7; rw [HS.out] at hown7; have hR7 := hk7 _ _ _ rfl; have B7 := hid (B6.out.trans hb7); obtain ⟨g7, cap7, rfl, _, hcp7, _, _, _, hcell7⟩ := own_form hown7 (by rw [strs'_length]; exact hq1); rw [strs'_length] at hcp7; have HM7 := hid (show RowAt w7 (some ⟨g7, 0, none⟩) (strs' qs) from .inr ⟨g7, 0, rfl, fun i hi => by rw [Nat.zero_add]; exact hcell7 i hi⟩); have HR7 := hid hR7; rw [strs'_length]; clear hk7 hown7 hb7 hcell7 hR7)
            refine (HIn.out _ (HG.out.below B7.out) _ qs _ r HM7.out (by simp) hcp7 hq2).mono ?_
            rw [HM0.out]
            rintro e w8 ⟨rfl, hb8⟩
            have B8 := hid (Below.then' B7.out hb8)
            have HR8 := hid (HR7.out.below hb8)
            clear hb8
            go_wp2_with fail
            go_ret
            exact ⟨rfl, B8.out⟩
        · have hcI : ((c : Int) == 0) = false := by simpa using hc0
          obtain ⟨g, capp, rfl, _, hcp, _, _, _, hcell⟩ := own_form HO.out (by rw [strs'_length]; omega)
          have HRow := hid (show RowAt _ (some ⟨g, 0, none⟩) (strs' ps) from .inr ⟨g, 0, rfl, fun i hi => by rw [Nat.zero_add]; exact hcell i hi⟩)
          have HNp : Hid ((some (⟨g, 0, none⟩ : Addr)) = none → ps.length = 0 ∧ capp = 0) := by unfold Hid; simp
          clear hcell
          rw [strs'_length] at *
          have HO2 := hid (show World.ownsRow _ w.heap.size 9 1 (.slice (some ⟨g, 0, none⟩) ps.length capp) (strs' ps).length (strs' ps) by rw [strs'_length]; exact HO.out)
          have hbytes2 : ((strs' ps).length + 1) * 16 ≤ 140737488355328 := by rw [strs'_length]; omega
          by_cases hor : o = r
          · have horI : (o.toList == r.toList) = true := by rw [hor]; simp
            go_wp2_with fail
            refine (HLd.out _ (HG.out.below HB.out) _ ps _ HRow.out HNp.out hcp (by omega)).mono ?_
            rw [HL.out]
            rintro e w3 ⟨rfl, hb3⟩
            have B3 := hid (Below.then' HB.out hb3)
            have HR3 := hid (HRow.out.below hb3)
            have HO3 := hid (own_under HO2.out hb3)
            clear hb3
            go_wp2_with fail
            refine (HIn.out _ (HG.out.below B3.out) _ ps _ r HR3.out HNp.out hcp (by omega)).mono ?_
            rw [HI0.out]
            rintro e w4 ⟨rfl, hb4⟩
            have B4 := hid (Below.then' B3.out hb4)
            have HR4 := hid (HR3.out.below hb4)
            have HO4 := hid (own_under HO3.out hb4)
            clear hb4
            go_wp2_with fail
            refine (HCo.out _ (HG.out.below B4.out)).mono ?_
            rintro e w5 ⟨rfl, hb5⟩
            have B5 := hid (Below.then' B4.out hb5)
            have HR5 := hid (HR4.out.below hb5)
            have HO5 := hid (own_under HO4.out hb5)
            clear hb5
            go_wp2_with (at_builtin; refine wp_append1_keep w.heap.size rfl (.tmp 125) (.tmp 127) 22 9 (.string ⟨#[]⟩) 16 rfl Tryd.underlying22 info_str rfl (by omega) _ _ (.string h) rfl rfl rfl HO5.out B5.out.size hbytes2 ?_; intro v1 w7 hk7 hown7 hb7; rw [HS.out] at hown7; have hR7 := hk7 _ _ _ rfl; have B7 := hid (B5.out.trans hb7); obtain ⟨g7, cap7, rfl, _, hcp7, _, _, _, hcell7⟩ := own_form hown7 (by rw [strs'_length]; exact hq1); rw [strs'_length] at hcp7; have HM7 := hid (show RowAt w7 (some ⟨g7, 0, none⟩) (strs' qs) from .inr ⟨g7, 0, rfl, fun i hi => by rw [Nat.zero_add]; exact hcell7 i hi⟩); have HR7 := hid hR7; rw [strs'_length]; clear hk7 hown7 hb7 hcell7 hR7)
            refine (HIn.out _ (HG.out.below B7.out) _ qs _ r HM7.out (by simp) hcp7 hq2).mono ?_
            rw [HM0.out]
            rintro e w8 ⟨rfl, hb8⟩
            have B8 := hid (Below.then' B7.out hb8)
            have HR8 := hid (HR7.out.below hb8)
            clear hb8
            go_wp2_with fail
            have hR9 : RowAt w8 (some ⟨g, 0, none⟩) (strs' (ps.take (c - 1))) := HR8.out.takeS (c - 1)
            have hl9 : (ps.take (c - 1)).length = c - 1 := by rw [List.length_take]; omega
            have hIn9 := HIn.out _ (HG.out.below B8.out) (some ⟨g, 0, none⟩) (ps.take (c - 1)) capp r hR9 (by simp) (by omega) (by omega)
            rw [HN0.out hc0, hl9] at hIn9
            refine (hIn9).mono ?_
            rintro e w9 ⟨rfl, hb9⟩
            have B9 := hid (Below.then' B8.out hb9)
            clear hb9
            go_wp2_with fail
            go_ret
            exact ⟨rfl, B9.out⟩
          · have horI : (o.toList == r.toList) = false := str_ne hor
            rw [if_neg (fun e => hor e.symm)] at HIo
            clear hor
            go_wp2_with fail
            refine (HLd.out _ (HG.out.below HB.out) _ ps _ HRow.out HNp.out hcp (by omega)).mono ?_
            rw [HL.out]
            rintro e w3 ⟨rfl, hb3⟩
            have B3 := hid (Below.then' HB.out hb3)
            have HR3 := hid (HRow.out.below hb3)
            have HO3 := hid (own_under HO2.out hb3)
            clear hb3
            go_wp2_with fail
            refine (HIn.out _ (HG.out.below B3.out) _ ps _ r HR3.out HNp.out hcp (by omega)).mono ?_
            rw [HI0.out]
            rintro e w4 ⟨rfl, hb4⟩
            have B4 := hid (Below.then' B3.out hb4)
            have HR4 := hid (HR3.out.below hb4)
            have HO4 := hid (own_under HO3.out hb4)
            clear hb4
            go_wp2_with fail
            refine (HCo.out _ (HG.out.below B4.out)).mono ?_
            rintro e w5 ⟨rfl, hb5⟩
            have B5 := hid (Below.then' B4.out hb5)
            have HR5 := hid (HR4.out.below hb5)
            have HO5 := hid (own_under HO4.out hb5)
            clear hb5
            go_wp2_with fail
            refine (HIn.out _ (HG.out.below B5.out) _ ps _ o HR5.out HNp.out hcp (by omega)).mono ?_
            rw [HIo.out]
            rintro e w6 ⟨rfl, hb6⟩
            have B6 := hid (Below.then' B5.out hb6)
            have HR6 := hid (HR5.out.below hb6)
            have HO6 := hid (own_under HO5.out hb6)
            clear hb6
            go_wp2_with (at_builtin; refine wp_append1_keep w.heap.size rfl (.tmp 125) (.tmp 127) 22 9 (.string ⟨#[]⟩) 16 rfl Tryd.underlying22 info_str rfl (by omega) _ _ (.string h) rfl rfl rfl HO6.out B6.out.size hbytes2 ?_; intro v1 w7 hk7 hown7 hb7; rw [HS.out] at hown7; have hR7 := hk7 _ _ _ rfl; have B7 := hid (B6.out.trans hb7); obtain ⟨g7, cap7, rfl, _, hcp7, _, _, _, hcell7⟩ := own_form hown7 (by rw [strs'_length]; exact hq1); rw [strs'_length] at hcp7; have HM7 := hid (show RowAt w7 (some ⟨g7, 0, none⟩) (strs' qs) from .inr ⟨g7, 0, rfl, fun i hi => by rw [Nat.zero_add]; exact hcell7 i hi⟩); have HR7 := hid hR7; rw [strs'_length]; clear hk7 hown7 hb7 hcell7 hR7)
            refine (HIn.out _ (HG.out.below B7.out) _ qs _ r HM7.out (by simp) hcp7 hq2).mono ?_
            rw [HM0.out]
            rintro e w8 ⟨rfl, hb8⟩
            have B8 := hid (Below.then' B7.out hb8)
            have HR8 := hid (HR7.out.below hb8)
            clear hb8
            go_wp2_with fail
            have hR9 : RowAt w8 (some ⟨g, 0, none⟩) (strs' (ps.take (c - 1))) := HR8.out.takeS (c - 1)
            have hl9 : (ps.take (c - 1)).length = c - 1 := by rw [List.length_take]; omega
            have hIn9 := HIn.out _ (HG.out.below B8.out) (some ⟨g, 0, none⟩) (ps.take (c - 1)) capp r hR9 (by simp) (by omega) (by omega)
            rw [HN0.out hc0, hl9] at hIn9
            refine (hIn9).mono ?_
            rintro e w9 ⟨rfl, hb9⟩
            have B9 := hid (Below.then' B8.out hb9)
            clear hb9
            go_wp2_with fail
            go_ret
            exact ⟨rfl, B9.out⟩
  · have hcases := hbad h0
    have hzb : (c2 == 0) = false := by simpa using h0
    have hzb2 : (c2 != 0) = true := by simpa using h0
    clear hci hbad h0 hx hxs hg
    by_cases d1 : n < 0
    · clear hcases
      go_enter Tryd.func4, Tryd.ntmps4
      go_wp2_with fail
      refine (HC.out).mono ?_
      rintro e w1 ⟨rfl, hb1⟩
      have B1 := hid hb1
      clear hb1
      go_wp2_with fail
      go_ret
      exact ⟨rfl, B1.out⟩
    · by_cases d2 : 4611686018427387904 < n
      · clear hcases
        go_enter Tryd.func4, Tryd.ntmps4
        go_wp2_with fail
        refine (HC.out).mono ?_
        rintro e w1 ⟨rfl, hb1⟩
        have B1 := hid hb1
        clear hb1
        go_wp2_with fail
        go_ret
        exact ⟨rfl, B1.out⟩
      · by_cases d3 : i < 0
        · clear hcases
          go_enter Tryd.func4, Tryd.ntmps4
          go_wp2_with fail
          refine (HC.out).mono ?_
          rintro e w1 ⟨rfl, hb1⟩
          have B1 := hid hb1
          clear hb1
          go_wp2_with fail
          go_ret
          exact ⟨rfl, B1.out⟩
        · have d4 : n ≤ i := by omega
          clear hcases
          go_enter Tryd.func4, Tryd.ntmps4
          go_wp2_with fail
          refine (HC.out).mono ?_
          rintro e w1 ⟨rfl, hb1⟩
          have B1 := hid hb1
          clear hb1
          go_wp2_with fail
          go_ret
          exact ⟨rfl, B1.out⟩
end Go.Proofs.YtcgfeeommhljgaaDoor
