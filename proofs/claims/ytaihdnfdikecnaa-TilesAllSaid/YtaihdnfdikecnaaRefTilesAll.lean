/- Walk of the reference's All. -/
import Derived.Test.YtaihdnfdikecnaaRefTiles
set_option maxRecDepth 100000
namespace Go.Proofs.Ytaihdnfdikecnaa
open Go Go.RowKit

theorem allR_eq (h s : Nat) (h1 : 1 ≤ h) (h2 : h ≤ 8) (h3 : s ≤ 4611686018427387904) : allR h s = if 65536 < cntL h s 64 0 0 then ([], 83) else (refL h s 64 0 [], 0) := by
  have e : allR h s = match allL h s 64 0 0 [] with | none => ([], 83) | some (_, xs) => (xs, 0) := by
    unfold allR; rw [if_neg (by omega)]; rfl
  rw [e, allL_eq h s h1 64 0 0 [] (by omega)]
  by_cases hc : 65536 < cntL h s 64 0 0
  · rw [if_pos hc, if_pos hc]
  · rw [if_neg hc, if_neg hc]

set_option maxHeartbeats 2000000 in
theorem ref_All_ok (h s : Nat) (hh : h ≤ 8) (hh1 : 1 ≤ h) (hs : s ≤ 4611686018427387904) (hcnt : cntL h s 64 0 0 ≤ 65536) (w : World) :
    Calls Try.prog 5 #[.int .i64 h, .int .i64 s] w (TilesPost (refL h s 64 0 [], 0) w) := by
  have hc := hid (ref_count h s hh hh1 hs w)
  have HCN := hid hcnt
  obtain ⟨P, hP⟩ : ∃ P, P = 2 ^ h := ⟨_, rfl⟩
  have hpow : (2 : Int) ^ h = (P : Int) := by rw [hP]; simp
  have hP2 : P ≤ 256 := by rw [hP]; exact Nat.pow_le_pow_right (by decide) hh
  have HPW := hid hpow
  have HP := hid hP
  have hwP : IntKind.i64.wrap (P : Int) = P := by rw [IntKind.wrap_i64]; omega
  have HWP := hid hwP
  clear hpow hP hwP
  go_enter Try.func5, Try.ntmps5
  go_wp2_with fail
  refine hc.out.mono ?_
  rintro e w' ⟨rfl, rfl⟩
  go_wp2_with fail
  clear hcnt
  go_loopw [6, 7] (fun v' l' wr => ∃ (l m : Nat) (xs : List Value), l' = .int .i64 l ∧ l ≤ 63 ∧ wr.ownsRow w.heap.size 31 4 v' m xs ∧ cntL h s (64 - l) l m = cntL h s 64 0 0 ∧ refL h s (64 - l) l xs = refL h s 64 0 [] ∧ Below w.heap.size w wr) (fun _ l' _ => (64 - intOf l').toNat)
  case atStart => exact ⟨0, 0, [], rfl, by omega, World.ownsRow_nil _ _ _ _, rfl, rfl, Below.refl _ _⟩
  case round =>
    obtain ⟨l, m, xs, rfl, hl, hown, hcr, hrr, hbw⟩ := hrel
    have HO := hid hown
    have HB := hid hbw
    have hm : m ≤ 65536 := by
      rcases Nat.lt_or_ge 65536 m with hlt | hge
      · have := cntL_ge h s (64 - l) l m hlt; rw [hcr] at this; have := HCN.out; omega
      · exact hge
    clear hown hbw
    rw [show 64 - l = (63 - l) + 1 by omega] at hcr hrr
    have hb8 : l * h ≤ 63 * 8 := Nat.mul_le_mul hl hh
    by_cases hgo : l * h ≤ 62 ∧ 0 < s / 2 ^ (l * h)
    · have hfull : ¬ 65536 < s / 2 ^ (l * h) / 2 ^ h := by
        intro hb
        rw [cnt_big _ _ _ _ _ hgo hb] at hcr
        have := HCN.out; omega
      rw [cnt_on _ _ _ _ _ hgo hfull] at hcr
      rw [refL_on _ _ _ _ _ hgo] at hrr
      obtain ⟨x, hx⟩ : ∃ x, x = l * h := ⟨_, rfl⟩
      have hxi : (l : Int) * (h : Int) = (x : Int) := by rw [hx]; simp
      have hlx : l ≤ x := by rw [hx]; exact Nat.le_mul_of_pos_right _ hh1
      rw [← hx] at hgo hcr hrr hfull
      obtain ⟨n, hn⟩ : ∃ n, n = s / 2 ^ x := ⟨_, rfl⟩
      have hdiv : (s : Int) / 2 ^ x = (n : Int) := by rw [hn]; simp
      have hns : n ≤ s := by rw [hn]; exact Nat.div_le_self _ _
      rw [← hn] at hgo hcr hrr hfull
      obtain ⟨q, hq⟩ : ∃ q, q = n / 2 ^ h := ⟨_, rfl⟩
      have hdq : (n : Int) / 2 ^ h = (q : Int) := by rw [hq]; simp
      obtain ⟨y, hy⟩ : ∃ y, y = q * 2 ^ h := ⟨_, rfl⟩
      have hyn : y ≤ n := by rw [hy, hq]; exact Nat.div_mul_le_self _ _
      have hmul : (q : Int) * 2 ^ h = (y : Int) := by rw [hy]; simp
      have hRC : restC h l n = if 0 < n - y then tileC h l q (n - y) else [] := by unfold restC; rw [hy, hq]
      have hRN : restN h n = if 0 < n - y then 1 else 0 := by unfold restN; rw [hy, hq]
      have hrow : rowC h l n = fullC h l q ++ restC h l n := by unfold rowC; rw [hq]
      rw [← hq] at hcr hfull
      have hg1 := hgo.1
      have hg2 := hgo.2
      have HCR := hid hcr
      have HRR := hid hrr
      have HRC := hid hRC
      have HRN := hid hRN
      have HROW := hid hrow
      have hq6 : q ≤ 65536 := by omega
      clear hx hn hq hy hcr hrr hRC hRN hrow hgo hb8 hfull
      go_wp2_with fail
      go_loopw [6, 10] (fun v' i' wq => ∃ i : Nat, i' = .int .i64 i ∧ i ≤ q ∧ wq.ownsRow w.heap.size 31 4 v' (m + i) (xs ++ fullC h l i) ∧ Below w.heap.size w wq) (fun _ i' _ => (q - intOf i').toNat)
      case atStart => exact ⟨0, rfl, by omega, by simpa [fullC] using HO.out, HB.out⟩
      case round =>
        obtain ⟨i, rfl, hi, hown2, hbw2⟩ := hrel
        have HO2 := hid hown2
        have HB2 := hid hbw2
        clear hown2 hbw2
        by_cases hlt : i < q
        · have hpow := HPW.out
          have hwP := HWP.out
          clear hdq hmul
          go_wp2_with (first
            | (at_builtin; refine wp_appendS w.heap.size rfl (.tmp 59) (.tmp 67) 22 31 (.agg #[.int .i64 0, .int .i64 0, .int .i64 0, .int .i64 0]) 4 32 rfl Try.underlying22 info_tile rfl (by decide) (by decide) _ (m + i) (xs ++ fullC h l i) [.int .i64 h, .int .i64 l, .int .i64 i, .int .i64 P] rfl _ rfl rfl rfl (tile_one h l i P) HO2.out HB2.out.size (by omega) ?_; intro g cap w3 hown3 hb3; have HO3 := hid hown3; have HB3 := hid (HB2.out.trans hb3); clear hown3 hb3)
            | fail)
          go_roundw
          case rel => exact ⟨i + 1, by go_num, by omega, by rw [fullC_step, ← HP.out, ← List.append_assoc, ← Nat.add_assoc]; exact HO3.out, HB3.out⟩
          case measure => simp [intOf]; omega
        · obtain rfl : i = q := by omega
          by_cases hr : 0 < n - y
          · have hRN2 : Hid (restN h n = 1) := hid (by rw [HRN.out, if_pos hr])
            have hRC2 : Hid (rowC h l n = fullC h l i ++ [.int .i64 h, .int .i64 l, .int .i64 i, .int .i64 (n - y : Nat)]) := hid (by rw [HROW.out, HRC.out, if_pos hr]; rfl)
            obtain ⟨z, hz⟩ : ∃ z, z = n - y := ⟨_, rfl⟩
            rw [← hz] at hRC2
            have hzi : (n : Int) - (y : Int) = (z : Int) := by omega
            have hz0 : 0 < z := by omega
            clear hz
            go_wp2_with (first
              | (at_builtin; refine wp_appendS w.heap.size rfl (.tmp 76) (.tmp 87) 22 31 (.agg #[.int .i64 0, .int .i64 0, .int .i64 0, .int .i64 0]) 4 32 rfl Try.underlying22 info_tile rfl (by decide) (by decide) _ (m + i) (xs ++ fullC h l i) [.int .i64 h, .int .i64 l, .int .i64 i, .int .i64 z] rfl _ rfl rfl rfl (tile_one h l i z) HO2.out HB2.out.size (by omega) ?_; intro g cap w3 hown3 hb3; have HO3 := hid hown3; have HB3 := hid (HB2.out.trans hb3); clear hown3 hb3)
              | fail)
            go_roundw
            case rel =>
              refine ⟨l + 1, m + i + 1, xs ++ rowC h l n, by go_num, by omega, ?_, ?_, ?_, HB3.out⟩
              · rw [hRC2.out, ← List.append_assoc]; exact HO3.out
              · rw [show 64 - (l + 1) = 63 - l by omega, ← HCR.out, hRN2.out]
              · rw [show 64 - (l + 1) = 63 - l by omega, ← HRR.out]
            case measure => simp [intOf]; omega
          · have hRN2 : Hid (restN h n = 0) := hid (by rw [HRN.out, if_neg hr])
            have hRC2 : Hid (rowC h l n = fullC h l i) := hid (by rw [HROW.out, HRC.out, if_neg hr]; simp)
            go_wp2_with fail
            go_roundw
            case rel =>
              refine ⟨l + 1, m + i, xs ++ rowC h l n, by go_num, by omega, ?_, ?_, ?_, HB2.out⟩
              · rw [hRC2.out]; exact HO2.out
              · rw [show 64 - (l + 1) = 63 - l by omega, ← HCR.out, hRN2.out]; rfl
              · rw [show 64 - (l + 1) = 63 - l by omega, ← HRR.out]
            case measure => simp [intOf]; omega
    · rw [refL_stop _ _ _ _ _ hgo] at hrr
      have HRR := hid hrr
      obtain ⟨x, hx⟩ : ∃ x, x = l * h := ⟨_, rfl⟩
      have hxi : (l : Int) * (h : Int) = (x : Int) := by rw [hx]; simp
      rw [← hx] at hgo hb8
      obtain ⟨n, hn⟩ : ∃ n, n = s / 2 ^ x := ⟨_, rfl⟩
      have hdiv : (s : Int) / 2 ^ x = (n : Int) := by rw [hn]; simp
      have hns : n ≤ s := by rw [hn]; exact Nat.div_le_self _ _
      rw [← hn] at hgo
      clear hx hn hrr hcr
      by_cases hx62 : x ≤ 62
      · have hn0 : ¬ 0 < n := fun h => hgo ⟨hx62, h⟩
        clear hgo
        go_wp2_with fail
        go_ret2
        exact ⟨_, m, rfl, by rw [← HRR.out]; exact HO.out, hm, HB.out⟩
      · clear hgo
        go_wp2_with fail
        go_ret2
        exact ⟨_, m, rfl, by rw [← HRR.out]; exact HO.out, hm, HB.out⟩
end Go.Proofs.Ytaihdnfdikecnaa
