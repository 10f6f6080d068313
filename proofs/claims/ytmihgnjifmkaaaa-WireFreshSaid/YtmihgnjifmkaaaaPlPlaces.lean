/- Walk of the reference's reader of places. -/
import Derived.Test.YtmihgnjifmkaaaaPr
import Derived.Test.YtmihgnjifmkaaaaNumsOf
set_option maxRecDepth 100000
namespace Go.Proofs.Ytmihgnjifmkaaaa
open Go Go.RowKit

/-- What the reference's places answers: a row; it is what was read, where the reader is not refused. -/
def PlP (b : Nat) (s : ByteArray) (st : St) (w : World) (e : Ending) (w' : World) : Prop :=
  ∃ ao cap xs, e = .returned (.slice ao xs.length cap) ∧ w'.ownsRow w.heap.size 3 1 (.slice ao xs.length cap) xs.length (ints xs) ∧ Rd b s (rdPlaces s st).2 w' ∧ Only b w w' ∧ ∀ p, (rdPlaces s st).2 = .ok p → xs = (rdPlaces s st).1
theorem rdNumI_neg (s : ByteArray) (max : Int) (h : max < 0) (p : Nat) : (rdNumI s max 10 (.ok p)).2 = stNo 10 (rdNum s 4611686018427387904 10 (.ok p)).2 := by
  unfold rdNumI
  rw [if_pos h]
  simp only [rdNum]
  split
  · rfl
  · split <;> rfl
theorem lastOf_succ' (l : Int) (xs : List Int) (j : Nat) (h : j < xs.length) : lastOf l xs (j + 1) = xs[j] := by
  unfold lastOf; rw [if_neg (Nat.succ_ne_zero j)]
  show xs.getD j 0 = _
  rw [List.getD_eq_getElem?_getD, List.getElem?_eq_getElem h]; rfl
set_option maxHeartbeats 8000000 in
theorem place_places (b : Nat) (s : ByteArray) (st0 : St) (hs : s.size ≤ 140737488355328) (w : World) (h : Rd b s st0 w) :
    Calls Try.prog 79 #[.pointer (some ⟨b, 0, none⟩)] w (PlP b s st0 w) := by
  have hblo := h.lt
  have hnum := hid (place_number b s st0 1024 83 (by decide) (by decide) hs w h)
  have hle := rdNum_le s 1024 83 st0
  have HDEF : Hid (rdPlaces s st0 = rdPl s (rdNum s 1024 83 st0).1 (-1) (rdNum s 1024 83 st0).2 []) := rfl
  obtain ⟨⟨n1, st1⟩, hr1⟩ : ∃ r, r = rdNum s 1024 83 st0 := ⟨_, rfl⟩
  rw [← hr1] at hnum hle HDEF
  simp only at hnum hle HDEF
  clear hr1 h
  go_enter Try.func79, Try.ntmps79
  go_wp2_with fail
  refine hnum.out.mono ?_
  rintro e w1 ⟨rfl, h1, b1⟩
  have H1 := hid h1
  have G1 := hid b1
  clear h1 b1 hnum
  go_wp2_with fail
  go_loopw [4, 5, 6, 7] (fun v' i' _ _ wr => ∃ (i : Nat) (l : Int) (acc : List Int) (st : St) (ao : Option Addr) (cap : Nat), i' = .int .i64 i ∧ i ≤ n1 ∧ v' = .slice ao acc.length cap ∧ -1 ≤ l ∧ (∀ p, st = .ok p → l ≤ 4611686018427387904 ∧ acc.length = i ∧ l = lastOf (-1) acc i) ∧ acc.length ≤ i ∧
    Rd b s st wr ∧ wr.ownsRow w.heap.size 3 1 (.slice ao acc.length cap) acc.length (ints acc) ∧ rdPl s (n1 - i) l st acc = rdPl s n1 (-1) st1 [] ∧ Only b w wr) (fun _ i' _ _ _ => (n1 - intOf i').toNat)
  case atStart => exact ⟨0, -1, [], st1, none, 0, rfl, by omega, rfl, by omega, fun _ _ => ⟨by omega, rfl, rfl⟩, by simp, H1.out, World.ownsRow_nil _ _ _ _, rfl, G1.out⟩
  case round =>
    clear H1 G1
    obtain ⟨i, l, acc, st, ao, cap, rfl, hi, rfl, hl1, hl3, hacc, hrd, hown, hrest, hgr⟩ := hrel
    have HP := hid hrd
    have HO := hid hown
    have HG := hid hgr
    have HREST := hid hrest
    have hsz := hgr.size
    clear hgr hrest
    by_cases hlt : i < n1
    · cases st with
      | error e =>
        have hstop : rdPl s (n1 - i) l (.error e) acc = (acc, .error e) := rdPl_no _ _ _ _ _
        obtain ⟨c0, f1, f2, he, c2, q, c1, hq⟩ := hrd
        have he' : (e == 0) = false := beq_eq_false_iff_ne.2 he
        have HU : Hid (rdPlaces s st0 = (acc, .error e)) := HDEF.out.trans (HREST.out.symm.trans hstop)
        clear hstop HREST hl3 hown
        go_wp2_with fail
        go_ret
        exact ⟨ao, cap, acc, rfl, HO.out, by rw [HU.out]; exact HP.out, HG.out, fun p hp => by rw [HU.out] at hp; cases hp⟩
      | ok p =>
        obtain ⟨hl4, hal, hll⟩ := hl3 p rfl
        obtain ⟨c0, f1, f2, c1, c2, hq⟩ := hrd
        have HST := hid (HREST.out.symm.trans (rdPl_step s (n1 - i) (n1 - (i + 1)) p l acc (by omega)))
        by_cases hbig : l = 4611686018427387904
        · -- none may follow
          have h0 : 0 < i := by
            rcases Nat.eq_zero_or_pos i with rfl | h
            · rw [hbig] at hll; simp [lastOf] at hll
            · exact h
          have hU : (rdPlaces s st0).2 = stNo 10 (rdNum s 4611686018427387904 10 (.ok p)).2 := by
            rw [HDEF.out, HST.out]
            have hneg := rdNumI_neg s (4611686018427387904 - l - 1) (by omega) p
            have : ∃ e, stNo 10 (rdNum s 4611686018427387904 10 (.ok p)).2 = .error e := by
              cases (rdNum s 4611686018427387904 10 (.ok p)).2 with
              | ok q => exact ⟨10, rfl⟩
              | error e => exact ⟨e, rfl⟩
            obtain ⟨e, he⟩ := this
            rw [hneg, he, rdPl_no]
          have HU := hid hU
          obtain ⟨bk, off, hao, hc⟩ : ∃ bk off, ao = some ⟨bk, off, none⟩ ∧ ∀ j (h : j < acc.length), wr.cell? ⟨bk, off + j, none⟩ = some (.int .i64 acc[j]) := by
            obtain ⟨ao', cap', hv, _, hrow⟩ := own_row hown
            cases hv
            exact RowAt.int (xs := acc) hrow (k := i - 1) (by omega)
          subst hao
          have hcell := hc (i - 1) (by omega)
          have hlast : acc[i - 1]'(by omega) = 4611686018427387904 := by
            have := lastOf_succ' (-1) acc (i - 1) (by omega)
            rw [show i - 1 + 1 = i by omega] at this
            rw [← this, ← hll, hbig]
          rw [hlast] at hcell
          have hw1 : ((i : Int) - 1).toNat = i - 1 := by omega
          have hn := hid (fun W (hW : Rd b s (.ok p) W) => place_number b s (.ok p) 4611686018427387904 10 (by decide) (by decide) hs W hW)
          have hrf := hid (fun (st : St) W (hW : Rd b s st W) => place_refuse b s st 10 (by decide) W hW)
          obtain ⟨⟨g, st2⟩, hr2⟩ : ∃ r, r = rdNum s 4611686018427387904 10 (.ok p) := ⟨_, rfl⟩
          rw [← hr2] at hn HU
          simp only at hn HU
          clear hr2 HST HREST hl3 hown hc hlast hU hll hbig hl4
          go_wp2_with fail
          refine (hn.out _ HP.out).mono ?_
          rintro e w2 ⟨rfl, h2, b2⟩
          have H2 := hid h2
          have G2 := hid (HG.out.trans b2)
          clear h2 b2
          go_wp2_with fail
          refine (hrf.out _ _ H2.out).mono ?_
          rintro e w3 ⟨rfl, h3, b3⟩
          have H3 := hid h3
          have G3 := hid (G2.out.trans b3)
          clear h3 b3
          go_wp2_with fail
          go_ret
          refine ⟨none, 0, [], rfl, World.ownsRow_nil _ _ _ _, by rw [HU.out]; exact H3.out, G3.out, fun q hq => ?_⟩
          rw [HU.out] at hq
          cases st2 <;> simp [stNo] at hq
        · obtain ⟨m, hm⟩ := Int.eq_ofNat_of_zero_le (show 0 ≤ 4611686018427387904 - l - 1 by omega)
          have hrn : rdNumI s (4611686018427387904 - l - 1) 10 (.ok p) = rdNum s m 10 (.ok p) := by unfold rdNumI; rw [hm, if_neg (by omega)]; rfl
          rw [hrn] at HST
          have hmle : m ≤ 4611686018427387904 := by omega
          have hn := hid (fun W (hW : Rd b s (.ok p) W) => place_number b s (.ok p) m 10 (by decide) hmle hs W hW)
          have hgl := rdNum_le s m 10 (.ok p)
          obtain ⟨⟨g, st2⟩, hr2⟩ : ∃ r, r = rdNum s m 10 (.ok p) := ⟨_, rfl⟩
          rw [← hr2] at hn HST hgl
          simp only at hn HST hgl
          have hln : (acc.length + 1) * 8 ≤ 140737488355328 := by omega
          have hil : (ints acc).length = acc.length := ints_length acc
          have e1 : ints (acc ++ [l + ((g : Int) + 1)]) = ints acc ++ [.int .i64 (l + ((g : Int) + 1))] := by simp [ints]
          have e2 : (acc ++ [l + ((g : Int) + 1)]).length = acc.length + 1 := by simp
          have e3 : (ints acc ++ [Value.int .i64 (l + ((g : Int) + 1))]).length = acc.length + 1 := by rw [← e1, ints_length, e2]
          have E1 := hid e1
          have E2 := hid e2
          have E3 := hid e3
          rcases Nat.eq_zero_or_pos i with hi0 | h0
          · subst hi0
            have hl0 : l = -1 := by rw [hll]; rfl
            have hm0 : (m : Int) = 4611686018427387904 := by omega
            have hn' : Hid (∀ W, Rd b s (.ok p) W → Calls Try.prog 54 #[.pointer (some ⟨b, 0, none⟩), .int .i64 4611686018427387904, .int .i64 10] W fun e w' => e = .returned (.int .i64 g) ∧ Rd b s st2 w' ∧ Only b W w') := by
              unfold Hid; intro W hW; have := hn.out W hW; rw [hm0] at this; exact this
            have hxe : l + ((g : Int) + 1) = (g : Int) := by omega
            have hxe := hid hxe
            have HAL := hid hal
            clear hr2 HREST hl3 hown hll hl4 hm hm0 hn hrn e1 e2 e3 hal hl0 hbig
            go_wp2_with fail
            refine (hn'.out _ HP.out).mono ?_
            rintro e w2 ⟨rfl, h2, b2⟩
            have P2 := hid h2
            have G2 := hid (HG.out.trans b2)
            have O2 := hid (own_only HO.out b2 hblo)
            have hsz2 : w.heap.size ≤ w2.heap.size := G2.out.size
            clear h2 b2 c0 c1 c2 f1 f2
            go_wp2_with (first
              | (at_builtin; refine wp_append1 w.heap.size rfl (.tmp 40) (.tmp 44) 55 3 (.int .i64 0) 8 rfl Try.underlying55 info_int rfl (by decide) _ (ints acc) (.int .i64 (g : Int)) rfl rfl rfl (by rw [hil]; exact O2.out) hsz2 (by rw [hil]; exact hln) ?_; intro v4 w4 hown4 hb4; rw [← hxe.out, E3.out] at hown4; obtain ⟨ao4, cap4, hv4⟩ := own_val hown4; subst hv4; have O4 := hid hown4; have P4 := hid (P2.out.upto hb4 hblo); have G4 := hid (G2.out.grow hb4 hblo); clear hown4 hb4)
              | fail)
            go_roundw
            case rel =>
              refine ⟨0 + 1, l + ((g : Int) + 1), acc ++ [l + ((g : Int) + 1)], st2, ao4, cap4, by go_num, by omega, by rw [E2.out], by omega, fun q hq => ⟨by omega, by rw [E2.out]; omega, ?_⟩, by rw [E2.out]; omega, P4.out, ?_, HST.out.symm, G4.out⟩
              · rw [← HAL.out, lastOf_succ' _ _ acc.length (by rw [E2.out]; omega)]; simp
              · rw [E2.out, E1.out]
                exact O4.out
            case measure => simp [intOf]; omega
          · obtain ⟨bk, off, hao, hc⟩ : ∃ bk off, ao = some ⟨bk, off, none⟩ ∧ ∀ j (h : j < acc.length), wr.cell? ⟨bk, off + j, none⟩ = some (.int .i64 acc[j]) := by
              obtain ⟨ao', cap', hv, _, hrow⟩ := own_row hown
              cases hv
              exact RowAt.int (xs := acc) hrow (k := i - 1) (by omega)
            subst hao
            have hcell := hc (i - 1) (by omega)
            have hlast : acc[i - 1]'(by omega) = l := by
              have := lastOf_succ' (-1) acc (i - 1) (by omega)
              rw [show i - 1 + 1 = i by omega] at this
              rw [← this, ← hll]
            rw [hlast] at hcell
            have hw1 : ((i : Int) - 1).toNat = i - 1 := by omega
            have hm1 : 4611686018427387904 - (l + 1) = (m : Int) := by omega
            have hlb : l + 1 ≤ 4611686018427387904 := by omega
            have hal2 : i - 1 < acc.length := by omega
            have hn' : Hid (∀ W, Rd b s (.ok p) W → Calls Try.prog 54 #[.pointer (some ⟨b, 0, none⟩), .int .i64 (4611686018427387904 - (l + 1)), .int .i64 10] W fun e w' => e = .returned (.int .i64 g) ∧ Rd b s st2 w' ∧ Only b W w') := by
              unfold Hid; intro W hW; have := hn.out W hW; rw [hm1]; exact this
            have HAL := hid hal
            have hgl2 : (g : Int) ≤ 4611686018427387904 - l - 1 := by omega
            have hxe : l + ((g : Int) + 1) = l + 1 + (g : Int) := by omega
            have hxe := hid hxe
            clear hr2 HREST hl3 hown hll hm hn hrn e1 e2 e3 hal hbig hc hlast hm1
            go_wp2_with fail
            refine (hn'.out _ HP.out).mono ?_
            rintro e w2 ⟨rfl, h2, b2⟩
            have P2 := hid h2
            have G2 := hid (HG.out.trans b2)
            have O2 := hid (own_only HO.out b2 hblo)
            have hsz2 : w.heap.size ≤ w2.heap.size := G2.out.size
            clear h2 b2 c0 c1 c2 f1 f2
            go_wp2_with (first
              | (at_builtin; refine wp_append1 w.heap.size rfl (.tmp 40) (.tmp 44) 55 3 (.int .i64 0) 8 rfl Try.underlying55 info_int rfl (by decide) _ (ints acc) (.int .i64 (l + 1 + (g : Int))) rfl rfl rfl (by rw [hil]; exact O2.out) hsz2 (by rw [hil]; exact hln) ?_; intro v4 w4 hown4 hb4; rw [← hxe.out, E3.out] at hown4; obtain ⟨ao4, cap4, hv4⟩ := own_val hown4; subst hv4; have O4 := hid hown4; have P4 := hid (P2.out.upto hb4 hblo); have G4 := hid (G2.out.grow hb4 hblo); clear hown4 hb4)
              | fail)
            go_roundw
            case rel =>
              refine ⟨i + 1, l + ((g : Int) + 1), acc ++ [l + ((g : Int) + 1)], st2, ao4, cap4, by go_num, by omega, by rw [E2.out], by omega, fun q hq => ⟨by omega, by rw [E2.out]; omega, ?_⟩, by rw [E2.out]; omega, P4.out, ?_, HST.out.symm, G4.out⟩
              · rw [← HAL.out, lastOf_succ' _ _ acc.length (by rw [E2.out]; omega)]; simp
              · rw [E2.out, E1.out]
                exact O4.out
            case measure => simp [intOf]; omega
    · have HU : Hid (rdPlaces s st0 = (acc, st)) := by
        have := HREST.out.symm
        rw [show n1 - i = 0 by omega] at this
        exact HDEF.out.trans this
      clear HREST hl3 hrd hown
      go_wp2_with fail
      go_ret
      exact ⟨ao, cap, acc, rfl, HO.out, by rw [HU.out]; exact HP.out, HG.out, fun p hp => by rw [HU.out]⟩
end Go.Proofs.Ytmihgnjifmkaaaa
