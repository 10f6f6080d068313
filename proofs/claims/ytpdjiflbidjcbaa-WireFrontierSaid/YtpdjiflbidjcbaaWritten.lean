/- Strings that the call made: kept, written over, grown, looked at. -/
import Derived.Test.YtpdjiflbidjcbaaUnHashes
import Derived.Test.YtpdjiflbidjcbaaHeld
set_option maxRecDepth 100000
namespace Go.Proofs.Ytpdjiflbidjcbaa
open Go Go.RowKit

theorem set_front {n i : Nat} (xs : List ByteArray) (c : ByteArray) (hi : i < xs.length) (hn : xs.length = n) : (List.replicate i c ++ xs.drop i).set i c = List.replicate (i + 1) c ++ xs.drop (i + 1) := by
  apply List.ext_getElem
  · simp; omega
  · intro j h1 h2
    simp at h1
    rw [List.getElem_set]
    by_cases hj : i = j
    · subst hj
      rw [if_pos rfl, List.getElem_append_left (by simp), List.getElem_replicate]
    · rw [if_neg hj]
      by_cases hlt : j < i
      · rw [List.getElem_append_left (by simpa using hlt), List.getElem_append_left (by simp; omega), List.getElem_replicate, List.getElem_replicate]
      · rw [List.getElem_append_right (by simp; omega), List.getElem_append_right (by simp; omega), List.getElem_drop, List.getElem_drop]
        congr 1; simp; omega
theorem strs'_set (xs : List ByteArray) (i : Nat) (c : ByteArray) : (strs' xs).set i (.string c) = strs' (xs.set i c) := by
  unfold strs'; rw [List.map_set]
theorem strs'_one (xs : List ByteArray) : ∀ u ∈ strs' xs, u.oneCell' = true := by
  intro u hu
  obtain ⟨x, _, rfl⟩ := List.mem_map.1 hu
  rfl

set_option maxHeartbeats 1000000 in
theorem law_mark (lo hi : Nat) (v : Value) (xs : List ByteArray) (c : ByteArray) (hl : xs.length ≤ 4611686018427387904) (w : World) (h : Held w lo hi 9 1 v xs.length (strs' xs)) :
    Calls Try.prog 12 #[v, .string c] w (WrPost lo hi 9 1 v xs.length (strs' (List.replicate xs.length c)) (.tuple #[]) w) := by
  have H := hid h
  obtain ⟨ao, cap, hv⟩ := h.val
  subst hv
  rcases Nat.eq_zero_or_pos xs.length with h0 | h0
  · obtain rfl : xs = [] := List.eq_nil_of_length_eq_zero h0
    clear h
    go_enter Try.func12, Try.ntmps12
    go_wp2_with fail
    refine wp_loop_rounds 1 ?_; rw [rounds_succ]
    go_wp2_with fail
    go_end0
    exact ⟨rfl, by simpa using H.out, grownBy_id _ _⟩
  · obtain ⟨g, cap', hv, -⟩ := h.own.form h0
    cases hv
    clear h
    go_enter Try.func12, Try.ntmps12
    go_wp2_with fail
    go_loopw [4] (fun i' wr => ∃ i : Nat, i' = .int .i64 i ∧ i ≤ xs.length ∧ Held wr lo hi 9 1 (.slice (some ⟨g, 0, none⟩) xs.length cap) xs.length (strs' (List.replicate i c ++ xs.drop i)) ∧ w.grownBy wr (some g)) (fun i' _ => (xs.length - intOf i').toNat)
    case atStart => exact ⟨0, rfl, by omega, by simpa using H.out, grownBy_id _ _⟩
    case round =>
      obtain ⟨i, rfl, hi1, hh, hgr⟩ := hrel
      have HH := hid hh
      have HG := hid hgr
      have hlen : (List.replicate i c ++ xs.drop i).length = xs.length := by simp; omega
      by_cases hlt : i < xs.length
      · have hst := hid (set_front xs c hlt rfl)
        have ho := hh.own
        have hcell : ∃ y, wr.cell? ⟨g, i, none⟩ = some (.string y) := by
          have := ho.cellAt i (by omega)
          rw [this, List.getElem?_eq_getElem (by rw [strs'_length, hlen]; exact hlt)]
          exact ⟨(List.replicate i c ++ xs.drop i)[i]'(by omega), by simp [strs']⟩
        obtain ⟨y, hcell⟩ := hcell
        have hfz := ho.frozenAt i
        have hs := ho.stored i (.string c)
        rw [strs'_set, hst.out] at hs
        have HS := hid hs
        clear hh hgr ho hs hlen
        go_wp2_with fail
        go_roundw
        case rel =>
          exact ⟨i + 1, by go_num, by omega, HH.out.grown HS.out.1 HS.out.2.size, grownBy_two HG.out HS.out.2⟩
        case measure => simp [intOf]; omega
      · obtain rfl : i = xs.length := by omega
        clear hh hgr hlen
        go_wp2_with fail
        go_end0
        exact ⟨rfl, by simpa using HH.out, HG.out⟩

set_option maxHeartbeats 1000000 in
theorem law_grown (lo hi : Nat) (v : Value) (n : Nat) (xs : List ByteArray) (c : ByteArray) (hl : n ≤ 1073741824) (w : World) (hlo : lo ≤ w.heap.size) (h : Held w lo hi 9 1 v n (strs' xs)) :
    Calls Try.prog 13 #[v, .string c] w (WrPost lo hi 9 1 v n (strs' xs) (.int .i64 ((n : Int) + 301)) w) := by
  have H := hid h
  have G0 := hid (Grew.start h.own)
  obtain ⟨ao, cap, hv⟩ := h.val
  subst hv
  clear h
  go_enter Try.func13, Try.ntmps13
  go_wp2_with (first
    | (at_builtin; refine wp_append_grew (w0 := w) lo rfl (.tmp 7) (.tmp 9) 22 9 (.string ⟨#[]⟩) 1 16 rfl Try.underlying22 info_string rfl (by decide) (by decide) (.slice ao n cap) n (strs' xs) (.slice ao n cap) n [.string c] rfl _ rfl rfl rfl (strs'_one [c]) G0.out (Nat.le_refl _) (by omega) (by omega) ?_; intro g cap2 w1 hg1; have G1 := hid hg1; clear hg1)
    | fail)
  go_loopw [5, 6] (fun v' i' wr => ∃ (i g cp : Nat), i' = .int .i64 i ∧ i ≤ 300 ∧ v' = .slice (some ⟨g, 0, none⟩) (n + 1 + i) cp ∧ Grew w lo 9 1 (.slice ao n cap) n (strs' xs) v' (n + 1 + i) wr) (fun _ i' _ => (300 - intOf i').toNat)
  case atStart => exact ⟨0, g, cap2, rfl, by omega, rfl, G1.out⟩
  case round =>
    clear G1 G0
    obtain ⟨i, g2, cp, rfl, hi1, rfl, hg2⟩ := hrel
    have G2 := hid hg2
    by_cases hlt : i < 300
    · clear hg2
      go_wp2_with (first
        | (at_builtin; refine wp_append_grew (w0 := w) lo rfl (.tmp 15) (.tmp 17) 22 9 (.string ⟨#[]⟩) 1 16 rfl Try.underlying22 info_string rfl (by decide) (by decide) (.slice ao n cap) n (strs' xs) (.slice (some ⟨g2, 0, none⟩) (n + 1 + i) cp) (n + 1 + i) [.string c] rfl _ rfl rfl rfl (strs'_one [c]) G2.out (by omega) (by omega) (by omega) ?_; intro g3 cap3 w3 hg3; have G3 := hid hg3; clear hg3)
        | fail)
      go_roundw
      case rel => exact ⟨i + 1, g3, cap3, by go_num, by omega, rfl, G3.out⟩
      case measure => simp [intOf]; omega
    · obtain rfl : i = 300 := by omega
      have hsz := hg2.kept.size
      clear hg2
      go_wp2_with fail
      go_ret
      exact ⟨ret_int (by omega), H.out.grown G2.out.own0 hsz, G2.out.kept⟩

theorem law_full (ao : Option Addr) (n cap : Nat) (c : ByteArray) (hl : n ≤ 4611686018427387904) (w : World) (h : RowAt w ao (strs' (List.replicate n c))) :
    Calls Try.prog 14 #[.slice ao n cap, .string c] w fun e w' => e = .returned (.bool true) ∧ w = w' := by
  go_enter Try.func14, Try.ntmps14
  go_wp2_with fail
  go_loop [5] (fun i' => ∃ i : Nat, i' = .int .i64 i ∧ i ≤ n) (fun i' => (n - intOf i').toNat)
  case atStart => exact ⟨0, rfl, by omega⟩
  case round =>
    obtain ⟨i, rfl, hi1⟩ := hrel
    by_cases hlt : i < n
    · obtain ⟨b, off, rfl, hc⟩ := h.str (k := i) (by simpa using hlt)
      have hcell := hc i (by simpa using hlt)
      rw [List.getElem_replicate] at hcell
      clear h hc
      go_wp2_with fail
      go_round
      case rel => exact ⟨i + 1, by go_num, by omega⟩
      case measure => simp [intOf]; omega
    · clear h
      go_wp2_with fail
      go_ret
      exact ⟨rfl, rfl⟩
end Go.Proofs.Ytpdjiflbidjcbaa
