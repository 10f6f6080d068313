/- Walks of the law's places, same and alike, of what is not alike (printed by wip/mkunlike.py). -/
import Derived.Test.YtocjjiacmedjmaaAlike
set_option maxRecDepth 100000
namespace Go.Proofs.Ytocjjiacmedjmaa
open Go Go.RowKit

/-- Where two lists of one length part. -/
theorem first_diff {A : Type} : ∀ (xs ys : List A), xs.length = ys.length → xs ≠ ys → ∃ i, ∃ (h1 : i < xs.length) (h2 : i < ys.length), xs[i] ≠ ys[i] ∧ ∀ j (hj : j < i), xs[j] = ys[j] := by
  intro xs
  induction xs with
  | nil => intro ys h hn; exact absurd (List.length_eq_zero_iff.1 h.symm).symm hn
  | cons x xs ih =>
    intro ys h hn
    cases ys with
    | nil => simp at h
    | cons y ys =>
      by_cases e : x = y
      · subst e
        obtain ⟨i, h1, h2, hd, he⟩ := ih ys (by simpa using h) (fun e => hn (by rw [e]))
        refine ⟨i + 1, by simpa using h1, by simpa using h2, by simpa using hd, fun j hj => ?_⟩
        cases j with
        | zero => rfl
        | succ j => simpa using he j (by omega)
      · exact ⟨0, by simp, by simp, e, fun j hj => by omega⟩

theorem law_places_ne (ao bo : Option Addr) (xs ys : List Int) (c1 c2 : Nat) (w : World) (hl : xs.length ≤ 4611686018427387904) (hl2 : ys.length ≤ 4611686018427387904) (hx : RowAt w ao (ints xs)) (hy : RowAt w bo (ints ys)) (hne : xs ≠ ys) :
    Calls Try.prog 33 #[.slice ao xs.length c1, .slice bo ys.length c2] w fun e w' => e = .returned (.bool false) ∧ Below w.heap.size w w' := by
  by_cases hll : xs.length = ys.length
  · obtain ⟨d, hd1, hd2, hdn, hde⟩ := first_diff xs ys hll hne
    have HDN := hid hdn
    have HDE := hid hde
    have hlI : (xs.length : Int) = (ys.length : Int) := by omega
    clear hne hdn hde
    go_enter Try.func33, Try.ntmps33
    go_wp2_with fail
    go_loopw [5] (fun i' wr => ∃ i : Nat, i' = .int .i64 i ∧ i ≤ d ∧ Below w.heap.size w wr) (fun i' _ => (xs.length - intOf i').toNat)
    case atStart => exact ⟨0, rfl, by omega, Below.refl _ _⟩
    case round =>
      obtain ⟨i, rfl, hi, hbw⟩ := hrel
      have HB := hid hbw
      have hlt : i < xs.length := by omega
      have hlt2 : i < ys.length := by omega
      obtain ⟨b, off, rfl, hc⟩ := (hx.below hbw).int (k := i) hlt
      obtain ⟨b2, off2, rfl, hc2⟩ := (hy.below hbw).int (k := i) hlt2
      have hcell := hc i hlt
      have hcell2 := hc2 i hlt2
      by_cases hdi : i = d
      · subst hdi
        have hq := HDN.out
        clear hx hy hc hc2 hbw HDE
        obtain ⟨y, hy⟩ : ∃ y, y = xs[i] := ⟨_, rfl⟩
        obtain ⟨z, hz⟩ : ∃ z, z = ys[i] := ⟨_, rfl⟩
        rw [← hy] at hcell hq
        rw [← hz] at hcell2 hq
        have hyz : (y == z) = false := beq_eq_false_iff_ne.2 hq
        clear hy hz HDN hq
        go_wp2_with fail
        go_quiet (fail)
        go_wp2_with fail
        go_ret
        exact ⟨rfl, below_drewN HB.out _⟩
      · have he := HDE.out i (by omega)
        rw [← he] at hcell2
        clear hx hy hc hc2 hbw HDN he
        obtain ⟨y, hy⟩ : ∃ y, y = xs[i] := ⟨_, rfl⟩
        rw [← hy] at hcell hcell2
        clear hy
        go_wp2_with fail
        go_quiet (fail)
        go_wp2_with fail
        go_roundw
        case rel => exact ⟨i + 1, by go_num, by omega, below_drewN HB.out _⟩
        case measure => simp [intOf]; omega
  · have hlI : ((xs.length : Int) != (ys.length : Int)) = true := bne_iff_ne.2 (by omega)
    clear hx hy hne
    go_enter Try.func33, Try.ntmps33
    go_wp2_with fail
    go_ret
    exact ⟨rfl, Below.refl _ _⟩
theorem law_same_ne (ao bo : Option Addr) (xs ys : List ByteArray) (c1 c2 : Nat) (w : World) (hl : xs.length ≤ 4611686018427387904) (hl2 : ys.length ≤ 4611686018427387904) (hx : RowAt w ao (strs' xs)) (hy : RowAt w bo (strs' ys)) (hne : xs ≠ ys) :
    Calls Try.prog 18 #[.slice ao xs.length c1, .slice bo ys.length c2] w fun e w' => e = .returned (.bool false) ∧ Below w.heap.size w w' := by
  by_cases hll : xs.length = ys.length
  · obtain ⟨d, hd1, hd2, hdn, hde⟩ := first_diff xs ys hll hne
    have HDN := hid hdn
    have HDE := hid hde
    have hlI : (xs.length : Int) = (ys.length : Int) := by omega
    clear hne hdn hde
    go_enter Try.func18, Try.ntmps18
    go_wp2_with fail
    go_loopw [5] (fun i' wr => ∃ i : Nat, i' = .int .i64 i ∧ i ≤ d ∧ Below w.heap.size w wr) (fun i' _ => (xs.length - intOf i').toNat)
    case atStart => exact ⟨0, rfl, by omega, Below.refl _ _⟩
    case round =>
      obtain ⟨i, rfl, hi, hbw⟩ := hrel
      have HB := hid hbw
      have hlt : i < xs.length := by omega
      have hlt2 : i < ys.length := by omega
      obtain ⟨b, off, rfl, hc⟩ := (hx.below hbw).str (k := i) hlt
      obtain ⟨b2, off2, rfl, hc2⟩ := (hy.below hbw).str (k := i) hlt2
      have hcell := hc i hlt
      have hcell2 := hc2 i hlt2
      by_cases hdi : i = d
      · subst hdi
        have hq := HDN.out
        clear hx hy hc hc2 hbw HDE
        obtain ⟨y, hy⟩ : ∃ y, y = xs[i] := ⟨_, rfl⟩
        obtain ⟨z, hz⟩ : ∃ z, z = ys[i] := ⟨_, rfl⟩
        rw [← hy] at hcell hq
        rw [← hz] at hcell2 hq
        have hyz : (y.toList == z.toList) = false := by rw [beq_eq_false_iff_ne]; intro e; exact hq (ByteArray.ext (Array.toList_inj.1 (by simpa [ByteArray.toList_eq] using e)))
        clear hy hz HDN hq
        go_wp2_with fail
        go_quiet (fail)
        go_wp2_with fail
        go_ret
        exact ⟨rfl, below_drewN HB.out _⟩
      · have he := HDE.out i (by omega)
        rw [← he] at hcell2
        clear hx hy hc hc2 hbw HDN he
        obtain ⟨y, hy⟩ : ∃ y, y = xs[i] := ⟨_, rfl⟩
        rw [← hy] at hcell hcell2
        clear hy
        go_wp2_with fail
        go_quiet (fail)
        go_wp2_with fail
        go_roundw
        case rel => exact ⟨i + 1, by go_num, by omega, below_drewN HB.out _⟩
        case measure => simp [intOf]; omega
  · have hlI : ((xs.length : Int) != (ys.length : Int)) = true := bne_iff_ne.2 (by omega)
    clear hx hy hne
    go_enter Try.func18, Try.ntmps18
    go_wp2_with fail
    go_ret
    exact ⟨rfl, Below.refl _ _⟩
/-- Two proofs that are not the same are not alike. -/
theorem law_unlike (k wd a b n k' wd' a' b' n' : Int) (xs ys : List Int) (hs gs : List ByteArray) (ao bo ho gp : Option Addr) (c1 c2 d1 d2 : Nat) (w : World)
    (hl1 : xs.length ≤ 4611686018427387904) (hl2 : hs.length ≤ 4611686018427387904) (hl3 : ys.length ≤ 4611686018427387904) (hl4 : gs.length ≤ 4611686018427387904) (hx : RowAt w ao (ints xs)) (hy : RowAt w bo (ints ys)) (hh : RowAt w ho (strs' hs)) (hg : RowAt w gp (strs' gs))
    (hne : ¬ (k = k' ∧ wd = wd' ∧ a = a' ∧ b = b' ∧ n = n' ∧ xs = ys ∧ hs = gs)) :
    Calls Try.prog 10 #[proofV k wd a b n ao xs c1 ho hs d1, proofV k' wd' a' b' n' bo ys c2 gp gs d2] w fun e w' => e = .returned (.bool false) ∧ Below w.heap.size w w' := by
  unfold proofV
  have HX := hid hx
  have HY := hid hy
  have HH := hid hh
  have HG := hid hg
  have s0 := (seven_new w k wd a b n ao xs c1 ho hs d1).alloc (.cells #[.int .i64 k', .int .i64 wd', .int .i64 a', .int .i64 b', .int .i64 n', .slice bo ys.length c2, .slice gp gs.length d2] 25)
  have q0 := seven_new (w.alloc (.cells #[.int .i64 k, .int .i64 wd, .int .i64 a, .int .i64 b, .int .i64 n, .slice ao xs.length c1, .slice ho hs.length d1] 25)) k' wd' a' b' n' bo ys c2 gp gs d2
  have b0 : Below w.heap.size w ((w.alloc (.cells #[.int .i64 k, .int .i64 wd, .int .i64 a, .int .i64 b, .int .i64 n, .slice ao xs.length c1, .slice ho hs.length d1] 25)).alloc (.cells #[.int .i64 k', .int .i64 wd', .int .i64 a', .int .i64 b', .int .i64 n', .slice bo ys.length c2, .slice gp gs.length d2] 25)) := by go_grown
  obtain ⟨W, hW⟩ : ∃ W, W = (w.alloc (.cells #[.int .i64 k, .int .i64 wd, .int .i64 a, .int .i64 b, .int .i64 n, .slice ao xs.length c1, .slice ho hs.length d1] 25)).alloc (.cells #[.int .i64 k', .int .i64 wd', .int .i64 a', .int .i64 b', .int .i64 n', .slice bo ys.length c2, .slice gp gs.length d2] 25) := ⟨_, rfl⟩
  have e1 : (w.alloc (.cells #[.int .i64 k, .int .i64 wd, .int .i64 a, .int .i64 b, .int .i64 n, .slice ao xs.length c1, .slice ho hs.length d1] 25)).heap.size = w.heap.size + 1 := by simp
  rw [e1] at q0
  rw [← hW] at s0 q0 b0
  have B0 := hid b0
  have HW := hid hW.symm
  obtain ⟨ltb, x0, x1, x2, x3, x4, x5, x6⟩ := s0
  obtain ⟨ltc, y0, y1, y2, y3, y4, y5, y6⟩ := q0
  have z6 : Hid (W.cell? ⟨w.heap.size, 6, none⟩ = some (.slice ho hs.length d1)) := x6
  have z7 : Hid (W.cell? ⟨w.heap.size + 1, 6, none⟩ = some (.slice gp gs.length d2)) := y6
  clear hx hy hh hg b0 hW e1
  by_cases e_k : k = k'
  rotate_left
  · have hq : (k != k') = true := bne_iff_ne.2 e_k
    clear hne e_k
    go_enter Try.func10, Try.ntmps10
    go_wp2_with fail
    go_ret
    rw [HW.out]
    exact ⟨rfl, B0.out⟩
  subst e_k
  by_cases e_wd : wd = wd'
  rotate_left
  · have hq : (wd != wd') = true := bne_iff_ne.2 e_wd
    clear hne e_wd
    go_enter Try.func10, Try.ntmps10
    go_wp2_with fail
    go_ret
    rw [HW.out]
    exact ⟨rfl, B0.out⟩
  subst e_wd
  by_cases e_a : a = a'
  rotate_left
  · have hq : (a != a') = true := bne_iff_ne.2 e_a
    clear hne e_a
    go_enter Try.func10, Try.ntmps10
    go_wp2_with fail
    go_ret
    rw [HW.out]
    exact ⟨rfl, B0.out⟩
  subst e_a
  by_cases e_b : b = b'
  rotate_left
  · have hq : (b != b') = true := bne_iff_ne.2 e_b
    clear hne e_b
    go_enter Try.func10, Try.ntmps10
    go_wp2_with fail
    go_ret
    rw [HW.out]
    exact ⟨rfl, B0.out⟩
  subst e_b
  by_cases e_n : n = n'
  rotate_left
  · have hq : (n != n') = true := bne_iff_ne.2 e_n
    clear hne e_n
    go_enter Try.func10, Try.ntmps10
    go_wp2_with fail
    go_ret
    rw [HW.out]
    exact ⟨rfl, B0.out⟩
  subst e_n
  by_cases e_x : xs = ys
  rotate_left
  · clear hne
    go_enter Try.func10, Try.ntmps10
    go_wp2_with (first
      | (go_at_call 33; rw [HW.out]; refine (law_places_ne ao bo xs ys c1 c2 W hl1 hl3 (HX.out.below B0.out) (HY.out.below B0.out) e_x).mono ?_; clear x0 x1 x2 x3 x4 x5 x6 y0 y1 y2 y3 y4 y5 y6; rintro e w1 ⟨rfl, b1⟩; have B1 := hid (Below.then B0.out B0.out.size b1); clear b1)
      | fail)
    go_ret
    exact ⟨rfl, B1.out⟩
  subst e_x
  have e_h : hs ≠ gs := fun e => hne ⟨rfl, rfl, rfl, rfl, rfl, rfl, e⟩
  clear hne
  go_enter Try.func10, Try.ntmps10
  go_wp2_with (first
    | (go_at_call 33; rw [HW.out]; refine (law_places ao bo xs c1 c2 W hl1 (HX.out.below B0.out) (HY.out.below B0.out)).mono ?_; clear x0 x1 x2 x3 x4 x5 x6 y0 y1 y2 y3 y4 y5 y6; rintro e w1 ⟨rfl, b1⟩; have x6 := (b1.cell (p := ⟨w.heap.size, 6, none⟩) ltb).trans z6.out; have y6 := (b1.cell (p := ⟨w.heap.size + 1, 6, none⟩) ltc).trans z7.out; have B1 := hid (Below.then B0.out B0.out.size b1); clear b1)
    | (go_at_call 18; refine (law_same_ne ho gp hs gs d1 d2 _ hl2 hl4 (HH.out.below B1.out) (HG.out.below B1.out) e_h).mono ?_; rintro e w2 ⟨rfl, b2⟩; have B2 := hid (Below.then B1.out B1.out.size b2); clear b2)
    | fail)
  go_ret
  exact ⟨rfl, B2.out⟩
end Go.Proofs.Ytocjjiacmedjmaa
