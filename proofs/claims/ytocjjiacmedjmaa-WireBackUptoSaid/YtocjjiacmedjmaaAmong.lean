/- Walks of check's closure among, of between, among, rising. -/
import Derived.Test.YtocjjiacmedjmaaArgs
import Derived.Test.YtocjjiacmedjmaaOutside
set_option maxRecDepth 100000
namespace Go.Proofs.Ytocjjiacmedjmaa
open Go Go.RowKit

/-- The place at which a binary search ends between i and j. -/
def bsN (xs : List Int) (t : Int) (i j : Nat) : Nat :=
  if h : i < j then (if xs.getD ((i + j) / 2) 0 < t then bsN xs t ((i + j) / 2 + 1) j else bsN xs t i ((i + j) / 2)) else i
termination_by j - i
theorem bsN_end (xs : List Int) (t : Int) (i j : Nat) (h : ¬ i < j) : bsN xs t i j = i := by rw [bsN, dif_neg h]
theorem bsN_up (xs : List Int) (t : Int) (i j : Nat) (h : i < j) (h2 : xs.getD ((i + j) / 2) 0 < t) : bsN xs t i j = bsN xs t ((i + j) / 2 + 1) j := by rw [bsN, dif_pos h, if_pos h2]
theorem bsN_down (xs : List Int) (t : Int) (i j : Nat) (h : i < j) (h2 : ¬ xs.getD ((i + j) / 2) 0 < t) : bsN xs t i j = bsN xs t i ((i + j) / 2) := by rw [bsN, dif_pos h, if_neg h2]
theorem bsN_le (xs : List Int) (t : Int) (k : Nat) : ∀ i j, j - i ≤ k → i ≤ j → i ≤ bsN xs t i j ∧ bsN xs t i j ≤ j := by
  induction k with
  | zero => intro i j h h2; rw [bsN_end _ _ _ _ (by omega)]; omega
  | succ k ih =>
    intro i j h h2
    by_cases hij : i < j
    · by_cases ht : xs.getD ((i + j) / 2) 0 < t
      · rw [bsN_up _ _ _ _ hij ht]; have := ih ((i + j) / 2 + 1) j (by omega) (by omega); omega
      · rw [bsN_down _ _ _ _ hij ht]; have := ih i ((i + j) / 2) (by omega) (by omega); omega
    · rw [bsN_end _ _ _ _ hij]; omega

theorem cmp_Less (x y : Int) (w : World) : Calls Try.prog 68 #[.int .i64 x, .int .i64 y] w fun e w' => e = .returned (.bool (decide (x < y))) ∧ w = w' := by
  go_enter Try.func68, Try.ntmps68
  go_wp2
  go_ret
  exact ⟨rfl, rfl⟩

/-- Does the number stand where the search ends? -/
def bsFound (xs : List Int) (t : Int) : Bool := decide (bsN xs t 0 xs.length < xs.length ∧ xs.getD (bsN xs t 0 xs.length) 0 = t)
/-- slices.BinarySearch at []int: the place, and whether the number stands there. -/
theorem slices_BinarySearch (ao : Option Addr) (xs : List Int) (cap : Nat) (t : Int) (w : World) (hx : RowAt w ao (ints xs)) (hl : xs.length ≤ 4611686018427387904) :
    Calls Try.prog 62 #[.slice ao xs.length cap, .int .i64 t] w fun e w' =>
      e = .returned (.tuple #[.int .i64 (bsN xs t 0 xs.length), .bool (bsFound xs t)]) ∧ w = w' := by
  go_enter Try.func62, Try.ntmps62
  go_wp2
  go_loop [7, 8, 9] (fun i' j' _ => ∃ i j : Nat, i' = .int .i64 i ∧ j' = .int .i64 j ∧ i ≤ j ∧ j ≤ xs.length ∧ bsN xs t i j = bsN xs t 0 xs.length) (fun i' j' _ => (intOf j' - intOf i').toNat)
  case atStart => exact ⟨0, xs.length, rfl, rfl, by omega, by omega, rfl⟩
  case round =>
    obtain ⟨i, j, rfl, rfl, hij, hj, hk⟩ := hrel
    have HK := hid hk
    clear hk
    by_cases hlt : i < j
    · obtain ⟨b, off, rfl, hc⟩ := hx.int (k := (i + j) / 2) (by omega)
      have hcell := hc ((i + j) / 2) (by omega)
      clear hx hc
      obtain ⟨y, hy⟩ : ∃ y, y = xs[(i + j) / 2]'(by omega) := ⟨_, rfl⟩
      rw [← hy] at hcell
      have hy2 : xs.getD ((i + j) / 2) 0 = y := by rw [hy, List.getD_eq_getElem?_getD, List.getElem?_eq_getElem (by omega)]; rfl
      have HY := hid hy2
      clear hy hy2
      go_wp2
      · have ht : y < t := by assumption
        go_round
        case rel => exact ⟨(i + j) / 2 + 1, j, by go_num, rfl, by omega, by omega, by rw [← bsN_up xs t i j hlt (by rw [HY.out]; exact ht)]; exact HK.out⟩
        case measure => simp [intOf]; omega
      · have ht : ¬ y < t := by assumption
        go_round
        case rel => exact ⟨i, (i + j) / 2, rfl, by go_num, by omega, by omega, by rw [← bsN_down xs t i j hlt (by rw [HY.out]; exact ht)]; exact HK.out⟩
        case measure => simp [intOf]; omega
    · have hi : bsN xs t 0 xs.length = i := by rw [← HK.out, bsN_end _ _ _ _ hlt]
      have HI := hid hi
      clear hi HK
      by_cases hq : i < xs.length
      · obtain ⟨b, off, rfl, hc⟩ := hx.int (k := i) hq
        have hcell := hc i hq
        clear hx hc
        obtain ⟨y, hy⟩ : ∃ y, y = xs[i] := ⟨_, rfl⟩
        rw [← hy] at hcell
        have hy2 : xs.getD i 0 = y := by rw [hy, List.getD_eq_getElem?_getD, List.getElem?_eq_getElem hq]; rfl
        have HY := hid hy2
        clear hy hy2
        by_cases hyt : y = t
        · subst hyt
          go_wp2
          go_ret2
          exact ⟨ret2 (int_eq (by rw [HI.out])) (bool_eq (by unfold bsFound; rw [HI.out, HY.out]; simp [hq])), rfl⟩
        · have hyt' : (y == t) = false := beq_eq_false_iff_ne.2 hyt
          go_wp2
          go_ret2
          exact ⟨ret2 (int_eq (by rw [HI.out])) (bool_eq (by unfold bsFound; rw [HI.out, HY.out]; simp [hyt])), rfl⟩
      · clear hx
        go_wp2
        go_ret2
        exact ⟨ret2 (int_eq (by rw [HI.out])) (bool_eq (by unfold bsFound; rw [HI.out]; simp [hq])), rfl⟩
end Go.Proofs.Ytocjjiacmedjmaa
set_option maxRecDepth 100000
namespace Go.Proofs.Ytocjjiacmedjmaa
open Go Go.RowKit

/-- What a part [a, b) has of rising places: 0 nothing, 1 some, 2 all. -/
def hasA (xs : List Int) (a b : Nat) : Nat :=
  if bsN xs a 0 xs.length = xs.length ∨ (b : Int) ≤ xs.getD (bsN xs a 0 xs.length) 0 then 0 else if b - a = 1 then 2 else 1
theorem hasA_cases (xs : List Int) (a b : Nat) : hasA xs a b = 0 ∨ hasA xs a b = 1 ∨ hasA xs a b = 2 := by
  unfold hasA; split
  · omega
  · split <;> omega
theorem hasA_one (xs : List Int) (a b : Nat) (h : hasA xs a b = 1) (hab : a < b) : 2 ≤ b - a := by
  unfold hasA at h; split at h
  · omega
  · split at h <;> omega
theorem hasB_ge (lo hi a b : Nat) (h : hasB lo hi a b = 1) (hab : a < b) : 2 ≤ b - a := by
  rcases Nat.lt_or_ge (b - a) 2 with h2 | h2
  · exact (hasB_one lo hi a (by rw [show a + 1 = b by omega]; exact h)).elim
  · exact h2

theorem among_at (ao : Option Addr) (xs : List Int) (cap : Nat) (a b : Int) (p : Addr) (w : World) (hp : w.cell? p = some (.slice ao xs.length cap)) (hx : RowAt w ao (ints xs)) (hl : xs.length ≤ 4611686018427387904) (ha : 0 ≤ a) (hab : a < b) (hb : b ≤ 4611686018427387904) :
    Calls Try.prog 61 #[.int .i64 a, .int .i64 b, .pointer (some p)] w fun e w' => e = .returned (.int .i64 (hasA xs a.toNat b.toNat)) ∧ w = w' := by
  have hbs := slices_BinarySearch ao xs cap a w hx hl
  have hle := (bsN_le xs a xs.length 0 xs.length (by omega) (by omega)).2
  obtain ⟨i, hi⟩ : ∃ i, i = bsN xs a 0 xs.length := ⟨_, rfl⟩
  rw [← hi] at hbs hle
  have hd : hasA xs a.toNat b.toNat = if i = xs.length ∨ b ≤ xs.getD i 0 then 0 else if b.toNat - a.toNat = 1 then 2 else 1 := by
    unfold hasA; rw [show ((a.toNat : Nat) : Int) = a by omega, show ((b.toNat : Nat) : Int) = b by omega, hi]
  have HB := hid hbs
  clear hbs hi
  by_cases hq : i < xs.length
  · obtain ⟨bb, off, rfl, hc⟩ := hx.int (k := i) hq
    have hcell := hc i hq
    obtain ⟨y, hy⟩ : ∃ y, y = xs[i] := ⟨_, rfl⟩
    rw [← hy] at hcell
    have hy2 : xs.getD i 0 = y := by rw [hy, List.getD_eq_getElem?_getD, List.getElem?_eq_getElem hq]; rfl
    rw [hy2] at hd
    clear hx hc hy hy2
    have hne : ((i : Int) == (xs.length : Int)) = false := beq_eq_false_iff_ne.2 (by omega)
    by_cases hyb : b ≤ y
    · have HD : Hid (hasA xs a.toNat b.toNat = 0) := by unfold Hid; rw [hd, if_pos (Or.inr hyb)]
      clear hd
      go_enter Try.func61, Try.ntmps61
      go_wp2_with (go_at_call 62; refine (HB.out).mono ?_; rintro e w' ⟨rfl, rfl⟩)
      go_ret
      exact ⟨ret_int (by rw [HD.out]; rfl), rfl⟩
    · have hyb' : decide (b ≤ y) = false := decide_eq_false hyb
      by_cases h1 : b - a = 1
      · have HD : Hid (hasA xs a.toNat b.toNat = 2) := by unfold Hid; rw [hd, if_neg (by omega), if_pos (by omega)]
        clear hd
        have h1' : (b - a == 1) = true := by rw [h1]; rfl
        clear h1
        go_enter Try.func61, Try.ntmps61
        go_wp2_with (go_at_call 62; refine (HB.out).mono ?_; rintro e w' ⟨rfl, rfl⟩)
        go_ret
        exact ⟨ret_int (by rw [HD.out]; rfl), rfl⟩
      · have HD : Hid (hasA xs a.toNat b.toNat = 1) := by unfold Hid; rw [hd, if_neg (by omega), if_neg (by omega)]
        clear hd
        have h1' : (b - a == 1) = false := beq_eq_false_iff_ne.2 h1
        clear h1
        go_enter Try.func61, Try.ntmps61
        go_wp2_with (go_at_call 62; refine (HB.out).mono ?_; rintro e w' ⟨rfl, rfl⟩)
        go_ret
        exact ⟨ret_int (by rw [HD.out]; rfl), rfl⟩
  · have hi2 : xs.length = i := by omega
    have HD : Hid (hasA xs a.toNat b.toNat = 0) := by unfold Hid; rw [hd, if_pos (by omega)]
    clear hd hx
    have hi3 : ((i : Int) == xs.length) = true := by rw [hi2]; simp
    clear hi2
    go_enter Try.func61, Try.ntmps61
    go_wp2_with (go_at_call 62; refine (HB.out).mono ?_; rintro e w' ⟨rfl, rfl⟩)
    go_ret
    exact ⟨ret_int (by rw [HD.out]; rfl), rfl⟩

theorem check_between (lo hi : Int) (w : World) :
    Calls Try.prog 48 #[.int .i64 lo, .int .i64 hi] w fun e w' =>
      e = .returned (.func (.func 60) #[] #[.pointer (some ⟨w.heap.size, 0, none⟩), .pointer (some ⟨w.heap.size + 1, 0, none⟩)]) ∧
      w' = (w.alloc (.cells #[.int .i64 lo] 3)).alloc (.cells #[.int .i64 hi] 3) := by
  go_enter Try.func48, Try.ntmps48
  go_wp2_with fail
  go_ret
  exact ⟨rfl, rfl⟩
theorem check_among (v : Value) (w : World) (hv : ∃ ao n c, v = .slice ao n c) :
    Calls Try.prog 50 #[v] w fun e w' =>
      e = .returned (.func (.func 61) #[] #[.pointer (some ⟨w.heap.size, 0, none⟩)]) ∧
      w' = w.alloc (.cells #[v] 22) := by
  obtain ⟨ao, n, c, rfl⟩ := hv
  go_enter Try.func50, Try.ntmps50
  go_wp2_with fail
  go_ret
  exact ⟨rfl, rfl⟩
end Go.Proofs.Ytocjjiacmedjmaa
