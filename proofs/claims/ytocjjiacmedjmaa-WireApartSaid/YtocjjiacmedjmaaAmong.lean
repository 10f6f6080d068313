/- Walks of check's closure among, of between, among, rising. -/
import Derived.Test.YtocjjiacmedjmaaOutside
import Derived.Test.YtocjjiacmedjmaaSlices
set_option maxRecDepth 100000
namespace Go.Proofs.Ytocjjiacmedjmaa
open Go Go.RowKit

/-- What a part [a, b) has of rising places: 0 nothing, 1 some, 2 all. -/
def hasA (xs : List Int) (a b : Nat) : Nat :=
  if bsN xs a 0 xs.length = xs.length ∨ (b : Int) ≤ xs.getD (bsN xs a 0 xs.length) 0 then 0 else if b - a = 1 then 2 else 1
theorem hasA_cases (xs : List Int) (a b : Nat) : hasA xs a b = 0 ∨ hasA xs a b = 1 ∨ hasA xs a b = 2 := by
  unfold hasA; split
  · omega
  · split <;> omega
theorem hasA_one (xs : List Int) (a b : Nat) (h : hasA xs a b = 1) (hab : a < b) : 2 ≤ b - a := by
  unfold hasA at h; split at h
  · omega
  · split at h <;> omega
theorem hasB_ge (lo hi a b : Nat) (h : hasB lo hi a b = 1) (hab : a < b) : 2 ≤ b - a := by
  rcases Nat.lt_or_ge (b - a) 2 with h2 | h2
  · exact (hasB_one lo hi a (by rw [show a + 1 = b by omega]; exact h)).elim
  · exact h2

theorem among_at (ao : Option Addr) (xs : List Int) (cap : Nat) (a b : Int) (p : Addr) (w : World) (hp : w.cell? p = some (.slice ao xs.length cap)) (hx : RowAt w ao (ints xs)) (hl : xs.length ≤ 4611686018427387904) (ha : 0 ≤ a) (hab : a < b) (hb : b ≤ 4611686018427387904) :
    Calls Try.prog 61 #[.int .i64 a, .int .i64 b, .pointer (some p)] w fun e w' => e = .returned (.int .i64 (hasA xs a.toNat b.toNat)) ∧ w = w' := by
  have hbs := slices_BinarySearch ao xs cap a w hx hl
  have hle := (bsN_le xs a xs.length 0 xs.length (by omega) (by omega)).2
  obtain ⟨i, hi⟩ : ∃ i, i = bsN xs a 0 xs.length := ⟨_, rfl⟩
  rw [← hi] at hbs hle
  have hd : hasA xs a.toNat b.toNat = if i = xs.length ∨ b ≤ xs.getD i 0 then 0 else if b.toNat - a.toNat = 1 then 2 else 1 := by
    unfold hasA; rw [show ((a.toNat : Nat) : Int) = a by omega, show ((b.toNat : Nat) : Int) = b by omega, hi]
  have HB := hid hbs
  clear hbs hi
  by_cases hq : i < xs.length
  · obtain ⟨bb, off, rfl, hc⟩ := hx.int (k := i) hq
    have hcell := hc i hq
    obtain ⟨y, hy⟩ : ∃ y, y = xs[i] := ⟨_, rfl⟩
    rw [← hy] at hcell
    have hy2 : xs.getD i 0 = y := by rw [hy, List.getD_eq_getElem?_getD, List.getElem?_eq_getElem hq]; rfl
    rw [hy2] at hd
    clear hx hc hy hy2
    have hne : ((i : Int) == (xs.length : Int)) = false := beq_eq_false_iff_ne.2 (by omega)
    by_cases hyb : b ≤ y
    · have HD : Hid (hasA xs a.toNat b.toNat = 0) := by unfold Hid; rw [hd, if_pos (Or.inr hyb)]
      clear hd
      go_enter Try.func61, Try.ntmps61
      go_wp2_with (go_at_call 62; refine (HB.out).mono ?_; rintro e w' ⟨rfl, rfl⟩)
      go_ret
      exact ⟨ret_int (by rw [HD.out]; rfl), rfl⟩
    · have hyb' : decide (b ≤ y) = false := decide_eq_false hyb
      by_cases h1 : b - a = 1
      · have HD : Hid (hasA xs a.toNat b.toNat = 2) := by unfold Hid; rw [hd, if_neg (by omega), if_pos (by omega)]
        clear hd
        have h1' : (b - a == 1) = true := by rw [h1]; rfl
        clear h1
        go_enter Try.func61, Try.ntmps61
        go_wp2_with (go_at_call 62; refine (HB.out).mono ?_; rintro e w' ⟨rfl, rfl⟩)
        go_ret
        exact ⟨ret_int (by rw [HD.out]; rfl), rfl⟩
      · have HD : Hid (hasA xs a.toNat b.toNat = 1) := by unfold Hid; rw [hd, if_neg (by omega), if_neg (by omega)]
        clear hd
        have h1' : (b - a == 1) = false := beq_eq_false_iff_ne.2 h1
        clear h1
        go_enter Try.func61, Try.ntmps61
        go_wp2_with (go_at_call 62; refine (HB.out).mono ?_; rintro e w' ⟨rfl, rfl⟩)
        go_ret
        exact ⟨ret_int (by rw [HD.out]; rfl), rfl⟩
  · have hi2 : xs.length = i := by omega
    have HD : Hid (hasA xs a.toNat b.toNat = 0) := by unfold Hid; rw [hd, if_pos (by omega)]
    clear hd hx
    have hi3 : ((i : Int) == xs.length) = true := by rw [hi2]; simp
    clear hi2
    go_enter Try.func61, Try.ntmps61
    go_wp2_with (go_at_call 62; refine (HB.out).mono ?_; rintro e w' ⟨rfl, rfl⟩)
    go_ret
    exact ⟨ret_int (by rw [HD.out]; rfl), rfl⟩

theorem check_between (lo hi : Int) (w : World) :
    Calls Try.prog 48 #[.int .i64 lo, .int .i64 hi] w fun e w' =>
      e = .returned (.func (.func 60) #[] #[.pointer (some ⟨w.heap.size, 0, none⟩), .pointer (some ⟨w.heap.size + 1, 0, none⟩)]) ∧
      w' = (w.alloc (.cells #[.int .i64 lo] 3)).alloc (.cells #[.int .i64 hi] 3) := by
  go_enter Try.func48, Try.ntmps48
  go_wp2_with fail
  go_ret
  exact ⟨rfl, rfl⟩
theorem check_among (v : Value) (w : World) (hv : ∃ ao n c, v = .slice ao n c) :
    Calls Try.prog 50 #[v] w fun e w' =>
      e = .returned (.func (.func 61) #[] #[.pointer (some ⟨w.heap.size, 0, none⟩)]) ∧
      w' = w.alloc (.cells #[v] 22) := by
  obtain ⟨ao, n, c, rfl⟩ := hv
  go_enter Try.func50, Try.ntmps50
  go_wp2_with fail
  go_ret
  exact ⟨rfl, rfl⟩
end Go.Proofs.Ytocjjiacmedjmaa
