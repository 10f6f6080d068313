/- The walk of check.Count: how many hashes a proof has, or the refusal. -/
import Derived.Test.YtocjjiacmedjmaaAmong
import Derived.Test.YtocjjiacmedjmaaRising
set_option maxRecDepth 100000
namespace Go.Proofs.Ytocjjiacmedjmaa
open Go Go.RowKit

/-- What check.Count answers. -/
def countN (kind a b n : Int) (xs : List Int) : Int × Int :=
  if kind < 1 ∨ 4 < kind then (0, 110) else if n < 0 ∨ 4611686018427387904 < n then (0, 80) else
  if kind = 1 then (if a < 0 ∨ n ≤ a then (0, 81) else ((stepsN a.toNat n.toNat : Nat), 0)) else
  if kind = 2 then (if a < 0 ∨ n < a then (0, 80) else if a = 0 ∨ a = n then (0, 0) else ((oldN a.toNat n.toNat true : Nat), 0)) else
  if kind = 3 then (if a < 0 ∨ b ≤ a ∨ n < b then (0, 81) else ((outN (hasB a.toNat b.toNat) 0 n.toNat : Nat), 0)) else
  if risingN xs n = 0 then ((outN (hasA xs) 0 n.toNat : Nat), 0) else (0, risingN xs n)
def countV (r : Int × Int) : Value := .tuple #[.int .i64 r.1, .int .i64 r.2]
def Counted (r : Int × Int) (w : World) (e : Ending) (w' : World) : Prop := e = .returned (countV r) ∧ Below w.heap.size w w'

theorem risN_zero (xs : List Int) (n : Int) (i : Nat) (h : risN xs n i = 0) (hi : i < xs.length) : 0 ≤ xs.getD i 0 ∧ xs.getD i 0 < n := by
  rw [risN, dif_pos hi] at h
  split at h
  · simp at h
  · omega
theorem risingN_pos (xs : List Int) (n : Int) (h : risingN xs n = 0) : 0 < n := by
  unfold risingN at h
  split at h
  · simp at h
  · split at h
    · simp at h
    · have := risN_zero xs n 0 h (by omega); omega

theorem count_kind (kind a b n : Int) (v : Value) (hk : kind < 1 ∨ 4 < kind) (w : World) :
    Calls Try.prog 23 #[.int .i64 kind, .int .i64 a, .int .i64 b, .int .i64 n, v] w (Counted (0, 110) w) := by
  rcases hk with h | h
  · go_enter Try.func23, Try.ntmps23
    go_wp2_with fail
    go_ret2
    exact ⟨rfl, Below.refl _ _⟩
  · have h' : ¬ kind < 1 := by omega
    go_enter Try.func23, Try.ntmps23
    go_wp2_with fail
    go_ret2
    exact ⟨rfl, Below.refl _ _⟩
theorem count_size (kind a b n : Int) (v : Value) (hk : 1 ≤ kind) (hk2 : kind ≤ 4) (hn : n < 0 ∨ 4611686018427387904 < n) (w : World) :
    Calls Try.prog 23 #[.int .i64 kind, .int .i64 a, .int .i64 b, .int .i64 n, v] w (Counted (0, 80) w) := by
  rcases hn with h | h
  · go_enter Try.func23, Try.ntmps23
    go_wp2_with fail
    go_ret2
    exact ⟨rfl, Below.refl _ _⟩
  · have h' : ¬ n < 0 := by omega
    go_enter Try.func23, Try.ntmps23
    go_wp2_with fail
    go_ret2
    exact ⟨rfl, Below.refl _ _⟩
theorem count_one (a b n : Int) (v : Value) (hn : 0 ≤ n) (hn2 : n ≤ 4611686018427387904) (w : World) :
    Calls Try.prog 23 #[.int .i64 1, .int .i64 a, .int .i64 b, .int .i64 n, v] w (Counted (if a < 0 ∨ n ≤ a then (0, 81) else ((stepsN a.toNat n.toNat : Nat), 0)) w) := by
  by_cases c1 : a < 0
  · rw [if_pos (Or.inl c1)]
    go_enter Try.func23, Try.ntmps23
    go_wp2_with fail
    go_ret2
    exact ⟨rfl, Below.refl _ _⟩
  by_cases c2 : n ≤ a
  · rw [if_pos (Or.inr c2)]
    go_enter Try.func23, Try.ntmps23
    go_wp2_with fail
    go_ret2
    exact ⟨rfl, Below.refl _ _⟩
  rw [if_neg (by omega)]
  go_enter Try.func23, Try.ntmps23
  go_wp2_with (go_at_call 45; refine (check_steps _ _ (by omega) (by omega) hn2 _).mono ?_; rintro e w' ⟨rfl, rfl⟩)
  go_ret2
  exact ⟨rfl, Below.refl _ _⟩
theorem count_two (a b n : Int) (v : Value) (hn : 0 ≤ n) (hn2 : n ≤ 4611686018427387904) (w : World) :
    Calls Try.prog 23 #[.int .i64 2, .int .i64 a, .int .i64 b, .int .i64 n, v] w (Counted (if a < 0 ∨ n < a then (0, 80) else if a = 0 ∨ a = n then (0, 0) else ((oldN a.toNat n.toNat true : Nat), 0)) w) := by
  by_cases c1 : a < 0
  · rw [if_pos (Or.inl c1)]
    go_enter Try.func23, Try.ntmps23
    go_wp2_with fail
    go_ret2
    exact ⟨rfl, Below.refl _ _⟩
  by_cases c2 : n < a
  · rw [if_pos (Or.inr c2)]
    go_enter Try.func23, Try.ntmps23
    go_wp2_with fail
    go_ret2
    exact ⟨rfl, Below.refl _ _⟩
  rw [if_neg (by omega)]
  by_cases c3 : a = 0
  · rw [if_pos (Or.inl c3)]
    subst c3
    go_enter Try.func23, Try.ntmps23
    go_wp2_with fail
    go_ret2
    exact ⟨rfl, Below.refl _ _⟩
  have c3' : (a == 0) = false := beq_eq_false_iff_ne.2 c3
  by_cases c4 : a = n
  · rw [if_pos (Or.inr c4)]
    subst c4
    clear c3
    go_enter Try.func23, Try.ntmps23
    go_wp2_with fail
    go_ret2
    exact ⟨rfl, Below.refl _ _⟩
  have c4' : (a == n) = false := beq_eq_false_iff_ne.2 c4
  rw [if_neg (by omega)]
  have hc := hid (check_old n.toNat a n true (by omega) (by omega) (by omega) hn2)
  go_enter Try.func23, Try.ntmps23
  go_wp2_with (go_at_call 46; refine (hc.out _).mono ?_; rintro e w' ⟨rfl, rfl⟩)
  go_ret2
  exact ⟨rfl, Below.refl _ _⟩
theorem between_run (p q a b : Value) (W : World) : (callFunc 60 (#[a, b] ++ #[p, q])).run Try.prog W = .ok (.enter 60 (#[a, b] ++ #[p, q])) W := by kernel_rfl
theorem among_run (p a b : Value) (W : World) : (callFunc 61 (#[a, b] ++ #[p])).run Try.prog W = .ok (.enter 61 (#[a, b] ++ #[p])) W := by kernel_rfl

theorem count_three (a b n : Int) (v : Value) (hn : 0 ≤ n) (hn2 : n ≤ 4611686018427387904) (w : World) :
    Calls Try.prog 23 #[.int .i64 3, .int .i64 a, .int .i64 b, .int .i64 n, v] w (Counted (if a < 0 ∨ b ≤ a ∨ n < b then (0, 81) else ((outN (hasB a.toNat b.toNat) 0 n.toNat : Nat), 0)) w) := by
  by_cases c1 : a < 0
  · rw [if_pos (by omega)]
    go_enter Try.func23, Try.ntmps23
    go_wp2_with fail
    go_ret2
    exact ⟨rfl, Below.refl _ _⟩
  by_cases c2 : b ≤ a
  · rw [if_pos (by omega)]
    go_enter Try.func23, Try.ntmps23
    go_wp2_with fail
    go_ret2
    exact ⟨rfl, Below.refl _ _⟩
  by_cases c3 : n < b
  · rw [if_pos (by omega)]
    go_enter Try.func23, Try.ntmps23
    go_wp2_with fail
    go_ret2
    exact ⟨rfl, Below.refl _ _⟩
  rw [if_neg (by omega)]
  have hout := hid (fun (W : World) (p q : Addr) (h1 : W.cell? p = some (.int .i64 a)) (h2 : W.cell? q = some (.int .i64 b)) => outside_any 60 #[.pointer (some p), .pointer (some q)] (hasB a.toNat b.toNat) W
    (fun x y W' => between_run _ _ x y W') (fun x y hx hxy _ => between_at a b x y p q W h1 h2 (by omega) (by omega) hx (by omega)) (hasB_ge _ _) (hasB_cases _ _) n.toNat 0 n (by omega) (by omega) (by omega) hn2)
  have hbt := hid (check_between a b)
  go_enter Try.func23, Try.ntmps23
  go_wp2_with fail
  refine (hbt.out _).mono ?_
  rintro e w' ⟨rfl, rfl⟩
  go_wp2_with fail
  refine (hout.out _ _ _ (by simp [go_sem]) (by simp [go_sem])).mono ?_
  rintro e w' ⟨rfl, rfl⟩
  go_wp2_with fail
  go_ret2
  exact ⟨rfl, ((Below.refl _ _).alloc (Nat.le_refl _) _).alloc (by simp) _⟩
theorem count_four (a b n : Int) (ao : Option Addr) (xs : List Int) (cap : Nat) (hn : 0 ≤ n) (hn2 : n ≤ 4611686018427387904) (w : World) (hx : RowAt w ao (ints xs)) (hl : xs.length ≤ 4611686018427387904) :
    Calls Try.prog 23 #[.int .i64 4, .int .i64 a, .int .i64 b, .int .i64 n, .slice ao xs.length cap] w (Counted (if risingN xs n = 0 then ((outN (hasA xs) 0 n.toNat : Nat), 0) else (0, risingN xs n)) w) := by
  have hr := hid (check_rising ao xs cap n w hx)
  by_cases z : risingN xs n = 0
  · rw [if_pos z]
    have hp := risingN_pos xs n z
    rw [z] at hr
    clear z
    have hout := hid (fun (W : World) (p : Addr) (hb : Below w.heap.size w W) (h1 : W.cell? p = some (.slice ao xs.length cap)) => outside_any 61 #[.pointer (some p)] (hasA xs) W
      (fun x y W' => among_run _ x y W') (fun x y hx0 hxy hy => among_at ao xs cap x y p W h1 (hx.below hb) hl hx0 hxy hy) (hasA_one _) (hasA_cases _) n.toNat 0 n (by omega) (by omega) (by omega) hn2)
    have ham := hid (fun W => check_among (.slice ao xs.length cap) W ⟨_, _, _, rfl⟩)
    clear hx
    go_enter Try.func23, Try.ntmps23
    go_wp2_with fail
    refine (hr.out).mono ?_
    rintro e w' ⟨rfl, rfl⟩
    go_wp2_with fail
    refine (ham.out _).mono ?_
    rintro e w' ⟨rfl, rfl⟩
    go_wp2_with fail
    refine (hout.out _ _ ((Below.refl _ _).alloc (Nat.le_refl _) _) (by simp [go_sem])).mono ?_
    rintro e w' ⟨rfl, rfl⟩
    go_wp2_with fail
    go_ret2
    exact ⟨rfl, (Below.refl _ _).alloc (Nat.le_refl _) _⟩
  · rw [if_neg z]
    obtain ⟨r, hr2⟩ : ∃ r, r = risingN xs n := ⟨_, rfl⟩
    rw [← hr2] at hr z ⊢
    have z' : (r != 0) = true := by rw [bne_iff_ne]; exact z
    clear hx z hr2
    go_enter Try.func23, Try.ntmps23
    go_wp2_with fail
    refine (hr.out).mono ?_
    rintro e w' ⟨rfl, rfl⟩
    go_wp2_with fail
    go_ret2
    exact ⟨rfl, Below.refl _ _⟩

/-- check.Count, whatever it is asked. -/
theorem check_Count (kind a b n : Int) (ao : Option Addr) (xs : List Int) (cap : Nat) (w : World) (hx : RowAt w ao (ints xs)) (hl : xs.length ≤ 4611686018427387904) :
    Calls Try.prog 23 #[.int .i64 kind, .int .i64 a, .int .i64 b, .int .i64 n, .slice ao xs.length cap] w (Counted (countN kind a b n xs) w) := by
  unfold countN
  by_cases hk : kind < 1 ∨ 4 < kind
  · rw [if_pos hk]; exact count_kind kind a b n _ hk w
  rw [if_neg hk]
  by_cases hn : n < 0 ∨ 4611686018427387904 < n
  · rw [if_pos hn]; exact count_size kind a b n _ (by omega) (by omega) hn w
  rw [if_neg hn]
  by_cases k1 : kind = 1
  · rw [if_pos k1]; subst k1; exact count_one a b n _ (by omega) (by omega) w
  rw [if_neg k1]
  by_cases k2 : kind = 2
  · rw [if_pos k2]; subst k2; exact count_two a b n _ (by omega) (by omega) w
  rw [if_neg k2]
  by_cases k3 : kind = 3
  · rw [if_pos k3]; subst k3; exact count_three a b n _ (by omega) (by omega) w
  rw [if_neg k3]
  obtain rfl : kind = 4 := by omega
  exact count_four a b n ao xs cap (by omega) (by omega) w hx hl
end Go.Proofs.Ytocjjiacmedjmaa
