/- Walks of the reference's ranges, shape, Count; that its count is the program's. -/
import Derived.Test.YtcgfeeommhljgaaDoorGaps
set_option maxRecDepth 100000
namespace Go.Proofs.YtcgfeeommhljgaaDoor
open Go Go.RowKit

theorem ref_ranges (lo hi : Int) (hl : 0 ≤ lo) (hlh : lo < hi) (k : Nat) : ∀ (a b : Int) (w : World) (_ : b - a ≤ k) (_ : 0 ≤ a) (_ : a < b) (_ : b ≤ 4611686018427387904),
    Calls Tryd.prog 78 #[.int .i64 a, .int .i64 b, .int .i64 lo, .int .i64 hi] w fun e w' => e = .returned (.int .i64 (outN (hasB lo.toNat hi.toNat) a.toNat b.toNat)) ∧ w = w' := by
  induction k with
  | zero => intro a b w hk h0 h1; omega
  | succ k ih =>
    intro a b w hk h0 hab hb
    by_cases c1 : b ≤ lo
    · have H := hid (outN_none (hasB lo.toNat hi.toNat) a.toNat b.toNat (by unfold hasB; rw [if_pos (by omega)]))
      clear ih
      go_enter Tryd.func78, Tryd.ntmps78
      go_wp2_with fail
      go_ret
      exact ⟨ret_int (by rw [H.out]; rfl), rfl⟩
    by_cases c2 : hi ≤ a
    · have H := hid (outN_none (hasB lo.toNat hi.toNat) a.toNat b.toNat (by unfold hasB; rw [if_pos (by omega)]))
      clear ih
      go_enter Tryd.func78, Tryd.ntmps78
      go_wp2_with fail
      go_ret
      exact ⟨ret_int (by rw [H.out]; rfl), rfl⟩
    by_cases c3 : lo ≤ a ∧ b ≤ hi
    · obtain ⟨c3, c4⟩ := c3
      have H := hid (outN_all (hasB lo.toNat hi.toNat) a.toNat b.toNat (by unfold hasB; rw [if_neg (by omega), if_pos (by omega)]))
      clear ih
      go_enter Tryd.func78, Tryd.ntmps78
      go_wp2_with fail
      go_ret
      exact ⟨ret_int (by rw [H.out]; rfl), rfl⟩
    have hone : hasB lo.toNat hi.toNat a.toNat b.toNat = 1 := by unfold hasB; rw [if_neg (by omega), if_neg (by omega)]
    have h2' := hasB_ge _ _ _ _ hone (by omega)
    have hs := sp_lt (b.toNat - a.toNat) h2'
    have hs0 := sp_pos (b.toNat - a.toNat)
    have H := hid (outN_some (hasB lo.toNat hi.toNat) a.toNat b.toNat (by omega) (by omega) h2')
    have hA := outN_le (hasB lo.toNat hi.toNat) _ a.toNat (a.toNat + sp (b.toNat - a.toNat)) (Nat.le_refl _) (by omega)
    have hB := outN_le (hasB lo.toNat hi.toNat) _ (a.toNat + sp (b.toNat - a.toNat)) b.toNat (Nat.le_refl _) (by omega)
    have esp : (b - a).toNat = b.toNat - a.toNat := by omega
    have hsplit := ref_Split (b - a) (by omega) (by omega) w
    rw [esp] at hsplit
    have HSP := hid hsplit; clear hsplit esp hone
    obtain ⟨s, hs'⟩ : ∃ s, s = sp (b.toNat - a.toNat) := ⟨_, rfl⟩
    rw [← hs'] at hs hs0 hA hB HSP H
    clear hs'
    have I1 := hid (ih a (a + s) w (by omega) h0 (by omega) (by omega))
    have I2 := hid (ih (a + s) b w (by omega) (by omega) (by omega) (by omega))
    have e1 : (a + (s : Int)).toNat = a.toNat + s := by omega
    rw [e1] at I1 I2
    clear ih e1
    by_cases c4 : lo ≤ a
    all_goals
      have c5 : ¬ (lo ≤ a ∧ b ≤ hi) := c3
      go_enter Tryd.func78, Tryd.ntmps78
      go_wp2_with fail
      refine (HSP.out).mono ?_
      rintro e w' ⟨rfl, rfl⟩
      go_wp2_with fail
      refine (I1.out).mono ?_
      rintro e w' ⟨rfl, rfl⟩
      go_wp2_with fail
      refine (I2.out).mono ?_
      rintro e w' ⟨rfl, rfl⟩
      go_wp2_with fail
      go_ret
      exact ⟨ret_int (by rw [H.out]; omega), rfl⟩

/-- Why a proof of this kind has no shape. -/
def shapeN (kind a b n : Int) (xs : List Int) : Int :=
  if kind = 1 then (if a < 0 ∨ n ≤ a then 81 else 0) else if kind = 2 then (if a < 0 ∨ n < a then 80 else 0) else
  if kind = 3 then (if a < 0 ∨ b ≤ a ∨ n < b then 81 else 0) else risingN xs n

theorem ref_shape (kind a b n : Int) (ao : Option Addr) (xs : List Int) (cap : Nat) (hk1 : 1 ≤ kind) (hk4 : kind ≤ 4) (w : World) (hx : RowAt w ao (ints xs)) :
    Calls Tryd.prog 75 #[.int .i64 kind, .int .i64 a, .int .i64 b, .int .i64 n, .slice ao xs.length cap] w fun e w' => e = .returned (.int .i64 (shapeN kind a b n xs)) ∧ Below w.heap.size w w' := by
  unfold shapeN
  by_cases k1 : kind = 1
  · subst k1
    rw [if_pos rfl]
    clear hx
    by_cases c1 : a < 0
    · rw [if_pos (Or.inl c1)]
      go_enter Tryd.func75, Tryd.ntmps75
      go_wp2_with fail
      go_ret
      exact ⟨rfl, Below.refl _ _⟩
    by_cases c2 : n ≤ a
    · rw [if_pos (Or.inr c2)]
      go_enter Tryd.func75, Tryd.ntmps75
      go_wp2_with fail
      go_ret
      exact ⟨rfl, Below.refl _ _⟩
    rw [if_neg (by omega)]
    go_enter Tryd.func75, Tryd.ntmps75
    go_wp2_with fail
    go_ret
    exact ⟨rfl, Below.refl _ _⟩
  rw [if_neg k1]
  have k1' : (kind == 1) = false := beq_eq_false_iff_ne.2 k1
  by_cases k2 : kind = 2
  · subst k2
    rw [if_pos rfl]
    clear hx k1
    by_cases c1 : a < 0
    · rw [if_pos (Or.inl c1)]
      go_enter Tryd.func75, Tryd.ntmps75
      go_wp2_with fail
      go_ret
      exact ⟨rfl, Below.refl _ _⟩
    by_cases c2 : n < a
    · rw [if_pos (Or.inr c2)]
      go_enter Tryd.func75, Tryd.ntmps75
      go_wp2_with fail
      go_ret
      exact ⟨rfl, Below.refl _ _⟩
    rw [if_neg (by omega)]
    go_enter Tryd.func75, Tryd.ntmps75
    go_wp2_with fail
    go_ret
    exact ⟨rfl, Below.refl _ _⟩
  rw [if_neg k2]
  have k2' : (kind == 2) = false := beq_eq_false_iff_ne.2 k2
  by_cases k3 : kind = 3
  · subst k3
    rw [if_pos rfl]
    clear hx k1 k2
    by_cases c1 : a < 0
    · rw [if_pos (by omega)]
      go_enter Tryd.func75, Tryd.ntmps75
      go_wp2_with fail
      go_ret
      exact ⟨rfl, Below.refl _ _⟩
    by_cases c2 : b ≤ a
    · rw [if_pos (by omega)]
      go_enter Tryd.func75, Tryd.ntmps75
      go_wp2_with fail
      go_ret
      exact ⟨rfl, Below.refl _ _⟩
    by_cases c3 : n < b
    · rw [if_pos (by omega)]
      go_enter Tryd.func75, Tryd.ntmps75
      go_wp2_with fail
      go_ret
      exact ⟨rfl, Below.refl _ _⟩
    rw [if_neg (by omega)]
    go_enter Tryd.func75, Tryd.ntmps75
    go_wp2_with fail
    go_ret
    exact ⟨rfl, Below.refl _ _⟩
  rw [if_neg k3]
  obtain rfl : kind = 4 := by omega
  have hp := hid (ref_places ao xs cap n w hx)
  clear hx k1 k2 k3 k1' k2'
  go_enter Tryd.func75, Tryd.ntmps75
  go_wp2_with fail
  refine (hp.out).mono ?_
  rintro e w1 ⟨rfl, hb⟩
  have HB := hid hb; clear hb
  go_wp2_with fail
  go_ret
  exact ⟨rfl, HB.out⟩

/-- What the reference's Count answers. -/
def refCountN (kind a b n : Int) (xs : List Int) : Int × Int :=
  if kind < 1 ∨ 4 < kind then (0, 110) else if n < 0 ∨ 4611686018427387904 < n then (0, 80) else
  if shapeN kind a b n xs = 0 then
    (if kind = 1 then ((stepsN a.toNat n.toNat : Nat), 0) else if kind = 2 then (if a = 0 then (0, 0) else ((oldN a.toNat n.toNat true : Nat), 0)) else
     if kind = 3 then ((outN (hasB a.toNat b.toNat) 0 n.toNat : Nat), 0) else ((gapsN xs 0 n.toNat : Nat), 0))
  else (0, shapeN kind a b n xs)

theorem ref_count_ok (kind a b n : Int) (ao : Option Addr) (xs : List Int) (cap : Nat) (hk1 : 1 ≤ kind) (hk4 : kind ≤ 4) (hn : 0 ≤ n) (hn2 : n ≤ 4611686018427387904) (w : World) (hx : RowAt w ao (ints xs)) (hl : xs.length * 8 ≤ 140737488355328)
    (hz : shapeN kind a b n xs = 0) :
    Calls Tryd.prog 41 #[.int .i64 kind, .int .i64 a, .int .i64 b, .int .i64 n, .slice ao xs.length cap] w (Counted
      (if kind = 1 then ((stepsN a.toNat n.toNat : Nat), 0) else if kind = 2 then (if a = 0 then (0, 0) else ((oldN a.toNat n.toNat true : Nat), 0)) else
        if kind = 3 then ((outN (hasB a.toNat b.toNat) 0 n.toNat : Nat), 0) else ((gapsN xs 0 n.toNat : Nat), 0)) w) := by
  have hsh := ref_shape kind a b n ao xs cap hk1 hk4 w hx
  rw [hz] at hsh
  have HS := hid hsh; clear hsh
  by_cases k1 : kind = 1
  · subst k1
    rw [if_pos rfl]
    unfold shapeN at hz
    rw [if_pos rfl] at hz
    have c : ¬ (a < 0 ∨ n ≤ a) := by intro h; rw [if_pos h] at hz; simp at hz
    clear hz hx
    go_enter Tryd.func41, Tryd.ntmps41
    go_wp2_with fail
    refine (HS.out).mono ?_
    rintro e w1 ⟨rfl, hb⟩
    have HB := hid hb; clear hb
    go_wp2_with (go_at_call 76; refine (ref_inclusions _ _ (by omega) (by omega) hn2 _).mono ?_; rintro e w' ⟨rfl, rfl⟩)
    go_ret2
    exact ⟨rfl, HB.out⟩
  rw [if_neg k1]
  have k1' : (kind == 1) = false := beq_eq_false_iff_ne.2 k1
  by_cases k2 : kind = 2
  · subst k2
    rw [if_pos rfl]
    unfold shapeN at hz
    rw [if_neg (by decide), if_pos rfl] at hz
    have c : ¬ (a < 0 ∨ n < a) := by intro h; rw [if_pos h] at hz; simp at hz
    clear hz hx k1
    by_cases a0 : a = 0
    · subst a0
      rw [if_pos rfl]
      go_enter Tryd.func41, Tryd.ntmps41
      go_wp2_with fail
      refine (HS.out).mono ?_
      rintro e w1 ⟨rfl, hb⟩
      have HB := hid hb; clear hb
      go_wp2_with fail
      go_ret2
      exact ⟨rfl, HB.out⟩
    · rw [if_neg a0]
      have a0' : (a == 0) = false := beq_eq_false_iff_ne.2 a0
      go_enter Tryd.func41, Tryd.ntmps41
      go_wp2_with fail
      refine (HS.out).mono ?_
      rintro e w1 ⟨rfl, hb⟩
      have HB := hid hb; clear hb
      go_wp2_with (go_at_call 77; refine (ref_growths _ _ (by omega) (by omega) hn2 _).mono ?_; rintro e w' ⟨rfl, rfl⟩)
      go_ret2
      exact ⟨rfl, HB.out⟩
  rw [if_neg k2]
  have k2' : (kind == 2) = false := beq_eq_false_iff_ne.2 k2
  by_cases k3 : kind = 3
  · subst k3
    rw [if_pos rfl]
    unfold shapeN at hz
    rw [if_neg (by decide), if_neg (by decide), if_pos rfl] at hz
    have c : ¬ (a < 0 ∨ b ≤ a ∨ n < b) := by intro h; rw [if_pos h] at hz; simp at hz
    clear hz hx k1 k2
    have hr := hid (fun W => ref_ranges a b (by omega) (by omega) n.toNat 0 n W (by omega) (by omega) (by omega) hn2)
    go_enter Tryd.func41, Tryd.ntmps41
    go_wp2_with fail
    refine (HS.out).mono ?_
    rintro e w1 ⟨rfl, hb⟩
    have HB := hid hb; clear hb
    go_wp2_with (go_at_call 78; refine (hr.out _).mono ?_; rintro e w' ⟨rfl, rfl⟩)
    go_ret2
    exact ⟨rfl, HB.out⟩
  rw [if_neg k3]
  obtain rfl : kind = 4 := by omega
  unfold shapeN at hz
  rw [if_neg (by decide), if_neg (by decide), if_neg (by decide)] at hz
  have hn0 := risingN_pos xs n hz
  have hg := hid (fun W (hb : Below w.heap.size w W) => ref_gaps n.toNat 0 n ao xs cap W (hx.below hb) hl (by omega) (by omega) (by omega) hn2)
  clear hz hx k1 k2 k3 k1' k2'
  go_enter Tryd.func41, Tryd.ntmps41
  go_wp2_with fail
  refine (HS.out).mono ?_
  rintro e w1 ⟨rfl, hb⟩
  have HB := hid hb; clear hb
  go_wp2_with fail
  refine (hg.out _ HB.out).mono ?_
  rintro e w2 ⟨rfl, hb2⟩
  have HB2 := hid (Below.then' HB.out hb2); clear hb2
  go_wp2_with fail
  go_ret2
  exact ⟨rfl, HB2.out⟩

theorem ref_Count (kind a b n : Int) (ao : Option Addr) (xs : List Int) (cap : Nat) (w : World) (hx : RowAt w ao (ints xs)) (hl : xs.length * 8 ≤ 140737488355328) :
    Calls Tryd.prog 41 #[.int .i64 kind, .int .i64 a, .int .i64 b, .int .i64 n, .slice ao xs.length cap] w (Counted (refCountN kind a b n xs) w) := by
  unfold refCountN
  by_cases k1 : kind < 1
  · rw [if_pos (Or.inl k1)]
    clear hx
    go_enter Tryd.func41, Tryd.ntmps41
    go_wp2_with fail
    go_ret2
    exact ⟨rfl, Below.refl _ _⟩
  by_cases k4 : 4 < kind
  · rw [if_pos (Or.inr k4)]
    clear hx
    go_enter Tryd.func41, Tryd.ntmps41
    go_wp2_with fail
    go_ret2
    exact ⟨rfl, Below.refl _ _⟩
  rw [if_neg (by omega)]
  by_cases n0 : n < 0
  · rw [if_pos (Or.inl n0)]
    clear hx
    go_enter Tryd.func41, Tryd.ntmps41
    go_wp2_with fail
    go_ret2
    exact ⟨rfl, Below.refl _ _⟩
  by_cases n4 : 4611686018427387904 < n
  · rw [if_pos (Or.inr n4)]
    clear hx
    go_enter Tryd.func41, Tryd.ntmps41
    go_wp2_with fail
    go_ret2
    exact ⟨rfl, Below.refl _ _⟩
  rw [if_neg (by omega)]
  by_cases z : shapeN kind a b n xs = 0
  · rw [if_pos z]
    exact ref_count_ok kind a b n ao xs cap (by omega) (by omega) (by omega) (by omega) w hx hl z
  · rw [if_neg z]
    have hsh := ref_shape kind a b n ao xs cap (by omega) (by omega) w hx
    obtain ⟨r, hr⟩ : ∃ r, r = shapeN kind a b n xs := ⟨_, rfl⟩
    rw [← hr] at hsh z ⊢
    have HS := hid hsh; clear hsh hx hr
    have z' : (r != 0) = true := by rw [bne_iff_ne]; exact z
    clear z
    go_enter Tryd.func41, Tryd.ntmps41
    go_wp2_with fail
    refine (HS.out).mono ?_
    rintro e w1 ⟨rfl, hb⟩
    have HB := hid hb; clear hb
    go_wp2_with fail
    go_ret2
    exact ⟨rfl, HB.out⟩
end Go.Proofs.YtcgfeeommhljgaaDoor
