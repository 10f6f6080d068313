/- Walks of check's closures between and among, and of outside over each. -/
import Derived.Test.YtocjjiacmedjmaaCount
set_option maxRecDepth 100000
namespace Go.Proofs.Ytocjjiacmedjmaa
open Go Go.RowKit

/-- What a part [a, b) has of [lo, hi): 0 nothing, 1 some, 2 all. -/
def hasB (lo hi a b : Nat) : Nat := if b ≤ lo ∨ hi ≤ a then 0 else if lo ≤ a ∧ b ≤ hi then 2 else 1

theorem between_at (lo hi a b : Int) (p q : Addr) (w : World) (h1 : w.cell? p = some (.int .i64 lo)) (h2 : w.cell? q = some (.int .i64 hi)) (hl : 0 ≤ lo) (hh : 0 ≤ hi) (ha : 0 ≤ a) (hb : 0 ≤ b) :
    Calls Try.prog 60 #[.int .i64 a, .int .i64 b, .pointer (some p), .pointer (some q)] w fun e w' => e = .returned (.int .i64 (hasB lo.toNat hi.toNat a.toNat b.toNat)) ∧ w = w' := by
  by_cases c1 : b ≤ lo
  · have H : Hid (hasB lo.toNat hi.toNat a.toNat b.toNat = 0) := by unfold Hid hasB; rw [if_pos (by omega)]
    go_enter Try.func60, Try.ntmps60
    go_wp2_with fail
    go_ret
    exact ⟨ret_int (by rw [H.out]; rfl), rfl⟩
  by_cases c2 : hi ≤ a
  · have H : Hid (hasB lo.toNat hi.toNat a.toNat b.toNat = 0) := by unfold Hid hasB; rw [if_pos (by omega)]
    go_enter Try.func60, Try.ntmps60
    go_wp2_with fail
    go_ret
    exact ⟨ret_int (by rw [H.out]; rfl), rfl⟩
  by_cases c3 : lo ≤ a
  · by_cases c4 : b ≤ hi
    · have H : Hid (hasB lo.toNat hi.toNat a.toNat b.toNat = 2) := by unfold Hid hasB; rw [if_neg (by omega), if_pos (by omega)]
      go_enter Try.func60, Try.ntmps60
      go_wp2_with fail
      go_ret
      exact ⟨ret_int (by rw [H.out]; rfl), rfl⟩
    · have H : Hid (hasB lo.toNat hi.toNat a.toNat b.toNat = 1) := by unfold Hid hasB; rw [if_neg (by omega), if_neg (by omega)]
      go_enter Try.func60, Try.ntmps60
      go_wp2_with fail
      go_ret
      exact ⟨ret_int (by rw [H.out]; rfl), rfl⟩
  · have H : Hid (hasB lo.toNat hi.toNat a.toNat b.toNat = 1) := by unfold Hid hasB; rw [if_neg (by omega), if_neg (by omega)]
    go_enter Try.func60, Try.ntmps60
    go_wp2_with fail
    go_ret
    exact ⟨ret_int (by rw [H.out]; rfl), rfl⟩

theorem hasB_one (lo hi a : Nat) (h : hasB lo hi a (a + 1) = 1) : False := by
  unfold hasB at h; split at h
  · omega
  · split at h <;> omega
theorem hasB_cases (lo hi a b : Nat) : hasB lo hi a b = 0 ∨ hasB lo hi a b = 1 ∨ hasB lo hi a b = 2 := by
  unfold hasB; split
  · omega
  · split <;> omega

/-- outside over a function value that tells of each part what it has. -/
theorem outside_any (F : Nat) (caps : Array Value) (h : Nat → Nat → Nat) (w : World)
    (hrun : ∀ (a b : Value) (W : World), (callFunc F (#[a, b] ++ caps)).run Try.prog W = .ok (.enter F (#[a, b] ++ caps)) W)
    (hcl : ∀ a b : Int, 0 ≤ a → a < b → b ≤ 4611686018427387904 → Calls Try.prog F (#[.int .i64 a, .int .i64 b] ++ caps) w fun e w' => e = .returned (.int .i64 (h a.toNat b.toNat)) ∧ w = w')
    (hone : ∀ a b, h a b = 1 → a < b → 2 ≤ b - a) (hcs : ∀ a b, h a b = 0 ∨ h a b = 1 ∨ h a b = 2) (k : Nat) : ∀ (a b : Int) (_ : b - a ≤ k) (_ : 0 ≤ a) (_ : a < b) (_ : b ≤ 4611686018427387904),
    Calls Try.prog 47 #[.int .i64 a, .int .i64 b, .func (.func F) #[] caps] w fun e w' => e = .returned (.int .i64 (outN h a.toNat b.toNat)) ∧ w = w' := by
  induction k with
  | zero => intro a b hk h0 h1; omega
  | succ k ih =>
    intro a b hk h0 hab h3
    have hc := hcl a b h0 hab h3
    have HR := hrun (.int .i64 a) (.int .i64 b)
    clear hrun hcl
    rcases hcs a.toNat b.toNat with e | e | e
    · rw [e] at hc
      have HC := hid hc; clear hc
      have H := hid (outN_none h a.toNat b.toNat e); clear e ih hone hcs
      go_enter Try.func47, Try.ntmps47
      go_wp2_with fail
      refine (HC.out).mono ?_
      rintro e w' ⟨rfl, rfl⟩
      go_wp2_with fail
      go_ret
      exact ⟨ret_int (by rw [H.out]; rfl), rfl⟩
    · have h2' := hone _ _ e (by omega)
      have hs := sp_lt (b.toNat - a.toNat) h2'
      have hs0 := sp_pos (b.toNat - a.toNat)
      have H := hid (outN_some h a.toNat b.toNat (by omega) (by omega) h2')
      have hA := outN_le h _ a.toNat (a.toNat + sp (b.toNat - a.toNat)) (Nat.le_refl _) (by omega)
      have hB := outN_le h _ (a.toNat + sp (b.toNat - a.toNat)) b.toNat (Nat.le_refl _) (by omega)
      rw [e] at hc
      have HC := hid hc; clear hc e
      have esp : (b - a).toNat = b.toNat - a.toNat := by omega
      have hsplit := check_split (b - a) (by omega) w
      rw [esp] at hsplit
      have HSP := hid hsplit; clear hsplit esp hone hcs
      obtain ⟨s, hs'⟩ : ∃ s, s = sp (b.toNat - a.toNat) := ⟨_, rfl⟩
      rw [← hs'] at hs hs0 hA hB HSP H
      clear hs'
      have I1 := hid (ih a (a + s) (by omega) h0 (by omega) (by omega))
      have I2 := hid (ih (a + s) b (by omega) (by omega) (by omega) (by omega))
      have e1 : (a + (s : Int)).toNat = a.toNat + s := by omega
      rw [e1] at I1 I2
      clear ih e1
      go_enter Try.func47, Try.ntmps47
      go_wp2_with fail
      refine (HC.out).mono ?_
      rintro e w' ⟨rfl, rfl⟩
      go_wp2_with fail
      refine (HSP.out).mono ?_
      rintro e w' ⟨rfl, rfl⟩
      go_wp2_with fail
      refine (I1.out).mono ?_
      rintro e w' ⟨rfl, rfl⟩
      go_wp2_with fail
      refine (I2.out).mono ?_
      rintro e w' ⟨rfl, rfl⟩
      go_wp2_with fail
      go_ret
      exact ⟨ret_int (by rw [H.out]; omega), rfl⟩
    · rw [e] at hc
      have HC := hid hc; clear hc
      have H := hid (outN_all h a.toNat b.toNat e); clear e ih hone hcs
      go_enter Try.func47, Try.ntmps47
      go_wp2_with fail
      refine (HC.out).mono ?_
      rintro e w' ⟨rfl, rfl⟩
      go_wp2_with fail
      go_ret
      exact ⟨ret_int (by rw [H.out]; rfl), rfl⟩
end Go.Proofs.Ytocjjiacmedjmaa
