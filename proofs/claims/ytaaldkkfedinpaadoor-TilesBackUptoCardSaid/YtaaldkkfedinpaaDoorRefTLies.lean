/- The reference's lies, Goes (printed by wip/mkreflies.py). -/
import Derived.Test.YtaaldkkfedinpaaDoorTLies
set_option maxRecDepth 100000
namespace Go.Proofs.YtaaldkkfedinpaaDoor
open Go Go.RowKit

set_option maxHeartbeats 1000000 in
theorem ref23_lies (h l i c : Int) (n : Nat) (hn : n ≤ 9223372036854775807) (_bh : -9223372036854775808 ≤ h ∧ h ≤ 9223372036854775807) (_bl : -9223372036854775808 ≤ l ∧ l ≤ 9223372036854775807) (_bi : -9223372036854775808 ≤ i ∧ i ≤ 9223372036854775807) (_bc : -9223372036854775808 ≤ c ∧ c ≤ 9223372036854775807) (w : World) :
    Calls Tryd.prog 85 #[.agg #[.int .i64 h, .int .i64 l, .int .i64 i, .int .i64 c], .int .i64 n] w fun e w' => e = .returned (.bool (decide (Lies h l i c n))) ∧ Below w.heap.size w w' := by
  obtain ⟨d, hd⟩ : ∃ d, d = decide (Lies h l i c n) := ⟨_, rfl⟩
  rw [← hd]
  have HD := hid hd
  have HNo : Hid (¬ Lies h l i c n → d = false) := by unfold Hid; intro h; rw [HD.out]; exact decide_eq_false h
  clear hd
  by_cases t1 : h < 1
  · have HR := hid (HNo.out (by unfold Lies; omega))
    have e0 : decide (h < 1) = true := by simp; omega
    go_enter Tryd.func85, Tryd.ntmps85
    go_wp2_with fail
    go_ret
    exact ⟨ret_bool' HR.out.symm, by repeat' (first | exact Below.refl _ _ | apply Below.alloc | apply Below.drew | (simp; done))⟩
  by_cases t2 : 8 < h
  · have HR := hid (HNo.out (by unfold Lies; omega))
    have e0 : decide (h < 1) = false := by simp; omega
    have e1 : decide (8 < h) = true := by simp; omega
    go_enter Tryd.func85, Tryd.ntmps85
    go_wp2_with fail
    go_ret
    exact ⟨ret_bool' HR.out.symm, by repeat' (first | exact Below.refl _ _ | apply Below.alloc | apply Below.drew | (simp; done))⟩
  by_cases t3 : l < 0
  · have HR := hid (HNo.out (by unfold Lies; omega))
    have e0 : decide (h < 1) = false := by simp; omega
    have e1 : decide (8 < h) = false := by simp; omega
    have e2 : decide (l < 0) = true := by simp; omega
    go_enter Tryd.func85, Tryd.ntmps85
    go_wp2_with fail
    go_ret
    exact ⟨ret_bool' HR.out.symm, by repeat' (first | exact Below.refl _ _ | apply Below.alloc | apply Below.drew | (simp; done))⟩
  have hlm : l ≤ l * h := by
    have := Int.mul_le_mul_of_nonneg_left (show 1 ≤ h by omega) (show 0 ≤ l by omega)
    omega
  by_cases t4 : 62 < l
  · have HR := hid (HNo.out (by unfold Lies; omega))
    clear hlm
    have e0 : decide (h < 1) = false := by simp; omega
    have e1 : decide (8 < h) = false := by simp; omega
    have e2 : decide (l < 0) = false := by simp; omega
    have e3 : decide (62 < l) = true := by simp; omega
    go_enter Tryd.func85, Tryd.ntmps85
    go_wp2_with fail
    go_ret
    exact ⟨ret_bool' HR.out.symm, by repeat' (first | exact Below.refl _ _ | apply Below.alloc | apply Below.drew | (simp; done))⟩
  have hl0 : 0 ≤ l * h := Int.mul_nonneg (by omega) (by omega)
  have hl8 : l * h ≤ 62 * 8 := Int.le_trans (Int.mul_le_mul_of_nonneg_left (show h ≤ 8 by omega) (by omega)) (Int.mul_le_mul_of_nonneg_right (show l ≤ 62 by omega) (by omega))
  have hLm : Hid (¬ l * h ≤ 62 → d = false) := by unfold Hid; intro hx; refine HNo.out ?_; unfold Lies; exact fun h => hx h.2.2.2.1
  obtain ⟨m, hm⟩ : ∃ m, m = l * h := ⟨_, rfl⟩
  rw [← hm] at hl0 hl8 hLm
  have hmm := hm.symm
  clear hlm hm
  by_cases t5 : 62 < m
  · have HR := hid (hLm.out (by omega))
    have e0 : decide (h < 1) = false := by simp; omega
    have e1 : decide (8 < h) = false := by simp; omega
    have e2 : decide (l < 0) = false := by simp; omega
    have e3 : decide (62 < l) = false := by simp; omega
    have e4 : decide (62 < m) = true := by simp; omega
    go_enter Tryd.func85, Tryd.ntmps85
    go_wp2_with fail
    go_ret
    exact ⟨ret_bool' HR.out.symm, by repeat' (first | exact Below.refl _ _ | apply Below.alloc | apply Below.drew | (simp; done))⟩
  by_cases t6 : i < 0
  · have HR := hid (HNo.out (by unfold Lies; omega))
    have e0 : decide (h < 1) = false := by simp; omega
    have e1 : decide (8 < h) = false := by simp; omega
    have e2 : decide (l < 0) = false := by simp; omega
    have e3 : decide (62 < l) = false := by simp; omega
    have e4 : decide (62 < m) = false := by simp; omega
    have e5 : decide (i < 0) = true := by simp; omega
    go_enter Tryd.func85, Tryd.ntmps85
    go_wp2_with fail
    go_ret
    exact ⟨ret_bool' HR.out.symm, by repeat' (first | exact Below.refl _ _ | apply Below.alloc | apply Below.drew | (simp; done))⟩
  obtain ⟨P, hP⟩ : ∃ P, P = 2 ^ h.toNat := ⟨_, rfl⟩
  have hpow : (2 : Int) ^ h.toNat = (P : Int) := by rw [hP]; simp
  have hP2 : P ≤ 256 := by rw [hP]; exact Nat.pow_le_pow_right (by decide) (show h.toNat ≤ 8 by omega)
  have hP0 : 0 < P := by rw [hP]; exact Nat.pow_pos (by decide)
  have hP1 : ¬ (P : Int) = 0 := by omega
  have hu1 : IntKind.u64.wrap h = h := by rw [IntKind.wrap_u64]; omega
  have hu2 : IntKind.u64.wrap m = m := by rw [IntKind.wrap_u64]; omega
  obtain ⟨r, hr⟩ : ∃ r, r = n / 2 ^ m.toNat := ⟨_, rfl⟩
  have hdiv : (n : Int) / 2 ^ m.toNat = (r : Int) := by rw [hr]; simp
  have hrn : r ≤ n := by rw [hr]; exact Nat.div_le_self _ _
  have HL : Hid (Lies h l i c n ↔ 1 ≤ c ∧ c ≤ (P : Int) ∧ c ≤ (r : Int) ∧ i ≤ ((r : Int) - c) / (P : Int)) := by
    unfold Hid Lies
    rw [hmm, ← hP, ← hr]
    constructor
    · rintro ⟨_, _, _, _, _, a0, a, b, c⟩; exact ⟨a0, a, b, c⟩
    · rintro ⟨a0, a, b, c⟩; exact ⟨by omega, by omega, by omega, by omega, by omega, a0, a, b, c⟩
  clear hP hr hLm
  by_cases t7 : c < 1
  · have HR := hid (HNo.out (by rw [HL.out]; omega))
    have e0 : decide (h < 1) = false := by simp; omega
    have e1 : decide (8 < h) = false := by simp; omega
    have e2 : decide (l < 0) = false := by simp; omega
    have e3 : decide (62 < l) = false := by simp; omega
    have e4 : decide (62 < m) = false := by simp; omega
    have e5 : decide (i < 0) = false := by simp; omega
    have e6 : decide (c < 1) = true := by simp; omega
    go_enter Tryd.func85, Tryd.ntmps85
    go_wp2_with fail
    go_ret
    exact ⟨ret_bool' HR.out.symm, by repeat' (first | exact Below.refl _ _ | apply Below.alloc | apply Below.drew | (simp; done))⟩
  by_cases t8 : (P : Int) < c
  · have HR := hid (HNo.out (by rw [HL.out]; omega))
    have e0 : decide (h < 1) = false := by simp; omega
    have e1 : decide (8 < h) = false := by simp; omega
    have e2 : decide (l < 0) = false := by simp; omega
    have e3 : decide (62 < l) = false := by simp; omega
    have e4 : decide (62 < m) = false := by simp; omega
    have e5 : decide (i < 0) = false := by simp; omega
    have e6 : decide (c < 1) = false := by simp; omega
    have e7 : decide ((P : Int) < c) = true := by simp; omega
    go_enter Tryd.func85, Tryd.ntmps85
    go_wp2_with fail
    go_ret
    exact ⟨ret_bool' HR.out.symm, by repeat' (first | exact Below.refl _ _ | apply Below.alloc | apply Below.drew | (simp; done))⟩
  by_cases t9 : (r : Int) < c
  · have HR := hid (HNo.out (by rw [HL.out]; omega))
    have e0 : decide (h < 1) = false := by simp; omega
    have e1 : decide (8 < h) = false := by simp; omega
    have e2 : decide (l < 0) = false := by simp; omega
    have e3 : decide (62 < l) = false := by simp; omega
    have e4 : decide (62 < m) = false := by simp; omega
    have e5 : decide (i < 0) = false := by simp; omega
    have e6 : decide (c < 1) = false := by simp; omega
    have e7 : decide ((P : Int) < c) = false := by simp; omega
    have e8 : decide (c ≤ (r : Int)) = false := by simp; omega
    go_enter Tryd.func85, Tryd.ntmps85
    go_wp2_with fail
    go_region
    go_wp2_with fail
    go_ret
    exact ⟨ret_bool' HR.out.symm, by repeat' (first | exact Below.refl _ _ | apply Below.alloc | apply Below.drew | (simp; done))⟩
  obtain ⟨z, hz⟩ : ∃ z, z = ((r : Int) - c) / (P : Int) := ⟨_, rfl⟩
  rw [← hz] at HL
  have hz' : Int.tdiv ((r : Int) - c) (P : Int) = z := by rw [Int.tdiv_eq_ediv_of_nonneg (by omega), hz]
  have hz0 : 0 ≤ z := by rw [hz]; exact Int.ediv_nonneg (by omega) (by omega)
  have hzr : z ≤ (r : Int) := by rw [hz]; exact Int.le_trans (Int.ediv_le_self _ (by omega)) (by omega)
  clear hz
  have HR : Hid (d = decide (i ≤ z)) := by
    unfold Hid; rw [HD.out]; apply decide_eq_decide.2; rw [HL.out]; constructor
    · exact fun h => h.2.2.2
    · exact fun h => ⟨by omega, by omega, by omega, h⟩
  clear HD HL
  have e0 : decide (h < 1) = false := by simp; omega
  have e1 : decide (8 < h) = false := by simp; omega
  have e2 : decide (l < 0) = false := by simp; omega
  have e3 : decide (62 < l) = false := by simp; omega
  have e4 : decide (62 < m) = false := by simp; omega
  have e5 : decide (i < 0) = false := by simp; omega
  have e6 : decide (c < 1) = false := by simp; omega
  have e7 : decide ((P : Int) < c) = false := by simp; omega
  have e8 : decide (c ≤ (r : Int)) = true := by simp; omega
  go_enter Tryd.func85, Tryd.ntmps85
  go_wp2_with fail
  go_region
  go_wp2_with fail
  go_ret
  exact ⟨ret_bool' HR.out.symm, by repeat' (first | exact Below.refl _ _ | apply Below.alloc | apply Below.drew | (simp; done))⟩
theorem ref23_Goes (h l i c : Int) (bh : -9223372036854775808 ≤ h ∧ h ≤ 9223372036854775807) (bl : -9223372036854775808 ≤ l ∧ l ≤ 9223372036854775807) (bi : -9223372036854775808 ≤ i ∧ i ≤ 9223372036854775807) (bc : -9223372036854775808 ≤ c ∧ c ≤ 9223372036854775807) (w : World) :
    Calls Tryd.prog 64 #[.agg #[.int .i64 h, .int .i64 l, .int .i64 i, .int .i64 c]] w fun e w' => e = .returned (.bool (decide (Lies h l i c 4611686018427387904))) ∧ Below w.heap.size w w' := by
  have hl := fun W => ref23_lies h l i c 4611686018427387904 (by omega) bh bl bi bc W
  generalize decide (Lies h l i c 4611686018427387904) = d at *
  have HL := hid hl
  clear hl
  go_enter Tryd.func64, Tryd.ntmps64
  go_wp2_with fail
  refine (HL.out _).mono ?_
  rintro e w1 ⟨rfl, hb⟩
  have HB := hid (Below.then' ((Below.refl _ _).alloc (Nat.le_refl _) _) hb)
  clear hb
  go_wp2_with fail
  go_ret
  exact ⟨rfl, HB.out⟩
end Go.Proofs.YtaaldkkfedinpaaDoor
