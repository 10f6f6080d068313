/- tiles.lies, goes: does a tile go, and lie in a tree of n leaves? (printed by wip/mklies.py) -/
import Derived.Test.YtaaldkkfedinpaaDoorKit
import Derived.Below
set_option maxRecDepth 100000
namespace Go.Proofs.YtaaldkkfedinpaaDoor
open Go Go.RowKit

theorem ret_bool' {a b : Bool} (h : a = b) : Ending.returned (.bool a) = .returned (.bool b) := by rw [h]
/-- Such a tile goes, and lies in a tree of n leaves. -/
def Lies (h l i c : Int) (n : Nat) : Prop := 1 ≤ h ∧ h ≤ 8 ∧ 0 ≤ l ∧ l * h ≤ 62 ∧ 0 ≤ i ∧ 1 ≤ c ∧ c ≤ ((2 ^ h.toNat : Nat) : Int) ∧ c ≤ ((n / 2 ^ (l * h).toNat : Nat) : Int) ∧ i ≤ (((n / 2 ^ (l * h).toNat : Nat) : Int) - c) / ((2 ^ h.toNat : Nat) : Int)
instance (h l i c : Int) (n : Nat) : Decidable (Lies h l i c n) := by unfold Lies; infer_instance
theorem lies_quo (h l : Int) (h1 : 1 ≤ h) (h8 : h ≤ 8) (_l0 : 0 ≤ l) : l ≤ Int.tdiv 62 h ↔ l * h ≤ 62 := by
  rw [Int.tdiv_eq_ediv_of_nonneg (by omega)]
  exact Int.le_ediv_iff_mul_le (by omega)
set_option maxHeartbeats 1000000 in
theorem tiles_lies (h l i c : Int) (n : Nat) (hn : n ≤ 4611686018427387904) (bh : -9223372036854775808 ≤ h ∧ h ≤ 9223372036854775807) (bl : -9223372036854775808 ≤ l ∧ l ≤ 9223372036854775807) (bi : -9223372036854775808 ≤ i ∧ i ≤ 9223372036854775807) (bc : -9223372036854775808 ≤ c ∧ c ≤ 9223372036854775807) (w : World) :
    Calls Tryd.prog 66 #[.agg #[.int .i64 h, .int .i64 l, .int .i64 i, .int .i64 c], .int .i64 n] w fun e w' => e = .returned (.bool (decide (Lies h l i c n))) ∧ Below w.heap.size w w' := by
  obtain ⟨d, hd⟩ : ∃ d, d = decide (Lies h l i c n) := ⟨_, rfl⟩
  rw [← hd]
  have HD := hid hd
  have HNo : Hid (¬ Lies h l i c n → d = false) := by unfold Hid; intro h; rw [HD.out]; exact decide_eq_false h
  clear hd
  by_cases t1 : h < 1
  · have HR := hid (HNo.out (by unfold Lies; omega))
    have e0 : decide (h < 1) = true := by simp; omega
    have HZ := hid (And.intro bh bl)
    clear HZ
    go_enter Tryd.func66, Tryd.ntmps66
    go_wp2_with fail
    go_region
    go_wp2_with fail
    go_ret
    exact ⟨ret_bool' HR.out.symm, by repeat' (first | exact Below.refl _ _ | apply Below.alloc | apply Below.drew | (simp; done))⟩
  by_cases t2 : 8 < h
  · have HR := hid (HNo.out (by unfold Lies; omega))
    have e0 : decide (h < 1) = false := by simp; omega
    have e1 : decide (8 < h) = true := by simp; omega
    have HZ := hid (And.intro bh bl)
    clear HZ
    go_enter Tryd.func66, Tryd.ntmps66
    go_wp2_with fail
    go_region
    go_wp2_with fail
    go_ret
    exact ⟨ret_bool' HR.out.symm, by repeat' (first | exact Below.refl _ _ | apply Below.alloc | apply Below.drew | (simp; done))⟩
  by_cases t3 : l < 0
  · have HR := hid (HNo.out (by unfold Lies; omega))
    have e0 : decide (h < 1) = false := by simp; omega
    have e1 : decide (8 < h) = false := by simp; omega
    have e2 : decide (l < 0) = true := by simp; omega
    have HZ := hid (And.intro bh bl)
    clear HZ
    go_enter Tryd.func66, Tryd.ntmps66
    go_wp2_with fail
    go_region
    go_wp2_with fail
    go_ret
    exact ⟨ret_bool' HR.out.symm, by repeat' (first | exact Below.refl _ _ | apply Below.alloc | apply Below.drew | (simp; done))⟩
  have hlq := lies_quo h l (by omega) (by omega) (by omega)
  obtain ⟨q, hq⟩ : ∃ q, q = Int.tdiv 62 h := ⟨_, rfl⟩
  rw [← hq] at hlq
  have hq62 : q ≤ 62 := by rw [hq, Int.tdiv_eq_ediv_of_nonneg (by omega)]; exact Int.ediv_le_self _ (by omega)
  have hq7 : 7 ≤ q := by rw [hq, Int.tdiv_eq_ediv_of_nonneg (by omega)]; exact (Int.le_ediv_iff_mul_le (by omega)).2 (by omega)
  have hq' := hq.symm
  clear hq
  have h0 : h ≠ 0 := by omega
  have HLq := hid hlq
  clear hlq
  by_cases t4 : q < l
  · have HR := hid (HNo.out (by unfold Lies; have := HLq.out; omega))
    have e0 : decide (h < 1) = false := by simp; omega
    have e1 : decide (8 < h) = false := by simp; omega
    have e2 : decide (l < 0) = false := by simp; omega
    have e3 : decide (q < l) = true := by simp; omega
    have HZ := hid (And.intro bh bl)
    clear HZ
    go_enter Tryd.func66, Tryd.ntmps66
    go_wp2_with fail
    go_region
    go_wp2_with fail
    go_ret
    exact ⟨ret_bool' HR.out.symm, by repeat' (first | exact Below.refl _ _ | apply Below.alloc | apply Below.drew | (simp; done))⟩
  by_cases t5 : i < 0
  · have HR := hid (HNo.out (by unfold Lies; omega))
    have e0 : decide (h < 1) = false := by simp; omega
    have e1 : decide (8 < h) = false := by simp; omega
    have e2 : decide (l < 0) = false := by simp; omega
    have e3 : decide (q < l) = false := by simp; omega
    have e4 : decide (i < 0) = true := by simp; omega
    have HZ := hid (And.intro bh bl)
    clear HZ
    go_enter Tryd.func66, Tryd.ntmps66
    go_wp2_with fail
    go_region
    go_wp2_with fail
    go_ret
    exact ⟨ret_bool' HR.out.symm, by repeat' (first | exact Below.refl _ _ | apply Below.alloc | apply Below.drew | (simp; done))⟩
  by_cases t6 : c < 1
  · have HR := hid (HNo.out (by unfold Lies; omega))
    have e0 : decide (h < 1) = false := by simp; omega
    have e1 : decide (8 < h) = false := by simp; omega
    have e2 : decide (l < 0) = false := by simp; omega
    have e3 : decide (q < l) = false := by simp; omega
    have e4 : decide (i < 0) = false := by simp; omega
    have e5 : decide (c < 1) = true := by simp; omega
    have HZ := hid (And.intro bh bl)
    clear HZ
    go_enter Tryd.func66, Tryd.ntmps66
    go_wp2_with fail
    go_region
    go_wp2_with fail
    go_ret
    exact ⟨ret_bool' HR.out.symm, by repeat' (first | exact Below.refl _ _ | apply Below.alloc | apply Below.drew | (simp; done))⟩
  have hlh : l * h ≤ 62 := HLq.out.1 (by omega)
  clear HLq
  have hl0 : 0 ≤ l * h := Int.mul_nonneg (by omega) (by omega)
  obtain ⟨m, hm⟩ : ∃ m, m = l * h := ⟨_, rfl⟩
  rw [← hm] at hlh hl0
  have hmm := hm.symm
  obtain ⟨P, hP⟩ : ∃ P, P = 2 ^ h.toNat := ⟨_, rfl⟩
  have hpow : (2 : Int) ^ h.toNat = (P : Int) := by rw [hP]; simp
  have hP2 : P ≤ 256 := by rw [hP]; exact Nat.pow_le_pow_right (by decide) (show h.toNat ≤ 8 by omega)
  have hP0 : 0 < P := by rw [hP]; exact Nat.pow_pos (by decide)
  obtain ⟨r, hr⟩ : ∃ r, r = n / 2 ^ m.toNat := ⟨_, rfl⟩
  have hdiv : (n : Int) / 2 ^ m.toNat = (r : Int) := by rw [hr]; simp
  have hrn : r ≤ n := by rw [hr]; exact Nat.div_le_self _ _
  have HL : Hid (Lies h l i c n ↔ c ≤ (P : Int) ∧ c ≤ (r : Int) ∧ i ≤ ((r : Int) - c) / (P : Int)) := by
    unfold Hid Lies
    rw [hmm, ← hP, ← hr]
    constructor
    · rintro ⟨_, _, _, _, _, _, a, b, c⟩; exact ⟨a, b, c⟩
    · rintro ⟨a, b, c⟩; exact ⟨by omega, by omega, by omega, by omega, by omega, by omega, a, b, c⟩
  clear hP hr hm
  by_cases t7 : (P : Int) < c
  · have HR := hid (HNo.out (by rw [HL.out]; omega))
    clear hdiv
    have e0 : decide (h < 1) = false := by simp; omega
    have e1 : decide (8 < h) = false := by simp; omega
    have e2 : decide (l < 0) = false := by simp; omega
    have e3 : decide (q < l) = false := by simp; omega
    have e4 : decide (i < 0) = false := by simp; omega
    have e5 : decide (c < 1) = false := by simp; omega
    have e6 : decide ((P : Int) < c) = true := by simp; omega
    have HZ := hid (And.intro bh bl)
    clear HZ
    go_enter Tryd.func66, Tryd.ntmps66
    go_wp2_with fail
    go_region
    go_wp2_with fail
    go_ret
    exact ⟨ret_bool' HR.out.symm, by repeat' (first | exact Below.refl _ _ | apply Below.alloc | apply Below.drew | (simp; done))⟩
  by_cases t8 : (r : Int) < c
  · have HR := hid (HNo.out (by rw [HL.out]; omega))
    have e0 : decide (h < 1) = false := by simp; omega
    have e1 : decide (8 < h) = false := by simp; omega
    have e2 : decide (l < 0) = false := by simp; omega
    have e3 : decide (q < l) = false := by simp; omega
    have e4 : decide (i < 0) = false := by simp; omega
    have e5 : decide (c < 1) = false := by simp; omega
    have e6 : decide ((P : Int) < c) = false := by simp; omega
    have e7 : decide (c ≤ (r : Int)) = false := by simp; omega
    have HZ := hid (And.intro bh bl)
    clear HZ
    go_enter Tryd.func66, Tryd.ntmps66
    go_wp2_with fail
    go_region
    go_wp2_with fail
    go_region
    go_wp2_with fail
    go_ret
    exact ⟨ret_bool' HR.out.symm, by repeat' (first | exact Below.refl _ _ | apply Below.alloc | apply Below.drew | (simp; done))⟩
  obtain ⟨z, hz⟩ : ∃ z, z = ((r : Int) - c) / (P : Int) := ⟨_, rfl⟩
  rw [← hz] at HL
  have hz' := hz.symm
  clear hz
  have HR : Hid (d = decide (i ≤ z)) := by
    unfold Hid; rw [HD.out]; apply decide_eq_decide.2; rw [HL.out]; constructor
    · exact fun h => h.2.2
    · exact fun h => ⟨by omega, by omega, h⟩
  clear HD HL
  have e0 : decide (h < 1) = false := by simp; omega
  have e1 : decide (8 < h) = false := by simp; omega
  have e2 : decide (l < 0) = false := by simp; omega
  have e3 : decide (q < l) = false := by simp; omega
  have e4 : decide (i < 0) = false := by simp; omega
  have e5 : decide (c < 1) = false := by simp; omega
  have e6 : decide ((P : Int) < c) = false := by simp; omega
  have e7 : decide (c ≤ (r : Int)) = true := by simp; omega
  have HZ := hid (And.intro bh bl)
  clear HZ
  go_enter Tryd.func66, Tryd.ntmps66
  go_wp2_with fail
  go_region
  go_wp2_with fail
  go_region
  go_wp2_with fail
  go_ret
  exact ⟨ret_bool' HR.out.symm, by repeat' (first | exact Below.refl _ _ | apply Below.alloc | apply Below.drew | (simp; done))⟩
theorem tiles_goes (h l i c : Int) (bh : -9223372036854775808 ≤ h ∧ h ≤ 9223372036854775807) (bl : -9223372036854775808 ≤ l ∧ l ≤ 9223372036854775807) (bi : -9223372036854775808 ≤ i ∧ i ≤ 9223372036854775807) (bc : -9223372036854775808 ≤ c ∧ c ≤ 9223372036854775807) (w : World) :
    Calls Tryd.prog 36 #[.agg #[.int .i64 h, .int .i64 l, .int .i64 i, .int .i64 c]] w fun e w' => e = .returned (.bool (decide (Lies h l i c 4611686018427387904))) ∧ Below w.heap.size w w' := by
  have hl := fun W => tiles_lies h l i c 4611686018427387904 (by omega) bh bl bi bc W
  generalize decide (Lies h l i c 4611686018427387904) = d at *
  have HL := hid hl
  clear hl
  go_enter Tryd.func36, Tryd.ntmps36
  go_wp2_with fail
  refine (HL.out _).mono ?_
  rintro e w1 ⟨rfl, hb⟩
  have HB := hid (Below.then' ((Below.refl _ _).alloc (Nat.le_refl _) _) hb)
  clear hb
  go_wp2_with fail
  go_ret
  exact ⟨rfl, HB.out⟩
end Go.Proofs.YtaaldkkfedinpaaDoor
