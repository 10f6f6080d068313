/- Addresses of nodes: which ones are, and what they span; the program's and the reference's (printed by wip/mkspan.py). -/
import Derived.Test.YtaaldkkfedinpaaDoorTree
import Derived.Test.YtaaldkkfedinpaaDoorShaZ
import Derived.Test.YtaaldkkfedinpaaDoorKit
import Derived.Test.YtaaldkkfedinpaaDoorArgs
set_option maxRecDepth 100000
namespace Go.Proofs.YtaaldkkfedinpaaDoor
open Go Go.RowKit

theorem ref_Node (k : Int) (l r : ByteArray) (hlr : l.size + r.size ≤ 140737488355328 - 300) (w : World) (hg : GlobR w) :
    Calls Tryd.prog 96 #[.int .i64 k, .string l, .string r] w fun e w' => e = .returned (.string (nodeS k l r)) ∧ Below w.heap.size w w' := by
  have hcut := ref_Cut (⟨#[1]⟩ ++ l ++ r) (by rw [ByteArray.size_append, ByteArray.size_append, show (⟨#[1]⟩ : ByteArray).size = 1 from rfl]; omega) k w hg
  have e : ((⟨#[1]⟩ ++ l ++ r : ByteArray)).data.toList = 1 :: (l.data.toList ++ r.data.toList) := by simp
  rw [e] at hcut
  have HC : Hid (Calls Tryd.prog 120 #[.string (⟨#[1]⟩ ++ l ++ r), .int .i64 k] w fun e w' => e = .returned (.string (nodeS k l r)) ∧ Below w.heap.size w w') := hcut
  clear hcut e
  have h1 : l.size ≤ 140737488355328 := by omega
  have h2 : r.size ≤ 140737488355328 := by omega
  clear hg
  go_enter Tryd.func96, Tryd.ntmps96
  go_wp2_with fail
  refine (HC.out).mono ?_
  rintro e w1 ⟨rfl, hb1⟩
  go_wp2_with fail
  go_ret
  exact ⟨rfl, hb1⟩
end Go.Proofs.YtaaldkkfedinpaaDoor
set_option maxRecDepth 100000
namespace Go.Proofs.YtaaldkkfedinpaaDoor
open Go Go.RowKit

/-- Is there such a node? -/
def validN (l i : Int) : Bool := decide (0 ≤ l ∧ l ≤ 62 ∧ 0 ≤ i ∧ i.toNat < 4611686018427387904 / 2 ^ l.toNat)
theorem valid_nat {l i : Nat} (hl : l ≤ 62) : validN l i = decide (i < 4611686018427387904 / 2 ^ l) := by
  unfold validN
  simp only [Int.toNat_natCast]
  congr 1
  apply propext
  constructor
  · rintro ⟨_, _, _, h⟩; exact h
  · intro h; exact ⟨by omega, by omega, by omega, h⟩
theorem valid_not {l i : Int} (h : l < 0 ∨ 62 < l ∨ i < 0) : validN l i = false := by
  unfold validN
  rw [decide_eq_false_iff_not]
  rintro ⟨h1, h2, h3, h4⟩
  omega
/-- What a node spans. -/
def spanN (l i : Int) : Int × Int × Int := if validN l i = true then (i * 2 ^ l.toNat, (i + 1) * 2 ^ l.toNat, 0) else (0, 0, 50)
theorem span_no {l i : Int} (h : validN l i = false) : spanN l i = (0, 0, 50) := by unfold spanN; rw [if_neg (by rw [h]; simp)]
theorem valid_nats {l i : Int} (h : validN l i = true) : ∃ l' i' : Nat, l = l' ∧ i = i' ∧ l' ≤ 62 ∧ (i' + 1) * 2 ^ l' ≤ 4611686018427387904 := by
  unfold validN at h
  simp only [decide_eq_true_eq] at h
  obtain ⟨h1, h2, h3, h4⟩ := h
  refine ⟨l.toNat, i.toNat, by omega, by omega, by omega, ?_⟩
  exact Nat.le_trans (Nat.mul_le_mul_right _ (show i.toNat + 1 ≤ 4611686018427387904 / 2 ^ l.toNat by omega)) (Nat.div_mul_le_self _ _)
theorem span_yes {l i : Nat} (h : validN l i = true) : spanN l i = (((i * 2 ^ l : Nat) : Int), (((i + 1) * 2 ^ l : Nat) : Int), 0) := by
  unfold spanN
  rw [if_pos h, Int.toNat_natCast]
  simp
theorem ret_bool2 {b c : Bool} (h : c = b) : Ending.returned (.bool b) = Ending.returned (.bool c) := by rw [h]
def spanV (r : Int × Int × Int) : Value := .tuple #[.int .i64 r.1, .int .i64 r.2.1, .int .i64 r.2.2]

theorem ref5_Valid (l i : Int) (w : World) : Calls Tryd.prog 137 #[.agg #[.int .i64 l, .int .i64 i]] w fun e w' => e = .returned (.bool (validN l i)) ∧ Below w.heap.size w w' := by
  by_cases t0 : l < 0
  · have HR := hid (valid_not (l := l) (i := i) (.inl t0))
    have e0 : decide (l < 0) = true := by simp <;> omega
    go_enter Tryd.func137, Tryd.ntmps137
    go_wp2_with fail
    go_ret
    exact ⟨ret_bool2 HR.out, by repeat' (first | exact Below.refl _ _ | apply Below.alloc | apply Below.drew | (simp; done))⟩
  by_cases t1 : 62 < l
  · have HR := hid (valid_not (l := l) (i := i) (.inr (.inl t1)))
    have e0 : decide (l < 0) = false := by simp <;> omega
    have e1 : decide (62 < l) = true := by simp <;> omega
    go_enter Tryd.func137, Tryd.ntmps137
    go_wp2_with fail
    go_ret
    exact ⟨ret_bool2 HR.out, by repeat' (first | exact Below.refl _ _ | apply Below.alloc | apply Below.drew | (simp; done))⟩
  by_cases t2 : i < 0
  · have HR := hid (valid_not (l := l) (i := i) (.inr (.inr t2)))
    have e0 : decide (l < 0) = false := by simp <;> omega
    have e1 : decide (62 < l) = false := by simp <;> omega
    have e2 : decide (i < 0) = true := by simp <;> omega
    go_enter Tryd.func137, Tryd.ntmps137
    go_wp2_with fail
    go_ret
    exact ⟨ret_bool2 HR.out, by repeat' (first | exact Below.refl _ _ | apply Below.alloc | apply Below.drew | (simp; done))⟩
  obtain ⟨l, rfl⟩ := Int.eq_ofNat_of_zero_le (show 0 ≤ l by omega)
  obtain ⟨i, rfl⟩ := Int.eq_ofNat_of_zero_le (show 0 ≤ i by omega)
  have hl : l ≤ 62 := by omega
  have hv := valid_nat (i := i) hl
  obtain ⟨r, hr⟩ : ∃ r, r = 4611686018427387904 / 2 ^ l := ⟨_, rfl⟩
  have hdiv : (4611686018427387904 : Int) / 2 ^ l = (r : Int) := by rw [hr]; simp
  rw [← hr] at hv
  have HV := hid hv
  have hrr : r ≤ 4611686018427387904 := by rw [hr]; exact Nat.div_le_self _ _
  have hlI : (l : Int) ≤ 62 := by omega
  clear hr hv t0 t1 t2
  have e0 : decide ((l : Int) < 0) = false := by simp <;> omega
  have e1 : decide ((62 : Int) < (l : Int)) = false := by simp <;> omega
  have e2 : decide ((i : Int) < 0) = false := by simp <;> omega
  go_enter Tryd.func137, Tryd.ntmps137
  go_wp2_with fail
  go_ret
  exact ⟨ret_bool2 (by rw [HV.out] <;> simp), by repeat' (first | exact Below.refl _ _ | apply Below.alloc | apply Below.drew | (simp; done))⟩
theorem ref5_Span (l i : Int) (w : World) : Calls Tryd.prog 119 #[.agg #[.int .i64 l, .int .i64 i]] w fun e w' => e = .returned (spanV (spanN l i)) ∧ Below w.heap.size w w' := by
  have HV := hid (ref5_Valid l i (w.alloc (.cells #[.int .i64 l, .int .i64 i] 84)))
  have B0 := hid ((Below.refl w.heap.size w).alloc (Nat.le_refl _) (.cells #[.int .i64 l, .int .i64 i] 84))
  have q0 : (w.alloc (.cells #[.int .i64 l, .int .i64 i] 84)).cell? ⟨w.heap.size, 0, none⟩ = some (.int .i64 l) := by simp [go_sem]
  have q1 : (w.alloc (.cells #[.int .i64 l, .int .i64 i] 84)).cell? ⟨w.heap.size, 1, none⟩ = some (.int .i64 i) := by simp [go_sem]
  have Q0 := hid q0
  have Q1 := hid q1
  clear q0 q1
  have QL : w.heap.size < (w.alloc (.cells #[.int .i64 l, .int .i64 i] 84)).heap.size := by simp
  have QL2 := hid QL
  clear QL
  by_cases hv : validN l i = true
  · obtain ⟨l, i, rfl, rfl, hl, hm⟩ := valid_nats hv
    have HS := hid (span_yes hv)
    rw [hv] at HV
    have h1 : i * 2 ^ l ≤ (i + 1) * 2 ^ l := Nat.mul_le_mul_right _ (by omega)
    have m1 : (i : Int) * 2 ^ l = ((i * 2 ^ l : Nat) : Int) := by simp
    have m2 : ((i : Int) + 1) * 2 ^ l = (((i + 1) * 2 ^ l : Nat) : Int) := by simp
    have hi : i ≤ 4611686018427387904 := Nat.le_trans (Nat.le_mul_of_pos_right i (Nat.pow_pos (by decide))) (Nat.le_trans h1 hm)
    obtain ⟨a, ha⟩ : ∃ a, a = i * 2 ^ l := ⟨_, rfl⟩
    obtain ⟨b, hb⟩ : ∃ b, b = (i + 1) * 2 ^ l := ⟨_, rfl⟩
    rw [← ha] at h1 m1 HS
    rw [← hb] at h1 m2 HS hm
    have hlI : (l : Int) ≤ 62 := by omega
    clear ha hb hv
    go_enter Tryd.func119, Tryd.ntmps119
    go_wp2_with fail
    refine HV.out.mono ?_
    rintro e w1 ⟨rfl, hb⟩
    have B1 := hid (Below.then' B0.out hb)
    have r0 := (hb.cell QL2.out).trans Q0.out
    have r1 := (hb.cell QL2.out).trans Q1.out
    clear hb
    go_wp2_with fail
    go_region
    go_wp2_with fail
    go_ret3
    exact ⟨by rw [HS.out]; rfl, by repeat' (first | exact B1.out | apply Below.alloc | apply Below.drew | (simp; done))⟩
  · have hv' : validN l i = false := by simpa using hv
    have HS := hid (span_no hv')
    rw [hv'] at HV
    clear hv hv'
    go_enter Tryd.func119, Tryd.ntmps119
    go_wp2_with fail
    refine HV.out.mono ?_
    rintro e w1 ⟨rfl, hb⟩
    have B1 := hid (Below.then' B0.out hb)
    clear hb
    go_wp2_with fail
    go_ret3
    exact ⟨by rw [HS.out]; rfl, B1.out⟩
end Go.Proofs.YtaaldkkfedinpaaDoor
