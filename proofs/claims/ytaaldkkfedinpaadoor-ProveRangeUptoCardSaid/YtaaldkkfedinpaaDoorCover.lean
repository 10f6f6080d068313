/- The whole subtrees of a range: tree.pieces, tree.Cover. -/
import Derived.Test.YtaaldkkfedinpaaDoorNums
import Derived.RangeFuncNested
import Derived.RangeFuncBound
import Derived.RangeFuncCalls
import Derived.RangeFuncLeaves
import Derived.RangeFuncBox
import Derived.Shelf.Abstract
import Derived.Shelf.RegionOpen
import Derived.WalkKit
import Derived.OwnWalkIn
import Derived.TacticsInMore
import Derived.LoopNIn
import Derived.LoopIn
import Derived.Stop.RegionWithIn
import Derived.Maps.AppendAt
import Derived.Laws.Cover1
set_option maxRecDepth 100000
namespace Go.Proofs.YtaaldkkfedinpaaDoor
open Go Go.RowKit
attribute [local go_sem] Oper.semAt_some

/-- The level of the subtree that begins at p. -/
def levN (p hi : Nat) : Nat := min (min (zerosN p) (bits (hi - p) - 1)) 62
theorem lev_le (p hi : Nat) : levN p hi ≤ 62 := Nat.min_le_right _ _
theorem lev_fits (p hi : Nat) (h : p < hi) : p + 2 ^ levN p hi ≤ hi := by
  have h1 := bits_ge (hi - p) (by omega)
  have h2 : 2 ^ levN p hi ≤ 2 ^ (bits (hi - p) - 1) := Nat.pow_le_pow_right (by decide) (Nat.le_trans (Nat.min_le_left _ _) (Nat.min_le_right _ _))
  omega
def coverN (p hi : Nat) : List (Nat × Nat) := if h : p < hi then (levN p hi, p / 2 ^ levN p hi) :: coverN (p + 2 ^ levN p hi) hi else []
termination_by hi - p
decreasing_by
  have := Nat.pow_pos (n := levN p hi) (show 0 < 2 by decide)
  omega
theorem cover_some (p hi : Nat) (h : p < hi) : coverN p hi = (levN p hi, p / 2 ^ levN p hi) :: coverN (p + 2 ^ levN p hi) hi := by rw [coverN, dif_pos h]
theorem cover_none (p hi : Nat) (h : ¬ p < hi) : coverN p hi = [] := by rw [coverN, dif_neg h]
def addrV (a : Nat × Nat) : List Value := [.int .i64 a.1, .int .i64 a.2]

set_option maxHeartbeats 2000000 in
/-- The iterator's closure. -/
theorem pieces1_in (n : Nat) (hn : 1 ≤ n) (l B1 B2 : Nat) (lo hi : Nat) (hh : hi ≤ 4611686018427387904) (hl : lo ≤ hi) (J Jx : List (Nat × Nat) → World → Prop)
    (hY : ∀ pre x W, J pre W → pre.length < (coverN lo hi).length → YieldAt Fence.wide (n - 1) Tryd.prog l #[.agg (addrV x).toArray] W fun e W' =>
      (e = .returned (.bool true) ∧ J (pre ++ [x]) W' ∧ (∀ v, W.cell? ⟨B2, 0, none⟩ = some v → W'.cell? ⟨B2, 0, none⟩ = some v)) ∨ (e = .returned (.bool false) ∧ Jx (pre ++ [x]) W'))
    (hD : ∀ pre W, J pre W → J pre W.drew)
    (W : World) (hB1 : W.cell? ⟨B1, 0, none⟩ = some (.int .i64 lo)) (hB2 : W.cell? ⟨B2, 0, none⟩ = some (.int .i64 hi)) (h0 : J [] W) :
    CallsIn Fence.wide n Tryd.prog 115 #[.func (.yield l) #[] #[], .pointer (some ⟨B1, 0, none⟩), .pointer (some ⟨B2, 0, none⟩)] W fun e W' => (∃ v, e = .returned v) ∧
      ((∃ ys, ys = coverN lo hi ∧ J ys W') ∨ (∃ pre, pre <+: coverN lo hi ∧ Jx pre W')) := by
  refine callsIn_of_wp Tryd.func115 rfl trivial ?_ rfl
  simp only [Tryd.ntmps115, List.size_toArray, List.length_cons, List.length_nil, Nat.reduceAdd, Nat.reduceSub, Array.replicate_succ, Array.replicate_zero, List.push_toArray, List.append_toArray, List.nil_append, List.cons_append]
  gi_wp2
  gi_loopw [4, 5] (fun p' _ wr => ∃ (p : Nat) (pre : List (Nat × Nat)), p' = .int .i64 p ∧ p ≤ hi ∧ coverN lo hi = pre ++ coverN p hi ∧ wr.cell? ⟨B2, 0, none⟩ = some (.int .i64 hi) ∧ J pre wr)
    (fun p' _ _ => hi - (intOf p').toNat)
  case atStart => exact ⟨lo, [], rfl, hl, rfl, hB2, h0⟩
  case round =>
    obtain ⟨p, pre, rfl, hp, hc, hcell, hJ⟩ := hrel
    by_cases hlt : p < hi
    · have hcv := cover_some p hi hlt
      have hfit := lev_fits p hi hlt
      have hlev := lev_le p hi
      have HLev : Hid (levN p hi = min (min (zerosN p) (bits (hi - p) - 1)) 62) := rfl
      have hNZ := nums_Zeros p (by omega)
      have hNB := nums_Bits ((hi : Int) - (p : Int)) (by omega) (by omega)
      rw [show ((hi : Int) - (p : Int)).toNat = hi - p by omega] at hNB
      have hbp := bits_pos (hi - p) (by omega)
      have hb64 := bits_le (hi - p) 63 (by omega)
      have hz63 : zerosN p ≤ 63 := by
        unfold zerosN; split
        · omega
        · have := tz_lt p (by omega) 63 (by omega); omega
      obtain ⟨z, hz⟩ : ∃ z, z = zerosN p := ⟨_, rfl⟩
      obtain ⟨b, hb⟩ : ∃ b, b = bits (hi - p) := ⟨_, rfl⟩
      rw [← hz] at hNZ HLev hz63
      rw [← hb] at hNB HLev hbp hb64
      obtain ⟨v, hv⟩ : ∃ v, v = levN p hi := ⟨_, rfl⟩
      rw [← hv] at hcv hfit hlev HLev
      have hw1 : IntKind.i64.wrap ((hi : Int) - (p : Int)) = (hi : Int) - (p : Int) := by rw [IntKind.wrap_i64]; omega
      have hw2 : IntKind.i64.wrap ((b : Int) - 1) = (b : Int) - 1 := by rw [IntKind.wrap_i64]; omega
      have hmin : ∀ W : World, (Builtin.min_ #[3, 3, 3] 3 #[.int .i64 (z : Int), .int .i64 ((b : Int) - 1), .int .i64 62]).run Tryd.prog W = .ok (.int .i64 (v : Int)) W := by
        intro W
        rw [run_min_int3]
        have := HLev.out
        congr 2
        split <;> split <;> omega
      obtain ⟨P, hP⟩ : ∃ P, P = 2 ^ v := ⟨_, rfl⟩
      have hpw : (2 : Int) ^ v = (P : Int) := by rw [hP]; simp
      rw [← hP] at hfit hcv
      obtain ⟨Q, hQ⟩ : ∃ Q, Q = p / P := ⟨_, rfl⟩
      have hdv : (p : Int) / (P : Int) = (Q : Int) := by rw [hQ]; simp
      rw [← hQ] at hcv
      have hP0 : 0 < P := by rw [hP]; exact Nat.pow_pos (by decide)
      have HNZ := hid hNZ
      have HNB := hid hNB
      have hlt2 : pre.length < (coverN lo hi).length := by rw [hc, List.length_append, hcv]; simp
      obtain ⟨fn, tmps, assign, body, hy, hR⟩ := hY pre (v, Q) wr.drew (hD _ _ hJ) hlt2
      dsimp only [addrV] at hy
      have HR := hid hR
      have HCV := hid hcv
      have HC := hid hc
      clear hz hb hv hP hQ hNZ hNB hlt2 hR hcv hc hY hJ h0 hD
      gi_wp2
      gi_region_with (first
        | (refine ⟨trivial, ?_⟩; gi_at_call 116; refine (callsIn_wide.2 (HNZ.out _)).mono ?_; rintro e w2 ⟨rfl, rfl⟩)
        | (refine ⟨trivial, ?_⟩; gi_at_call 97; (with_reducible refine (callsIn_wide.2 (HNB.out _)).mono ?_); rintro e w2 ⟨rfl, rfl⟩))
      all_goals gi_wp2
      all_goals refine (HR.out).mono ?_
      all_goals rintro e W3 (⟨rfl, hJ3, hk3⟩ | ⟨rfl, hJx3⟩)
      all_goals first
        | (have hcell3 := hk3 _ hcell
           gi_wp2
           go_roundw
           case rel => exact ⟨p + P, pre ++ [(v, Q)], by go_num, hfit, by rw [HC.out, HCV.out]; simp, hcell3, hJ3⟩
           case measure => simp [intOf]; omega)
        | (gi_wp2
           refine bodyPost_ret (results_none rfl _ _ _) rfl ?_
           exact ⟨⟨_, rfl⟩, .inr ⟨pre ++ [(v, Q)], ⟨coverN (p + P) hi, by rw [HC.out, HCV.out]; simp⟩, hJx3⟩⟩)
    · have hp' : p = hi := by omega
      subst hp'
      rw [cover_none p p (by omega), List.append_nil] at hc
      have HC := hid hc
      clear hc hY
      gi_wp2
      go_end0
      exact ⟨⟨_, rfl⟩, .inl ⟨pre, HC.out.symm, hJ⟩⟩
end Go.Proofs.YtaaldkkfedinpaaDoor
