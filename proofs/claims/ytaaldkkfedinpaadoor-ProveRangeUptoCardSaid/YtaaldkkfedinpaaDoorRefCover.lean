/- The reference's Cover. -/
import Derived.Test.YtaaldkkfedinpaaDoorCover2
set_option maxRecDepth 100000
namespace Go.Proofs.YtaaldkkfedinpaaDoor
open Go Go.RowKit

theorem lev_more (p hi k : Nat) (hp : p < hi) (hk : k < levN p hi) : k < 62 ∧ p % 2 ^ (k + 1) = 0 ∧ 2 ^ (k + 1) ≤ hi - p := by
  have h1 : k + 1 ≤ zerosN p := by unfold levN at hk; omega
  have h2 : k + 1 ≤ bits (hi - p) - 1 := by unfold levN at hk; omega
  have h3 : k < 62 := by unfold levN at hk; omega
  exact ⟨h3, zeros_dvd p _ h1, Nat.le_trans (Nat.pow_le_pow_right (by decide) h2) (bits_ge (hi - p) (by omega))⟩
theorem lev_end (p hi : Nat) (hp : p < hi) : ¬ (levN p hi < 62 ∧ p % 2 ^ (levN p hi + 1) = 0 ∧ 2 ^ (levN p hi + 1) ≤ hi - p) := by
  rintro ⟨h1, h2, h3⟩
  have h4 := lt_bits (hi - p)
  have h5 : levN p hi + 1 < bits (hi - p) := (Nat.pow_lt_pow_iff_right (by decide : 1 < 2)).1 (by omega)
  have h6 : levN p hi = zerosN p := by unfold levN at h1 h5 ⊢; omega
  have h7 : p ≠ 0 := by
    intro e; subst e; unfold zerosN at h6; rw [if_pos rfl] at h6; omega
  have h8 := tz_ge (levN p hi + 1) p h7 h2
  unfold zerosN at h6
  rw [if_neg h7] at h6
  omega
theorem ref5_greatest (p hi : Nat) (hp : p < hi) (hh : hi ≤ 4611686018427387904) (w : World) :
    Calls Tryd.prog 93 #[.int .i64 p, .int .i64 hi] w fun e w' => e = .returned (.int .i64 (levN p hi)) ∧ w = w' := by
  have hmore := hid (fun k hk => lev_more p hi k hp hk)
  have hend := lev_end p hi hp
  have hle := lev_le p hi
  obtain ⟨v, hv⟩ : ∃ v, v = levN p hi := ⟨_, rfl⟩
  rw [← hv] at hmore hend hle ⊢
  have HEnd := hid hend
  clear hend hv
  go_enter Tryd.func93, Tryd.ntmps93
  go_wp2_with fail
  go_loop [5] (fun k' => ∃ k : Nat, k' = .int .i64 k ∧ k ≤ v) (fun k' => v - (intOf k').toNat)
  case atStart => exact ⟨0, rfl, by omega⟩
  case round =>
    obtain ⟨k, rfl, hk⟩ := hrel
    have hu : IntKind.u64.wrap (k : Int) = (k : Int) := by rw [IntKind.wrap_u64]; omega
    by_cases hlt : k < 62
    · obtain ⟨P, hP⟩ : ∃ P, P = 2 ^ (k + 1) := ⟨_, rfl⟩
      have hpw : (2 : Int) * 2 ^ k = (P : Int) := by rw [hP, Nat.pow_succ]; simp; omega
      have hP62 : P ≤ 4611686018427387904 := by
        rw [hP]; exact Nat.le_trans (Nat.pow_le_pow_right (show 0 < 2 by decide) (show k + 1 ≤ 62 by omega)) (by decide)
      have hP0 : ¬ (P : Int) = 0 := by
        have : 0 < P := by rw [hP]; exact Nat.pow_pos (by decide)
        omega
      have hwr : IntKind.i64.wrap (P : Int) = (P : Int) := by rw [IntKind.wrap_i64]; omega
      obtain ⟨r, hr⟩ : ∃ r, r = p % P := ⟨_, rfl⟩
      have hrem : Int.tmod (p : Int) (P : Int) = (r : Int) := by rw [hr, Int.tmod_eq_emod_of_nonneg (by omega)]; simp
      have HM := hid (hmore.out k)
      have HE := HEnd.out
      by_cases hkv : k < v
      · obtain ⟨_, m2, m3⟩ := HM.out hkv
        rw [← hP] at m2 m3
        have hr0 : ((r : Int) == 0) = true := by rw [hr, m2]; rfl
        have hle2 : (P : Int) ≤ (hi : Int) - (p : Int) := by omega
        clear hP hr m2 HE
        go_wp2_with fail
        go_round
        case rel => exact ⟨k + 1, by go_num, by omega⟩
        case measure => simp [intOf]; omega
      · have hkv2 : k = v := by omega
        subst hkv2
        rw [← hP, ← hr] at HE
        by_cases hr1 : r = 0
        · have hr0 : ((r : Int) == 0) = true := by rw [hr1]; rfl
          have hle2 : ¬ (P : Int) ≤ (hi : Int) - (p : Int) := by omega
          clear hP hr HE hr1
          go_wp2_with fail
          go_ret
          exact ⟨rfl, rfl⟩
        · have hr0 : ((r : Int) == 0) = false := beq_eq_false_iff_ne.2 (by omega)
          clear hP hr HE
          go_wp2_with fail
          go_ret
          exact ⟨rfl, rfl⟩
    · have hkv2 : k = v := by omega
      subst hkv2
      go_wp2_with fail
      go_ret
      exact ⟨rfl, rfl⟩
set_option maxHeartbeats 1000000 in
theorem ref5_Cover_good (lo hi : Nat) (hl : lo ≤ hi) (hh : hi ≤ 4611686018427387904) (w : World) :
    Calls Tryd.prog 73 #[.int .i64 lo, .int .i64 hi] w fun e W' => ∃ v, e = .returned (.tuple #[v, .int .i64 0]) ∧ W'.ownsRow w.heap.size 84 2 v (coverN lo hi).length (addrsV (coverN lo hi)) ∧ Below w.heap.size w W' := by
  have hcl := cover_len lo hi hh
  have e1 : decide ((lo : Int) < 0) = false := by simp
  have e2 : decide ((4611686018427387904 : Int) < (hi : Int)) = false := by simp; omega
  have e3 : decide (hi < lo) = false := by simp; omega
  go_enter Tryd.func73, Tryd.ntmps73
  go_wp2_with fail
  go_loopw [6, 7, 8] (fun v' p' _ wr => ∃ (p : Nat) (pre : List (Nat × Nat)), p' = .int .i64 p ∧ p ≤ hi ∧ coverN lo hi = pre ++ coverN p hi ∧ wr.ownsRow w.heap.size 84 2 v' pre.length (addrsV pre) ∧ Below w.heap.size w wr) (fun _ p' _ _ => hi - (intOf p').toNat)
  case atStart => exact ⟨lo, [], rfl, hl, rfl, World.ownsRow_nil _ _ _ _, Below.refl _ _⟩
  case round =>
    obtain ⟨p, pre, rfl, hp, hc, hown, hbw⟩ := hrel
    have HC := hid hc
    have HO := hid hown
    have HB := hid hbw
    by_cases hlt : p < hi
    · have hcv := cover_some p hi hlt
      have hfit := lev_fits p hi hlt
      have hlev := lev_le p hi
      have hg := ref5_greatest p hi hlt hh
      obtain ⟨v, hv⟩ : ∃ v, v = levN p hi := ⟨_, rfl⟩
      rw [← hv] at hcv hfit hlev hg
      obtain ⟨P, hP⟩ : ∃ P, P = 2 ^ v := ⟨_, rfl⟩
      have hpw : (2 : Int) ^ v = (P : Int) := by rw [hP]; simp
      rw [← hP] at hfit hcv
      have hP0 : 0 < P := by rw [hP]; exact Nat.pow_pos (by decide)
      obtain ⟨Q, hQ⟩ : ∃ Q, Q = p / P := ⟨_, rfl⟩
      have hdv : (p : Int) / (P : Int) = (Q : Int) := by rw [hQ]; simp
      rw [← hQ] at hcv
      have hpl : pre.length ≤ 126 := by
        have := congrArg List.length hc; rw [List.length_append] at this; omega
      have hu : IntKind.u64.wrap (v : Int) = (v : Int) := by rw [IntKind.wrap_u64]; omega
      have HG := hid hg
      have HCV := hid hcv
      clear hv hP hQ hcv hg hc hown hbw
      go_wp2_with fail
      refine (HG.out _).mono ?_
      rintro e w' ⟨rfl, rfl⟩
      go_wp2_with (at_builtin; refine wp_appendS w.heap.size rfl (.tmp 27) (.tmp 34) 37 84 (.agg #[.int .i64 0, .int .i64 0]) 2 16 rfl Tryd.underlying37 infoAddr rfl (by omega) (by omega) _ pre.length (addrsV pre) [.int .i64 v, .int .i64 Q] rfl _ rfl rfl rfl (by simp [Value.oneCell']) HO.out HB.out.size (by omega) ?_; intro g cap w4 hown4 hb4; have HO4 := hid hown4; have HB4 := hid (HB.out.trans hb4); clear hown4 hb4)
      go_roundw
      case rel => exact ⟨p + P, pre ++ [(v, Q)], by go_num, hfit, by rw [HC.out, HCV.out]; simp, by rw [addrsV_snoc, List.length_append]; exact HO4.out, HB4.out⟩
      case measure => simp [intOf]; omega
    · have hp' : p = hi := by omega
      subst hp'
      rw [cover_none p p (by omega), List.append_nil] at hc
      have HC2 := hid hc
      clear hc hown hbw HC
      go_wp2_with fail
      go_ret2
      exact ⟨_, rfl, by rw [HC2.out]; exact HO.out, HB.out⟩
theorem ref5_Cover_bad (lo hi : Int) (h : lo < 0 ∨ hi < lo ∨ 4611686018427387904 < hi) (w : World) :
    Calls Tryd.prog 73 #[.int .i64 lo, .int .i64 hi] w fun e w' => e = .returned (.tuple #[.slice none 0 0, .int .i64 10]) ∧ w = w' := by
  by_cases h1 : lo < 0
  · clear h
    go_enter Tryd.func73, Tryd.ntmps73
    go_wp2_with fail
    go_ret2
    exact ⟨rfl, rfl⟩
  · by_cases h2 : hi < lo
    · clear h
      go_enter Tryd.func73, Tryd.ntmps73
      go_wp2_with fail
      go_ret2
      exact ⟨rfl, rfl⟩
    · have h3 : 4611686018427387904 < hi := by omega
      clear h
      go_enter Tryd.func73, Tryd.ntmps73
      go_wp2_with fail
      go_ret2
      exact ⟨rfl, rfl⟩
end Go.Proofs.YtaaldkkfedinpaaDoor
