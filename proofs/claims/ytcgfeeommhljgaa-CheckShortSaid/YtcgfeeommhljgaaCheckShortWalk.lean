/- The walk of annalslaw9.CheckShort. -/
import Derived.Test.YtcgfeeommhljgaaLaw9
import Derived.Test.YtcgfeeommhljgaaShortLaw
import Derived.Deep.DeepCutAuto
import Derived.Deep.CutBlock
set_option maxRecDepth 100000
namespace Go.Proofs.Ytcgfeeommhljgaa
open Go Go.RowKit

theorem count2_le (a n : Int) (xs : List Int) (h : (countN 2 a 0 n xs).2 = 0) : 0 ≤ (countN 2 a 0 n xs).1 ∧ (countN 2 a 0 n xs).1 ≤ ceilN n.toNat + 1 := by
  unfold countN at h ⊢
  rw [if_neg (by decide)] at h ⊢
  split at h
  · simp at h
  · rename_i hn
    rw [if_neg hn, if_neg (by decide), if_pos rfl]
    rw [if_neg (by decide), if_pos rfl] at h
    split at h
    · simp at h
    · rename_i ha
      rw [if_neg ha]
      split
      · simp; omega
      · have := oldN_le a.toNat n.toNat true (by omega) (by omega)
        simp; omega
theorem count3_le (a b n : Int) (xs : List Int) (h : (countN 3 a b n xs).2 = 0) : 0 ≤ (countN 3 a b n xs).1 ∧ (countN 3 a b n xs).1 ≤ 2 * ceilN n.toNat := by
  unfold countN at h ⊢
  rw [if_neg (by decide)] at h ⊢
  split at h
  · simp at h
  · rename_i hn
    rw [if_neg hn, if_neg (by decide), if_neg (by decide), if_pos rfl]
    rw [if_neg (by decide), if_neg (by decide), if_pos rfl] at h
    split at h
    · simp at h
    · rename_i ha
      rw [if_neg ha]
      have := range_within a.toNat b.toNat (by omega) n.toNat 0 n.toNat (by omega) (by omega) (by omega)
      simp at this ⊢; omega
theorem count4_le (a b n : Int) (xs : List Int) (h : (countN 4 a b n xs).2 = 0) : 0 ≤ (countN 4 a b n xs).1 ∧ (countN 4 a b n xs).1 ≤ xs.length * ceilN n.toNat := by
  unfold countN at h ⊢
  rw [if_neg (by decide)] at h ⊢
  split at h
  · simp at h
  · rename_i hn
    rw [if_neg hn, if_neg (by decide), if_neg (by decide), if_neg (by decide)]
    rw [if_neg (by decide), if_neg (by decide), if_neg (by decide)] at h
    split at h
    · rename_i hz
      rw [if_pos hz]
      have := multi_le xs n hz
      have h2 : ((xs.length * ceilN n.toNat : Nat) : Int) = xs.length * ceilN n.toNat := by simp
      constructor
      · simp
      · show ((outN (hasA xs) 0 n.toNat : Nat) : Int) ≤ _
        omega
    · exact absurd h ‹_›
theorem count1_no (a n : Int) (xs : List Int) (h : (countN 1 a 0 n xs).2 ≠ 0) : a < 0 ∨ n ≤ a ∨ 4611686018427387904 < n := by
  unfold countN at h
  rw [if_neg (by decide)] at h
  split at h
  · rename_i hn; omega
  · rw [if_pos rfl] at h
    split at h
    · rename_i ha; omega
    · simp at h
theorem count1_yes (a n : Int) (xs : List Int) (h : (countN 1 a 0 n xs).2 = 0) : 0 ≤ a ∧ a < n ∧ n ≤ 4611686018427387904 ∧ countN 1 a 0 n xs = (((stepsN a.toNat n.toNat : Nat) : Int), 0) := by
  unfold countN at h ⊢
  rw [if_neg (by decide)] at h ⊢
  split at h
  · simp at h
  · rename_i hn
    rw [if_neg hn, if_pos rfl]
    rw [if_pos rfl] at h
    split at h
    · simp at h
    · rename_i ha
      rw [if_neg ha]
      exact ⟨by omega, by omega, by omega, rfl⟩

/-- Some count that is no greater than B, or a refusal. -/
def Fits (r : Int × Int) (B : Int) : Prop := r.2 = 0 → 0 ≤ r.1 ∧ r.1 ≤ B

theorem law_CheckShort (a b n : Int) (ao : Option Addr) (xs : List Int) (cap : Nat) (w : World) (hx : RowAt w ao (ints xs)) (hl : xs.length * 8 ≤ 140737488351232) (hn2 : n ≤ 9223372036854775807) :
    Calls Try.prog 5 #[.int .i64 a, .int .i64 b, .int .i64 n, .slice ao xs.length cap] w fun e w' => e = .returned (.bool true) ∧ Below w.heap.size w w' := by
  have hbeg := hid (law_begun w)
  have hceil := hid (fun W => nums_Ceil n hn2 W)
  obtain ⟨t, ht⟩ : ∃ t, t = ceilN n.toNat := ⟨_, rfl⟩
  have ht63 : (t : Int) ≤ 63 := by have := ceil_le n.toNat 63 (by omega); omega
  have c2 := hid (fun W => check_Count 2 a 0 n none [] 0 W (RowAt.nil _ _) (by simp))
  have c3 := hid (fun W => check_Count 3 a b n none [] 0 W (RowAt.nil _ _) (by simp))
  have c4 := hid (fun W (hb : Below w.heap.size w W) => check_Count 4 0 0 n ao xs cap W (hx.below hb) (by omega))
  have c1 := hid (fun W => check_Count 1 a 0 n none [] 0 W (RowAt.nil _ _) (by simp))
  have f2 := count2_le a n []
  have f3 := count3_le a b n []
  have f4 := count4_le 0 0 n xs
  rw [← ht] at f2 f3 f4
  have HCEIL := hid (ht ▸ hceil.out : ∀ W, Calls Try.prog 11 #[.int .i64 n] W fun e w' => e = .returned (.int .i64 t) ∧ W = w')
  have d1 := count1_no a n []
  have d2 := count1_yes a n []
  obtain ⟨r1, hr1⟩ : ∃ r, r = countN 1 a 0 n [] := ⟨_, rfl⟩
  rw [← hr1] at c1 d1 d2
  clear hr1
  obtain ⟨p1, q1⟩ := r1
  have D1 := hid d1
  have D2 := hid d2
  clear d1 d2
  clear hx hceil ht
  obtain ⟨r2, hr2⟩ : ∃ r, r = countN 2 a 0 n [] := ⟨_, rfl⟩
  obtain ⟨r3, hr3⟩ : ∃ r, r = countN 3 a b n [] := ⟨_, rfl⟩
  obtain ⟨r4, hr4⟩ : ∃ r, r = countN 4 0 0 n xs := ⟨_, rfl⟩
  rw [← hr2] at f2 c2
  rw [← hr3] at f3 c3
  rw [← hr4] at f4 c4
  clear hr2 hr3 hr4
  obtain ⟨p2, q2⟩ := r2
  obtain ⟨p3, q3⟩ := r3
  obtain ⟨p4, q4⟩ := r4
  have hbig : (xs.length : Int) * t ≤ 9223372036854775807 := by
    have : (xs.length : Int) * t ≤ 17592186043904 * 63 := Int.mul_le_mul (by omega) ht63 (by omega) (by omega)
    omega
  have hbig0 : 0 ≤ (xs.length : Int) * t := Int.mul_nonneg (by omega) (by omega)
  have F2 := hid f2
  have F3 := hid f3
  have F4 := hid f4
  clear f2 f3 f4
  go_enter Try.func5, Try.ntmps5
  go_wp2_with fail
  refine (hbeg.out).mono ?_
  rintro e w1 ⟨rfl, hb1⟩
  have B1 := hid hb1; clear hb1
  go_wp2_with fail
  refine (HCEIL.out _).mono ?_
  rintro e w1' ⟨rfl, rfl⟩
  go_wp2_with fail
  refine (c2.out _).mono ?_
  rintro e w2 ⟨rfl, hb2⟩
  have B2 := hid (Below.then' B1.out hb2); clear hb2
  unfold countV
  go_upto_region 6 with (fail)
  go_cut [40] (fun v wc => v = .bool false ∧ w2 = wc)
  case first =>
    by_cases h : q2 = 0
    · obtain ⟨f, f'⟩ := F2.out h
      subst h
      go_wp2_with fail
      go_meet
      case rel => exact ⟨bool_eq (by simp; omega), rfl⟩
    · have h' : (q2 == 0) = false := beq_eq_false_iff_ne.2 h
      go_wp2_with fail
      go_meet
      case rel => exact ⟨rfl, rfl⟩
  case rest =>
    obtain ⟨rfl, rfl⟩ := hcut
    go_wp2_with fail
    refine (c3.out _).mono ?_
    rintro e w3 ⟨rfl, hb3⟩
    have B3 := hid (Below.then' B2.out hb3); clear hb3
    unfold countV
    go_upto_region 9 with (fail)
    go_cut [59] (fun v wc => v = .bool false ∧ w3 = wc)
    case first =>
      by_cases h : q3 = 0
      · obtain ⟨f, f'⟩ := F3.out h
        subst h
        go_wp2_with fail
        go_meet
        case rel => exact ⟨bool_eq (by simp; omega), rfl⟩
      · have h' : (q3 == 0) = false := beq_eq_false_iff_ne.2 h
        go_wp2_with fail
        go_meet
        case rel => exact ⟨rfl, rfl⟩
    case rest =>
      obtain ⟨rfl, rfl⟩ := hcut
      go_wp2_with fail
      refine (c4.out _ B3.out).mono ?_
      rintro e w4 ⟨rfl, hb4⟩
      have B4 := hid (Below.then' B3.out hb4); clear hb4
      unfold countV
      go_upto_region 12 with (fail)
      go_cut [79] (fun v wc => v = .bool false ∧ w4 = wc)
      case first =>
        by_cases h : q4 = 0
        · obtain ⟨f, f'⟩ := F4.out h
          subst h
          go_wp2_with fail
          go_meet
          case rel => exact ⟨bool_eq (by simp; omega), rfl⟩
        · have h' : (q4 == 0) = false := beq_eq_false_iff_ne.2 h
          go_wp2_with fail
          go_meet
          case rel => exact ⟨rfl, rfl⟩
      case rest =>
        obtain ⟨rfl, rfl⟩ := hcut
        go_wp2_with fail
        refine (c1.out _).mono ?_
        rintro e w5 ⟨rfl, hb5⟩
        have B5 := hid (Below.then' B4.out hb5); clear hb5
        unfold countV
        by_cases h1 : q1 = 0
        · obtain ⟨a0, an, nm, he⟩ := D2.out h1
          obtain ⟨rfl, rfl⟩ := Prod.mk.inj he
          clear he h1
          have ct := hid (fun W => count_three a (a + 1) n (.slice none 0 0) (by omega) nm W)
          have cf := hid (fun W b (hc : W.cell? ⟨b, 0, none⟩ = some (.int .i64 a)) => count_four 0 0 n (some ⟨b, 0, none⟩) [a] 1 (by omega) nm W (.inr ⟨b, 0, rfl, fun i hi => by
            have : i = 0 := by simp [ints] at hi; exact hi
            subst this; simpa [ints] using hc⟩) (by simp))
          have e1 := range_one a.toNat n.toNat (by omega)
          have e2 := multi_one a.toNat n.toNat (by omega)
          have e3 := rising_one a.toNat n.toNat (by omega)
          rw [show ((a.toNat : Nat) : Int) = a by omega] at e2 e3
          rw [show ((n.toNat : Nat) : Int) = n by omega] at e3
          have e4 : (a + 1).toNat = a.toNat + 1 := by omega
          have CT : Hid (∀ W, Calls Try.prog 7 #[.int .i64 3, .int .i64 a, .int .i64 (a + 1), .int .i64 n, .slice none 0 0] W (Counted (((stepsN a.toNat n.toNat : Nat) : Int), 0) W)) := by
            have h := ct.out
            rw [if_neg (by omega), e4, e1] at h
            exact h
          have CF : Hid (∀ W b, W.cell? ⟨b, 0, none⟩ = some (.int .i64 a) → Calls Try.prog 7 #[.int .i64 4, .int .i64 0, .int .i64 0, .int .i64 n, .slice (some ⟨b, 0, none⟩) 1 1] W (Counted (((stepsN a.toNat n.toNat : Nat) : Int), 0) W)) := by
            have h := cf.out
            rw [if_pos e3, e2] at h
            exact h
          clear ct cf e1 e2 e3 e4 hbeg HCEIL c1 c2 c3 c4 F2 F3 F4 D1 D2
          go_wp2_with fail
          refine (CT.out _).mono ?_
          rintro e w6 ⟨rfl, hb6⟩
          have B6 := hid (Below.then' B5.out hb6); clear hb6
          unfold countV
          go_wp2_with fail
          refine (CF.out _ _ (by simp [go_sem])).mono ?_
          rintro e w7 ⟨rfl, hb7⟩
          have B7 := hid (Below.then' (B6.out.alloc B6.out.size _) hb7); clear hb7
          unfold countV
          go_wp2_with fail
          go_ret
          exact ⟨rfl, B7.out⟩
        · have h1' : (q1 != 0) = true := by rw [bne_iff_ne]; exact h1
          have hno := D1.out h1
          clear h1 D1 D2
          by_cases k1 : a < 0
          · go_wp2_with fail
            go_ret
            exact ⟨rfl, B5.out⟩
          by_cases k2 : n ≤ a
          · go_wp2_with fail
            go_ret
            exact ⟨rfl, B5.out⟩
          have k3 : 4611686018427387904 < n := by omega
          go_wp2_with fail
          go_ret
          exact ⟨rfl, B5.out⟩
end Go.Proofs.Ytcgfeeommhljgaa
