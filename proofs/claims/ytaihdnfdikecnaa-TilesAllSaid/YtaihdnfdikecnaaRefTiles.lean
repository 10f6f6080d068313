/- Walks of the reference's count and All. -/
import Derived.Test.YtaihdnfdikecnaaTilesAll
set_option maxRecDepth 100000
namespace Go.Proofs.Ytaihdnfdikecnaa
open Go Go.RowKit

def cntL (h s : Nat) : Nat → Nat → Nat → Nat
  | 0, _, c => min c 65537
  | k + 1, l, c =>
    if l * h ≤ 62 ∧ 0 < s / 2 ^ (l * h) then
      if 65536 < s / 2 ^ (l * h) / 2 ^ h then 65537 else cntL h s k (l + 1) (c + s / 2 ^ (l * h) / 2 ^ h + restN h (s / 2 ^ (l * h)))
    else min c 65537
def refL (h s : Nat) : Nat → Nat → List Value → List Value
  | 0, _, xs => xs
  | k + 1, l, xs => if l * h ≤ 62 ∧ 0 < s / 2 ^ (l * h) then refL h s k (l + 1) (xs ++ rowC h l (s / 2 ^ (l * h))) else xs
theorem cnt_stop (h s k l c : Nat) (hg : ¬ (l * h ≤ 62 ∧ 0 < s / 2 ^ (l * h))) : cntL h s (k + 1) l c = min c 65537 := by rw [cntL, if_neg hg]
theorem cnt_big (h s k l c : Nat) (hg : l * h ≤ 62 ∧ 0 < s / 2 ^ (l * h)) (hb : 65536 < s / 2 ^ (l * h) / 2 ^ h) : cntL h s (k + 1) l c = 65537 := by rw [cntL, if_pos hg, if_pos hb]
theorem cnt_on (h s k l c : Nat) (hg : l * h ≤ 62 ∧ 0 < s / 2 ^ (l * h)) (hb : ¬ 65536 < s / 2 ^ (l * h) / 2 ^ h) :
    cntL h s (k + 1) l c = cntL h s k (l + 1) (c + s / 2 ^ (l * h) / 2 ^ h + restN h (s / 2 ^ (l * h))) := by rw [cntL, if_pos hg, if_neg hb]
theorem refL_stop (h s k l : Nat) (xs : List Value) (hg : ¬ (l * h ≤ 62 ∧ 0 < s / 2 ^ (l * h))) : refL h s (k + 1) l xs = xs := by rw [refL, if_neg hg]
theorem refL_on (h s k l : Nat) (xs : List Value) (hg : l * h ≤ 62 ∧ 0 < s / 2 ^ (l * h)) : refL h s (k + 1) l xs = refL h s k (l + 1) (xs ++ rowC h l (s / 2 ^ (l * h))) := by rw [refL, if_pos hg]
theorem cntL_ge (h s k : Nat) : ∀ l c, 65536 < c → 65536 < cntL h s k l c := by
  induction k with
  | zero => intro l c hc; show 65536 < min c 65537; omega
  | succ k ih =>
    intro l c hc
    by_cases hg : l * h ≤ 62 ∧ 0 < s / 2 ^ (l * h)
    · by_cases hb : 65536 < s / 2 ^ (l * h) / 2 ^ h
      · rw [cnt_big _ _ _ _ _ hg hb]; omega
      · rw [cnt_on _ _ _ _ _ hg hb]
        exact ih _ _ (Nat.lt_of_lt_of_le hc (by rw [Nat.add_assoc]; exact Nat.le_add_right _ _))
    · rw [cnt_stop _ _ _ _ _ hg]; omega
theorem rowC_len (h l n : Nat) : (rowC h l n).length = 4 * (n / 2 ^ h + restN h n) := by
  unfold rowC; rw [List.length_append, fullC_len, restC_len]; omega
/-- What the program lists is what the reference counts and lists. -/
theorem allL_eq (h s : Nat) (h1 : 1 ≤ h) (k : Nat) : ∀ l m xs, m ≤ 65536 → allL h s k l m xs = if 65536 < cntL h s k l m then none else some (cntL h s k l m, refL h s k l xs) := by
  induction k with
  | zero =>
    intro l m xs hm
    have e : cntL h s 0 l m = m := by show min m 65537 = m; omega
    rw [e, if_neg (by omega)]; rfl
  | succ k ih =>
    intro l m xs hm
    have hiff : l ≤ 62 / h ↔ l * h ≤ 62 := by rw [Nat.le_div_iff_mul_le (by omega)]
    have hmin : min m 65537 = m := by omega
    by_cases hl : l ≤ 62 / h
    · have hl2 := hiff.1 hl
      by_cases h0 : s / 2 ^ (l * h) = 0
      · have hg : ¬ (l * h ≤ 62 ∧ 0 < s / 2 ^ (l * h)) := fun h => by have := h.2; omega
        rw [cnt_stop _ _ _ _ _ hg, refL_stop _ _ _ _ _ hg, hmin, if_neg (by omega), allL, if_pos hl, if_pos h0]
      · have hg : l * h ≤ 62 ∧ 0 < s / 2 ^ (l * h) := ⟨hl2, Nat.pos_of_ne_zero h0⟩
        by_cases hb : 65536 < s / 2 ^ (l * h) / 2 ^ h
        · rw [cnt_big _ _ _ _ _ hg hb, if_pos (by omega), allL, if_pos hl, if_neg h0, if_pos hb]
        · rw [cnt_on _ _ _ _ _ hg hb, refL_on _ _ _ _ _ hg, allL, if_pos hl, if_neg h0, if_neg hb]
          by_cases hm2 : m + s / 2 ^ (l * h) / 2 ^ h + restN h (s / 2 ^ (l * h)) ≤ 65536
          · rw [if_pos hm2]; exact ih _ _ _ hm2
          · rw [if_neg hm2, if_pos (cntL_ge _ _ _ _ _ (Nat.lt_of_not_le hm2))]
    · have hg : ¬ (l * h ≤ 62 ∧ 0 < s / 2 ^ (l * h)) := fun h => hl (hiff.2 h.1)
      rw [cnt_stop _ _ _ _ _ hg, refL_stop _ _ _ _ _ hg, hmin, if_neg (by omega), allL, if_neg hl]

set_option maxHeartbeats 1000000 in
theorem ref_count (h s : Nat) (hh : h ≤ 8) (hh1 : 1 ≤ h) (hs : s ≤ 4611686018427387904) (w : World) :
    Calls Try.prog 11 #[.int .i64 h, .int .i64 s] w fun e w' => e = .returned (.int .i64 (cntL h s 64 0 0)) ∧ w = w' := by
  have hrn : ∀ n, restN h n ≤ 1 := fun n => by unfold restN; split <;> omega
  have HRN := hid hrn
  clear hrn
  go_enter Try.func11, Try.ntmps11
  go_wp2_with fail
  go_loop [5, 6] (fun c' l' => ∃ c l : Nat, c' = .int .i64 c ∧ l' = .int .i64 l ∧ l ≤ 63 ∧ c ≤ 65537 * l ∧ cntL h s (64 - l) l c = cntL h s 64 0 0) (fun _ l' => (64 - intOf l').toNat)
  case atStart => exact ⟨0, 0, rfl, rfl, by omega, by omega, rfl⟩
  case round =>
    obtain ⟨c, l, rfl, rfl, hl, hc, hrest⟩ := hrel
    have hk : 64 - l = (64 - (l + 1)) + 1 := by omega
    rw [hk, cntL] at hrest
    have hb8 : l * h ≤ 63 * 8 := Nat.mul_le_mul hl hh
    obtain ⟨x, hx⟩ : ∃ x, x = l * h := ⟨_, rfl⟩
    have hxi : (l : Int) * (h : Int) = (x : Int) := by rw [hx]; simp
    have hlx : l ≤ x := by rw [hx]; exact Nat.le_mul_of_pos_right _ hh1
    obtain ⟨n, hn⟩ : ∃ n, n = s / 2 ^ x := ⟨_, rfl⟩
    have hdiv : (s : Int) / 2 ^ x = (n : Int) := by rw [hn]; simp
    have hns : n ≤ s := by rw [hn]; exact Nat.div_le_self _ _
    rw [← hx] at hb8
    rw [← hx, ← hn] at hrest
    have HR := hid hrest
    clear hx hn hrest hk
    by_cases hgo : x ≤ 62 ∧ 0 < n
    · have hg1 := hgo.1
      have hg2 := hgo.2
      have HE := HR.out
      rw [if_pos hgo] at HE
      obtain ⟨q, hq⟩ : ∃ q, q = n / 2 ^ h := ⟨_, rfl⟩
      have hdq : (n : Int) / 2 ^ h = (q : Int) := by rw [hq]; simp
      obtain ⟨m, hm⟩ : ∃ m, m = q * 2 ^ h := ⟨_, rfl⟩
      have hmn : m ≤ n := by rw [hm, hq]; exact Nat.div_mul_le_self _ _
      have hmul : (q : Int) * 2 ^ h = (m : Int) := by rw [hm]; simp
      have hRN : restN h n = if 0 < n - m then 1 else 0 := by unfold restN; rw [hm, hq]
      rw [← hq] at HE
      have hHE := hid HE
      have HRNn := hid hRN
      clear hm hq HE hRN hgo HR
      by_cases hbig : 65536 < q
      · have hE : Hid (cntL h s 64 0 0 = 65537) := hid (by rw [← hHE.out, if_pos hbig])
        go_wp2_with fail
        go_ret
        exact ⟨by rw [hE.out]; rfl, rfl⟩
      · by_cases hr : 0 < n - m
        · have hE : Hid (cntL h s (64 - (l + 1)) (l + 1) (c + q + 1) = cntL h s 64 0 0) := hid (by rw [← hHE.out, if_neg hbig, HRNn.out, if_pos hr])
          go_wp2_with fail
          go_round
          case rel => exact ⟨c + q + 1, l + 1, by go_num, by go_num, by omega, by omega, hE.out⟩
          case measure => simp [intOf]; omega
        · have hE : Hid (cntL h s (64 - (l + 1)) (l + 1) (c + q) = cntL h s 64 0 0) := hid (by rw [← hHE.out, if_neg hbig, HRNn.out, if_neg hr]; rfl)
          go_wp2_with fail
          go_round
          case rel => exact ⟨c + q, l + 1, by go_num, by go_num, by omega, by omega, hE.out⟩
          case measure => simp [intOf]; omega
    · have hE : Hid (cntL h s 64 0 0 = min c 65537) := hid (by rw [← HR.out, if_neg hgo])
      clear HR
      by_cases hx62 : x ≤ 62
      · have hn0 : ¬ 0 < n := fun h => hgo ⟨hx62, h⟩
        clear hgo
        go_wp2
        all_goals go_ret
        all_goals exact ⟨ret_int (by rw [hE.out]; omega), rfl⟩
      · clear hgo
        go_wp2
        all_goals go_ret
        all_goals exact ⟨ret_int (by rw [hE.out]; omega), rfl⟩
end Go.Proofs.Ytaihdnfdikecnaa
