/- Walks of tiles.rows and tiles.All. -/
import Derived.Test.YtaihdnfdikecnaaTiles
set_option maxRecDepth 100000
namespace Go.Proofs.Ytaihdnfdikecnaa
open Go Go.RowKit

theorem all_fn_big (b h l n : Nat) (hh : h ≤ 8) (hn : n ≤ 4611686018427387904) (hf : 65536 < n / 2 ^ h) (w : World) (c0 : w.cell? ⟨b, 0, none⟩ = some (.int .i64 h)) :
    Calls Try.prog 9 #[.int .i64 l, .int .i64 n, .pointer (some ⟨b, 0, none⟩), .pointer (some ⟨b + 1, 0, none⟩)] w fun e w' => e = .returned (.bool false) ∧ w = w' := by
  obtain ⟨q, hq⟩ : ∃ q, q = n / 2 ^ h := ⟨_, rfl⟩
  have hdiv : (n : Int) / 2 ^ h = (q : Int) := by rw [hq]; simp
  rw [← hq] at hf
  clear hq
  go_enter Try.func9, Try.ntmps9
  go_wp2_with fail
  go_ret
  exact ⟨rfl, rfl⟩

/-- The rows from l on, behind m tiles xs: none where they are too many. -/
def allL (h s : Nat) : Nat → Nat → Nat → List Value → Option (Nat × List Value)
  | 0, _, m, xs => some (m, xs)
  | k + 1, l, m, xs =>
    if l ≤ 62 / h then
      if s / 2 ^ (l * h) = 0 then some (m, xs)
      else if 65536 < s / 2 ^ (l * h) / 2 ^ h then none
      else if m + s / 2 ^ (l * h) / 2 ^ h + restN h (s / 2 ^ (l * h)) ≤ 65536 then allL h s k (l + 1) (m + s / 2 ^ (l * h) / 2 ^ h + restN h (s / 2 ^ (l * h))) (xs ++ rowC h l (s / 2 ^ (l * h))) else none
    else some (m, xs)
def RowsPost (b h : Nat) (r : Option (Nat × List Value)) (w : World) (e : Ending) (w' : World) : Prop :=
  match r with
  | none => e = .returned (.bool false) ∧ Below b w w'
  | some (m, xs) => e = .returned (.bool true) ∧ TS b h m xs w' ∧ Below b w w' ∧ m ≤ 65536

set_option maxHeartbeats 1000000 in
theorem tiles_rows (b h s : Nat) (hh : h ≤ 8) (hh1 : 1 ≤ h) (hs : s ≤ 4611686018427387904) (w : World) (hts : TS b h 0 [] w) :
    Calls Try.prog 8 #[.int .i64 h, .int .i64 s, .func (.func 9) #[] #[.pointer (some ⟨b, 0, none⟩), .pointer (some ⟨b + 1, 0, none⟩)]] w (RowsPost b h (allL h s 64 0 0 []) w) := by
  have HT := hid hts
  clear hts
  obtain ⟨D, hD⟩ : ∃ D, D = 62 / h := ⟨_, rfl⟩
  have hquo : (62 : Int) / (h : Int) = (D : Int) := by rw [hD]; simp
  have hD62 : D ≤ 62 := by rw [hD]; exact Nat.div_le_self _ _
  have hDh : D * h ≤ 62 := by rw [hD]; exact Nat.div_mul_le_self _ _
  have hrun : ∀ (x y : Value) (W : World), (callFunc 9 #[x, y, .pointer (some ⟨b, 0, none⟩), .pointer (some ⟨b + 1, 0, none⟩)]).run Try.prog W = .ok (.enter 9 #[x, y, .pointer (some ⟨b, 0, none⟩), .pointer (some ⟨b + 1, 0, none⟩)]) W := by
    intro x y W; kernel_rfl
  have HD := hid hD
  clear hD
  go_enter Try.func8, Try.ntmps8
  go_wp2_with fail
  go_loopw [7] (fun i' wr => ∃ (l m : Nat) (xs : List Value), i' = .int .i64 l ∧ l ≤ 63 ∧ m ≤ 65536 ∧ TS b h m xs wr ∧ allL h s (64 - l) l m xs = allL h s 64 0 0 [] ∧ Below b w wr) (fun i' _ => (64 - intOf i').toNat)
  case atStart => exact ⟨0, 0, [], rfl, by omega, by omega, HT.out, rfl, Below.refl _ _⟩
  case round =>
    clear HT
    obtain ⟨l, m, xs, rfl, hl, hm, hts, hrest, hbw⟩ := hrel
    have HTS := hid hts
    have HB := hid hbw
    have HREST := hid hrest
    clear hts hbw hrest
    by_cases hlt : l ≤ D
    · have hlh : l * h ≤ 62 := Nat.le_trans (Nat.mul_le_mul_right _ hlt) hDh
      obtain ⟨x, hx⟩ : ∃ x, x = l * h := ⟨_, rfl⟩
      have hxi : (l : Int) * (h : Int) = (x : Int) := by rw [hx]; simp
      obtain ⟨n, hn⟩ : ∃ n, n = s / 2 ^ x := ⟨_, rfl⟩
      have hdiv : (s : Int) / 2 ^ x = (n : Int) := by rw [hn]; simp
      have hns : n ≤ s := by rw [hn]; exact Nat.div_le_self _ _
      rw [← hx] at hlh
      have hR := HREST.out
      rw [show 64 - l = (64 - (l + 1)) + 1 by omega, allL, if_pos (by rw [← HD.out]; exact hlt), ← hx, ← hn] at hR
      have HR := hid hR
      clear hx hn hR HREST
      by_cases hn0 : n = 0
      · subst hn0
        go_wp2_with fail
        go_ret
        have hE : allL h s 64 0 0 [] = some (m, xs) := by simpa using HR.out.symm
        rw [hE]
        exact ⟨rfl, HTS.out, HB.out, hm⟩
      · have hn0' : ((n : Int) == 0) = false := beq_eq_false_iff_ne.2 (by omega)
        by_cases hbig : 65536 < n / 2 ^ h
        · have hcall := hid (all_fn_big b h l n hh (by omega) hbig wr HTS.out.1)
          have hE : Hid (allL h s 64 0 0 [] = none) := hid (by rw [← HR.out, if_neg hn0, if_pos hbig])
          clear hbig
          go_wp2_with fail
          refine hcall.out.mono ?_
          rintro e w' ⟨rfl, rfl⟩
          go_wp2_with fail
          go_ret
          rw [hE.out]
          exact ⟨rfl, HB.out⟩
        · have hcall := hid (all_fn b h l n m xs hh hh1 hl (by omega) (by omega) hm wr HTS.out)
          have hE := HR.out
          rw [if_neg hn0, if_neg hbig] at hE
          obtain ⟨m', hm'⟩ : ∃ m', m' = m + n / 2 ^ h + restN h n := ⟨_, rfl⟩
          rw [← hm'] at hcall hE
          clear hm' hbig HR
          have HE := hid hE
          clear hE
          by_cases hok : m' ≤ 65536
          · have hE2 : Hid (allL h s (64 - (l + 1)) (l + 1) m' (xs ++ rowC h l n) = allL h s 64 0 0 []) := hid (by rw [← HE.out, if_pos hok])
            have hd : decide (m' ≤ 65536) = true := by simp [hok]
            go_wp2_with fail
            refine hcall.out.mono ?_
            rintro e w2 ⟨rfl, hts2, b2⟩
            have HTS2 := hid hts2; have HB2 := hid (HB.out.trans b2); clear hts2 b2
            go_wp2_with fail
            go_roundw
            case rel => exact ⟨l + 1, m', xs ++ rowC h l n, by go_num, by omega, hok, HTS2.out, hE2.out, HB2.out⟩
            case measure => simp [intOf]; omega
          · have hE2 : Hid (allL h s 64 0 0 [] = none) := hid (by rw [← HE.out, if_neg hok])
            have hd : decide (m' ≤ 65536) = false := by simp [hok]
            go_wp2_with fail
            refine hcall.out.mono ?_
            rintro e w2 ⟨rfl, hts2, b2⟩
            have HB2 := hid (HB.out.trans b2); clear hts2 b2
            go_wp2_with fail
            go_ret
            rw [hE2.out]
            exact ⟨rfl, HB2.out⟩
    · have hE : Hid (allL h s 64 0 0 [] = some (m, xs)) := hid (by rw [← HREST.out, show 64 - l = (63 - l) + 1 by omega, allL, if_neg (by rw [← HD.out]; exact hlt)])
      clear HREST
      go_wp2_with fail
      go_ret
      rw [hE.out]
      exact ⟨rfl, HTS.out, HB.out, hm⟩

theorem own_monoS {B B' : Nat} {e : TypeId} {size : Nat} {v : Value} {n : Nat} {xs : List Value} {w : World} (h : w.ownsRow B e size v n xs) (hB : B' ≤ B) : w.ownsRow B' e size v n xs := by
  refine ⟨h.1, ?_⟩
  rcases h.2 with h | ⟨g, cap, cur, h1, h2, h3⟩
  · exact .inl h
  · exact .inr ⟨g, cap, cur, h1, by omega, h3⟩
/-- What All answers. -/
def allR (h s : Int) : List Value × Int :=
  if h < 1 ∨ 8 < h ∨ s < 0 ∨ 4611686018427387904 < s then ([], 10) else match allL h.toNat s.toNat 64 0 0 [] with | none => ([], 83) | some (_, xs) => (xs, 0)
def TilesPost (r : List Value × Int) (w : World) (e : Ending) (w' : World) : Prop :=
  ∃ v n, e = .returned (.tuple #[v, .int .i64 r.2]) ∧ w'.ownsRow w.heap.size 31 4 v n r.1 ∧ n ≤ 65536 ∧ Below w.heap.size w w'
theorem tiles_All (h s : Int) (hbh : -9223372036854775808 ≤ h ∧ h ≤ 9223372036854775807) (hbs : -9223372036854775808 ≤ s ∧ s ≤ 9223372036854775807) (w : World) :
    Calls Try.prog 4 #[.int .i64 h, .int .i64 s] w (TilesPost (allR h s) w) := by
  by_cases hbad : h < 1 ∨ 8 < h ∨ s < 0 ∨ 4611686018427387904 < s
  · have hR : Hid (allR h s = ([], 10)) := by unfold Hid allR; rw [if_pos hbad]
    go_enter Try.func4, Try.ntmps4
    go_wp2
    all_goals go_ret2
    all_goals exact ⟨.slice none 0 0, 0, by rw [hR.out]; rfl, by rw [hR.out]; exact World.ownsRow_nil _ _ _ _, by omega, (Below.refl _ _).alloc (Nat.le_refl _) _⟩
  · obtain ⟨h', rfl⟩ := Int.eq_ofNat_of_zero_le (show 0 ≤ h by omega)
    obtain ⟨s', rfl⟩ := Int.eq_ofNat_of_zero_le (show 0 ≤ s by omega)
    have hb1 : h' ≤ 8 := by omega
    have hb2 : 1 ≤ h' := by omega
    have hb3 : s' ≤ 4611686018427387904 := by omega
    have hR : Hid (allR h' s' = match allL h' s' 64 0 0 [] with | none => ([], 83) | some (_, xs) => (xs, 0)) := by unfold Hid allR; rw [if_neg hbad]; rfl
    clear hbad
    go_enter Try.func4, Try.ntmps4
    go_wp2_with fail
    have hts : TS w.heap.size h' 0 [] ((w.alloc (.cells #[.int .i64 h'] 3)).alloc (.cells #[.slice none 0 0] 22)) := by
      refine ⟨by simp [go_sem], by simp [go_sem], by simp, .slice none 0 0, by simp [go_sem], World.ownsRow_nil _ _ _ _⟩
    have hrows := hid (tiles_rows w.heap.size h' s' hb1 hb2 hb3 _ hts)
    have hb0 : Hid (Below w.heap.size w ((w.alloc (.cells #[.int .i64 h'] 3)).alloc (.cells #[.slice none 0 0] 22))) := hid (((Below.refl _ _).alloc (Nat.le_refl _) _).alloc (by simp) _)
    clear hts
    obtain ⟨r, hr⟩ : ∃ r, r = allL h' s' 64 0 0 [] := ⟨_, rfl⟩
    rw [← hr] at hrows hR
    clear hr
    refine hrows.out.mono ?_
    intro e w1 hp
    match r, hp with
    | none, hp =>
      obtain ⟨rfl, b1⟩ := hp
      have B1 := hid (hb0.out.trans b1); clear b1
      go_wp2_with fail
      go_ret2
      exact ⟨.slice none 0 0, 0, by rw [hR.out]; rfl, by rw [hR.out]; exact World.ownsRow_nil _ _ _ _, by omega, B1.out⟩
    | some (m, xs), hp =>
      obtain ⟨rfl, ⟨_, _, hsz, v, c1, ho⟩, b1, hm⟩ := hp
      have B1 := hid (hb0.out.trans b1); clear b1
      have HO := hid ho; clear ho
      go_wp2_with fail
      go_ret2
      exact ⟨v, m, by rw [hR.out]; rfl, by rw [hR.out]; exact own_monoS HO.out (by omega), hm, B1.out⟩
end Go.Proofs.Ytaihdnfdikecnaa
