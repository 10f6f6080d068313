/- The walk of annalslaw23.TilesBack. -/
import Derived.Test.YtaaldkkfedinpaaDoorTilesParseWalk
import Derived.Deep.RegionHeld3
import Derived.Deep.DeepCutAuto
import Derived.Deep.CutBlock
set_option maxRecDepth 100000
namespace Go.Proofs.YtaaldkkfedinpaaDoor
open Go Go.RowKit

def pickN (n m : Int) : Int := if n.tmod m < 0 then n.tmod m + m else n.tmod m
theorem pickN_range (n m : Int) (hm : 0 < m) : 0 ≤ pickN n m ∧ pickN n m < m := by
  unfold pickN
  have h1 := Int.tmod_lt_of_pos n hm
  have h2 : -m < n.tmod m := by
    have := Int.lt_tmod_of_pos n hm
    omega
  split <;> omega
theorem law_pick (n m : Int) (bn : -9223372036854775808 ≤ n ∧ n ≤ 9223372036854775807) (hm : 0 < m) (hm2 : m ≤ 1000) (w : World) : Calls Tryd.prog 13 #[.int .i64 n, .int .i64 m] w fun e w' => e = .returned (.int .i64 (pickN n m)) ∧ w = w' := by
  have h1 := Int.tmod_lt_of_pos n hm
  have h2 : -m < n.tmod m := Int.lt_tmod_of_pos n hm
  have HR : Hid (pickN n m = if n.tmod m < 0 then n.tmod m + m else n.tmod m) := rfl
  have hm0 : ¬ m = 0 := by omega
  have hm1 : ¬ m = -1 := by omega
  obtain ⟨r, hr⟩ : ∃ r, r = n.tmod m := ⟨_, rfl⟩
  have hrr : n.tmod m = r := hr.symm
  rw [← hr] at h1 h2 HR
  clear hr
  by_cases h : r < 0
  · have HR2 : Hid (pickN n m = r + m) := by unfold Hid; rw [HR.out, if_pos h]
    clear HR
    go_enter Tryd.func13, Tryd.ntmps13
    go_wp2_with fail
    go_ret
    exact ⟨by rw [HR2.out]; rfl, rfl⟩
  · have HR2 : Hid (pickN n m = r) := by unfold Hid; rw [HR.out, if_neg h]
    clear HR
    go_enter Tryd.func13, Tryd.ntmps13
    go_wp2_with fail
    go_ret
    exact ⟨by rw [HR2.out]; rfl, rfl⟩
theorem lies_good (h l i c : Int) (h1 : 1 ≤ h) (h8 : h ≤ 8) (l0 : 0 ≤ l) (l6 : l ≤ 6) (i0 : 0 ≤ i) (i63 : i ≤ 63) (c1 : 1 ≤ c) (cP : c ≤ ((2 ^ h.toNat : Nat) : Int)) : Lies h l i c 4611686018427387904 := by
  have hP : (2 ^ h.toNat : Nat) ≤ 256 := Nat.pow_le_pow_right (show 0 < 2 by decide) (show h.toNat ≤ 8 by omega)
  have hP0 : 0 < (2 ^ h.toNat : Nat) := Nat.two_pow_pos _
  have hlh : l * h ≤ 48 := by
    have h2 : l * h ≤ 6 * h := Int.mul_le_mul_of_nonneg_right l6 (by omega)
    omega
  have hrow : 16384 ≤ 4611686018427387904 / 2 ^ (l * h).toNat := by
    have h3 : 2 ^ (l * h).toNat ≤ 2 ^ 48 := Nat.pow_le_pow_right (show 0 < 2 by decide) (by omega)
    have h4 : 4611686018427387904 / 2 ^ 48 ≤ 4611686018427387904 / 2 ^ (l * h).toNat := Nat.div_le_div_left h3 (Nat.two_pow_pos _)
    have h5 : 4611686018427387904 / 2 ^ 48 = 16384 := by decide
    omega
  unfold Lies
  generalize (4611686018427387904 / 2 ^ (l * h).toNat : Nat) = row at hrow ⊢
  generalize (2 ^ h.toNat : Nat) = P at *
  refine ⟨h1, h8, l0, by omega, i0, c1, cP, by omega, ?_⟩
  refine (Int.le_ediv_iff_mul_le (by omega)).2 ?_
  have : i * (P : Int) ≤ 63 * (P : Int) := Int.mul_le_mul_of_nonneg_right i63 (by omega)
  omega
/-- A path's length. -/
theorem path_sz (h l i c : Int) : (pathS h l i c).size ≤ 1048576 := by
  by_cases hL : Lies h l i c 4611686018427387904
  · obtain ⟨a, b, d, e, rfl, rfl, rfl, rfl, hL2, hi, hs⟩ := (show Fits h l i c (pathS h l i c) from ⟨hL, rfl⟩).nat
    obtain ⟨h1, h8, l0, lh, i0, c1, cP, _, _⟩ := hL2
    have hl62 : b ≤ 62 := by
      have h3 : (b : Int) * 1 ≤ (b : Int) * (a : Int) := Int.mul_le_mul_of_nonneg_left h1 l0
      omega
    rw [Int.toNat_natCast] at cP
    have hP : (2 ^ a : Nat) ≤ 256 := Nat.pow_le_pow_right (show 0 < 2 by decide) (show a ≤ 8 by omega)
    have e1 := dec_len 17 a (by omega)
    have e2 := dec_len 17 b (by omega)
    have e3 := dec_len 17 e (by omega)
    have e4 := indexL_len d hi
    have hsz : (pathS a b d e).data.toList.length = (pathS a b d e).size := Array.length_toList
    rw [← hsz, hs]
    unfold pathL
    simp only [List.length_append, List.length_cons, List.length_nil]
    split
    · simp only [List.length_append, List.length_cons, List.length_nil]; omega
    · simp only [List.length_nil]; omega
  · unfold pathS
    rw [if_neg hL]
    decide
/-- Of two tiles that have paths the paths are alike just if the tiles are. -/
theorem path_one {h l i c h' l' i' c' : Int} (hL : Lies h l i c 4611686018427387904) (hM : Lies h' l' i' c' 4611686018427387904) : pathS h l i c = pathS h' l' i' c' ↔ h = h' ∧ l = l' ∧ i = i' ∧ c = c' := by
  constructor
  · intro e
    obtain ⟨e1, e2, e3, e4⟩ := fits_prog (show Fits h l i c (pathS h' l' i' c') from ⟨hL, e⟩)
    obtain ⟨g1, g2, g3, g4⟩ := fits_prog (show Fits h' l' i' c' (pathS h' l' i' c') from ⟨hM, rfl⟩)
    exact ⟨e1.symm.trans g1, e2.symm.trans g2, e3.symm.trans g3, e4.symm.trans g4⟩
  · rintro ⟨rfl, rfl, rfl, rfl⟩
    rfl
theorem pathE_zero {h l i c : Int} : pathE h l i c = 0 ↔ Lies h l i c 4611686018427387904 := by
  unfold pathE
  by_cases hL : Lies h l i c 4611686018427387904
  · rw [if_pos hL]; exact ⟨fun _ => hL, fun _ => rfl⟩
  · rw [if_neg hL]; exact ⟨fun e => absurd e (by decide), fun h => absurd h hL⟩
/-- What a world of the law knows: the boxes of the two tiles. -/
def BK (w : World) (h l i c h' l' i' c' : Int) (W : World) : Prop := Below w.heap.size w W ∧ TB w.heap.size h l i c W ∧ TB (w.heap.size + 1) h' l' i' c' W
theorem BK.step {w W W' : World} {h l i c h' l' i' c' : Int} (p : BK w h l i c h' l' i' c' W) (hb : Below W.heap.size W W') : BK w h l i c h' l' i' c' W' := ⟨Below.then' p.1 hb, p.2.1.below hb, p.2.2.below hb⟩
theorem BK.start (w : World) (h l i c h' l' i' c' : Int) : BK w h l i c h' l' i' c' ((w.alloc (.cells #[.int .i64 h, .int .i64 l, .int .i64 i, .int .i64 c] 23)).alloc (.cells #[.int .i64 h', .int .i64 l', .int .i64 i', .int .i64 c'] 23)) := by
  have hb := (Below.refl w.heap.size w).alloc (Nat.le_refl _) (.cells #[.int .i64 h, .int .i64 l, .int .i64 i, .int .i64 c] 23)
  refine ⟨hb.alloc (by simp) _, (TB.new w h l i c).below ((Below.refl _ _).alloc (Nat.le_refl _) _), ?_⟩
  have := TB.new (w.alloc (.cells #[.int .i64 h, .int .i64 l, .int .i64 i, .int .i64 c] 23)) h' l' i' c'
  rw [show (w.alloc (.cells #[.int .i64 h, .int .i64 l, .int .i64 i, .int .i64 c] 23)).heap.size = w.heap.size + 1 by simp] at this
  exact this
/-- .. and of the tile that is made. -/
def BG (w : World) (h l i c h' l' i' c' : Int) (n x y m : Int) (W : World) : Prop := BK w h l i c h' l' i' c' W ∧ TB (w.heap.size + 2) n x y m W
theorem BG.step {w W W' : World} {h l i c h' l' i' c' n x y m : Int} (p : BG w h l i c h' l' i' c' n x y m W) (hb : Below W.heap.size W W') : BG w h l i c h' l' i' c' n x y m W' := ⟨p.1.step hb, p.2.below hb⟩
theorem BG.put {w W : World} {h l i c h' l' i' c' n x y m : Int} (p : BG w h l i c h' l' i' c' n x y m W) (m' : Int) : BG w h l i c h' l' i' c' n x y m' (W.setCell ⟨w.heap.size + 2, 3, none⟩ (.int .i64 m')) :=
  ⟨⟨p.1.1.setCell (by show w.heap.size ≤ w.heap.size + 2; omega) _, p.1.2.1.far (by omega) _ _, p.1.2.2.far (by omega) _ _⟩, p.2.put m'⟩
set_option maxHeartbeats 600000 in
theorem law_TilesBack (h l i c h' l' i' c' : Int) (s : ByteArray) (w : World)
    (bh : -9223372036854775808 ≤ h ∧ h ≤ 9223372036854775807) (bl : -9223372036854775808 ≤ l ∧ l ≤ 9223372036854775807) (bi : -9223372036854775808 ≤ i ∧ i ≤ 9223372036854775807) (bc : -9223372036854775808 ≤ c ∧ c ≤ 9223372036854775807)
    (bh' : -9223372036854775808 ≤ h' ∧ h' ≤ 9223372036854775807) (bl' : -9223372036854775808 ≤ l' ∧ l' ≤ 9223372036854775807) (bi' : -9223372036854775808 ≤ i' ∧ i' ≤ 9223372036854775807) (bc' : -9223372036854775808 ≤ c' ∧ c' ≤ 9223372036854775807)
    (hs : s.size ≤ 1048576) (ht : TabP w) (he : ErrV w) (hm : MaxV w) :
    Calls Tryd.prog 4 #[.agg #[.int .i64 h, .int .i64 l, .int .i64 i, .int .i64 c], .agg #[.int .i64 h', .int .i64 l', .int .i64 i', .int .i64 c'], .string s] w fun e w' => e = .returned (.bool true) ∧ Below w.heap.size w w' := by
  have HP1 := hid (law_pick h 8 bh (by decide) (by decide))
  have HP2 := hid (law_pick l 7 bl (by decide) (by decide))
  have HP3 := hid (law_pick i 64 bi (by decide) (by decide))
  have r1 := pickN_range h 8 (by decide)
  have r2 := pickN_range l 7 (by decide)
  have r3 := pickN_range i 64 (by decide)
  generalize pickN h 8 = x1 at *
  generalize pickN l 7 = x2 at *
  generalize pickN i 64 = x3 at *
  obtain ⟨n, hn⟩ := Int.eq_ofNat_of_zero_le (show 0 ≤ 1 + x1 by omega)
  obtain ⟨P, hP⟩ : ∃ P : Nat, P = 2 ^ n := ⟨_, rfl⟩
  have hpow : (2 : Int) ^ n = (P : Int) := by rw [hP]; simp
  have hP2 : P ≤ 256 := by rw [hP]; exact Nat.pow_le_pow_right (show 0 < 2 by decide) (show n ≤ 8 by omega)
  have hP0 : 0 < P := by rw [hP]; exact Nat.two_pow_pos _
  have HP4 := hid (law_pick c P bc (by omega) (by omega))
  have r4 := pickN_range c P (by omega)
  generalize pickN c P = x4 at *
  have hLg : Lies (1 + x1) x2 x3 (1 + x4) 4611686018427387904 := lies_good _ _ _ _ (by omega) (by omega) (by omega) (by omega) (by omega) (by omega) (by omega) (by rw [hn, Int.toNat_natCast, ← hP]; omega)
  rw [hn] at hLg
  obtain ⟨m, hm4⟩ : ∃ m, m = 1 + x4 := ⟨_, rfl⟩
  rw [← hm4] at hLg
  -- the tile that is made
  have hfA : Fits n x2 x3 m (pathS n x2 x3 m) := ⟨hLg, rfl⟩
  have hA := fits_par hfA
  have HGP : Hid (∀ W, Below w.heap.size w W → Calls Tryd.prog 14 #[.agg #[.int .i64 n, .int .i64 x2, .int .i64 x3, .int .i64 m]] W fun e w' => e = .returned (.tuple #[.string (pathS n x2 x3 m), .int .i64 0]) ∧ Below W.heap.size W w') := by
    intro W hW
    have := tiles_Path n x2 x3 m (by omega) (by omega) (by omega) (by omega) W (ht.below hW)
    rw [pathE_zero.2 hLg] at this
    exact this
  have HGQ : Hid (∀ W, Below w.heap.size w W → Calls Tryd.prog 10 #[.string (pathS n x2 x3 m)] W fun e w' => e = .returned (.tuple #[.agg #[.int .i64 n, .int .i64 x2, .int .i64 x3, .int .i64 m], .int .i64 0]) ∧ Below W.heap.size W w') := by
    intro W hW
    have := tiles_Parse (pathS n x2 x3 m) (path_sz _ _ _ _) W (ht.below hW) (he.below hW) (hm.below hW)
    rw [hA.1, hA.2] at this
    exact this
  -- the two that came in
  have HTP : Hid (∀ W, Below w.heap.size w W → Calls Tryd.prog 14 #[.agg #[.int .i64 h, .int .i64 l, .int .i64 i, .int .i64 c]] W fun e w' => e = .returned (.tuple #[.string (pathS h l i c), .int .i64 (pathE h l i c)]) ∧ Below W.heap.size W w') := fun W hW => tiles_Path h l i c bh bl bi bc W (ht.below hW)
  have HUP : Hid (∀ W, Below w.heap.size w W → Calls Tryd.prog 14 #[.agg #[.int .i64 h', .int .i64 l', .int .i64 i', .int .i64 c']] W fun e w' => e = .returned (.tuple #[.string (pathS h' l' i' c'), .int .i64 (pathE h' l' i' c')]) ∧ Below W.heap.size W w') := fun W hW => tiles_Path h' l' i' c' bh' bl' bi' bc' W (ht.below hW)
  have HTQ : Hid (pathE h l i c = 0 → ∀ W, Below w.heap.size w W → Calls Tryd.prog 10 #[.string (pathS h l i c)] W fun e w' => e = .returned (.tuple #[.agg #[.int .i64 h, .int .i64 l, .int .i64 i, .int .i64 c], .int .i64 0]) ∧ Below W.heap.size W w') := by
    intro h0 W hW
    have hf := fits_par (show Fits h l i c (pathS h l i c) from ⟨pathE_zero.1 h0, rfl⟩)
    have := tiles_Parse (pathS h l i c) (path_sz _ _ _ _) W (ht.below hW) (he.below hW) (hm.below hW)
    rw [hf.1, hf.2] at this
    exact this
  have HONE : Hid (pathE h l i c = 0 → pathE h' l' i' c' = 0 → (pathS h l i c = pathS h' l' i' c' ↔ h = h' ∧ l = l' ∧ i = i' ∧ c = c')) := fun h1 h2 => path_one (pathE_zero.1 h1) (pathE_zero.1 h2)
  -- the text
  have HSQ : Hid (∀ W, Below w.heap.size w W → Calls Tryd.prog 10 #[.string s] W fun e w' => e = .returned (.tuple #[tileV (parT s), .int .i64 (parE s)]) ∧ Below W.heap.size W w') := fun W hW => tiles_Parse s hs W (ht.below hW) (he.below hW) (hm.below hW)
  have HSP : Hid ((parE s = 230 ∧ parT s = (0, 0, 0, 0)) ∨ (parE s = 0 ∧ ∀ W, Below w.heap.size w W → Calls Tryd.prog 14 #[tileV (parT s)] W fun e w' => e = .returned (.tuple #[.string s, .int .i64 0]) ∧ Below W.heap.size W w')) := by
    by_cases hf : fits s
    · refine .inr ⟨by unfold parE; rw [if_pos hf], fun W hW => ?_⟩
      unfold parT
      rw [if_pos hf]
      obtain ⟨fL, fp⟩ := hf
      have hge1 := And.intro (numL_ge (pA s.data.toList).1) (numL_le (pA s.data.toList).1)
      have hge2 := And.intro (numL_ge (pB s.data.toList).1) (numL_le (pB s.data.toList).1)
      have hn4 : -1 ≤ pN (pC s.data.toList).1 ∧ pN (pC s.data.toList).1 ≤ 4611686018427387904 := foldN_le _ 0 (by omega) (by omega)
      have hc8 : 1 ≤ pCount s.data.toList ∧ pCount s.data.toList ≤ 256 := by
        have hP8 : (2 ^ (numL (pA s.data.toList).1).toNat : Nat) ≤ 256 := Nat.pow_le_pow_right (show 0 < 2 by decide) (show (numL (pA s.data.toList).1).toNat ≤ 8 by have := fL.2.1; omega)
        have h1 := fL.2.2.2.2.2.1
        have h2 := fL.2.2.2.2.2.2.1
        omega
      have := tiles_Path (numL (pA s.data.toList).1) (numL (pB s.data.toList).1) (pN (pC s.data.toList).1) (pCount s.data.toList) (by omega) (by omega) (by omega) (by omega) W (ht.below hW)
      rw [pathE_zero.2 fL, fp] at this
      exact this
    · exact .inl ⟨by unfold parE; rw [if_neg hf], by unfold parT; rw [if_neg hf]⟩
  generalize pathS n x2 x3 m = sA at *
  generalize pathS h l i c = sB at *
  generalize pathE h l i c = eB at *
  generalize pathS h' l' i' c' = sC at *
  generalize pathE h' l' i' c' = eC at *
  generalize parT s = z at *
  generalize parE s = eS at *
  obtain ⟨z1, z2, z3, z4⟩ := z
  unfold tileV at HSQ HSP
  obtain ⟨W0, hW⟩ : ∃ W, (w.alloc (.cells #[.int .i64 h, .int .i64 l, .int .i64 i, .int .i64 c] 23)).alloc (.cells #[.int .i64 h', .int .i64 l', .int .i64 i', .int .i64 c'] 23) = W := ⟨_, rfl⟩
  have b0 := BK.start w h l i c h' l' i' c'
  rw [hW] at b0
  have hsW : W0.heap.size = w.heap.size + 2 := by rw [← hW]; simp
  have B0 := hid b0
  have HW := hid hW
  obtain ⟨q0, q1, q2, q3, q4⟩ := b0.2.1
  have hu1 : IntKind.u64.wrap (n : Int) = n := by rw [IntKind.wrap_u64]; omega
  have WN : Hid (IntKind.i64.wrap (n : Int) = n) := by unfold Hid; rw [IntKind.wrap_i64]; omega
  clear ht he hm hP hLg bh bl bi bc bh' bl' bi' bc' hfA hA b0 hW q4
  go_enter Tryd.func4, Tryd.ntmps4
  go_upto_region 1 with fail
  rw [HW.out]
  clear HW
  go_cut [7] (fun p wc => p = .pointer (some ⟨w.heap.size + 2, 0, none⟩) ∧ BG w h l i c h' l' i' c' n x2 x3 0 wc)
  case first =>
    go_region_held3 (fun W => W.cell? ⟨w.heap.size, 0, none⟩ = some (.int .i64 h) ∧ W.cell? ⟨w.heap.size, 1, none⟩ = some (.int .i64 l) ∧ W.cell? ⟨w.heap.size, 2, none⟩ = some (.int .i64 i)) (go_keep) (first
      | (go_at_call 13; (with_reducible refine Calls.mono (HP1.out _) ?_); rintro e w1 ⟨rfl, rfl⟩)
      | (go_at_call 13; (with_reducible refine Calls.mono (HP2.out _) ?_); rintro e w1 ⟨rfl, rfl⟩)
      | (go_at_call 13; (with_reducible refine Calls.mono (HP3.out _) ?_); rintro e w1 ⟨rfl, rfl⟩))
    all_goals
      go_wp2_with fail
      go_meet
      case rel =>
        rw [WN.out]
        refine ⟨rfl, (B0.out.step ((Below.refl _ _).alloc (Nat.le_refl _) _).drew), ?_⟩
        have := (TB.new W0 n x2 x3 0).below (Below.refl _ _).drew
        rw [hsW] at this
        exact this
  case rest =>
  obtain ⟨rfl, hF⟩ := hcut
  have F0 := hid hF
  obtain ⟨k0, k1, k2, k3, k4⟩ := hF.2
  have k33 := hF.1.2.1.2.2.2.1
  have kf := k4 3
  clear hF k4 q0 q1 q2 q3 HP1 HP2 HP3 WN B0
  go_wp2_with fail
  refine (HP4.out _).mono ?_
  rintro e w1 ⟨rfl, rfl⟩
  subst hm4
  have F1 := hid (F0.out.put (1 + x4))
  go_wp2_with fail
  clear k0 k1 k2 k3 k33 kf
  -- the tile that is made, there and back
  refine (HGP.out _ F1.out.1.1).mono ?_
  rintro e w2 ⟨rfl, hb⟩
  have F2 := hid (F1.out.step hb)
  clear hb
  go_wp2_with fail
  refine (HGQ.out _ F2.out.1.1).mono ?_
  rintro e w3 ⟨rfl, hb⟩
  have F3 := hid ((F2.out.step hb).step ((Below.refl w3.heap.size w3).alloc (Nat.le_refl _) (.cells #[.int .i64 n, .int .i64 x2, .int .i64 x3, .int .i64 (1 + x4)] 23)))
  obtain ⟨k0, k1, k2, k3, k4⟩ := F3.out.2
  obtain ⟨q0, q1, q2, q3, q4⟩ := F3.out.1.2.1
  have hne : w.heap.size + 2 < w3.heap.size := World.block_lt_of_cell? _ _ (F2.out.step hb).2.1
  clear hb k4 q4
  go_wp2_with (go_at_call 12; refine (law_num _ _).mono ?_; rintro e w' ⟨rfl, rfl⟩)
  clear k0 k1 k2 k3
  refine (HTP.out _ F3.out.1.1).mono ?_
  rintro e w4 ⟨rfl, hb⟩
  have F4 := hid (F3.out.step hb)
  clear hb q0 q1 q2 q3
  obtain ⟨q0, q1, q2, q3, q4⟩ := F4.out.1.2.2
  clear q4
  go_wp2_with fail
  refine (HUP.out _ F4.out.1.1).mono ?_
  rintro e w5 ⟨rfl, hb⟩
  have F5 := hid (F4.out.step hb)
  clear hb q0 q1 q2 q3
  obtain ⟨q0, q1, q2, q3, q4⟩ := F5.out.1.2.1
  obtain ⟨k0, k1, k2, k3, k4⟩ := F5.out.1.2.2
  clear q4 k4
  go_upto_region 9 with fail
  go_cut [91] (fun v wc => v = .bool false ∧ w5 = wc)
  case first =>
    by_cases hB : eB = 0
    · by_cases hC : eC = 0
      · have ho := HONE.out hB hC
        subst hB
        subst hC
        by_cases heq : h = h' ∧ l = l' ∧ i = i' ∧ c = c'
        · have hbc := ho.2 heq
          obtain ⟨rfl, rfl, rfl, rfl⟩ := heq
          subst hbc
          clear ho
          go_wp2_with (go_at_call 12; refine (law_num _ _).mono ?_; rintro e w' ⟨rfl, rfl⟩)
          go_meet
          case rel => exact ⟨bool_eq (by simp), rfl⟩
        · have hbc : ¬ sB = sC := fun e => heq (ho.1 e)
          have hbn := ne_str hbc
          clear ho hbc
          by_cases eh : h = h'
          rotate_left
          · have hx : (h == h') = false := beq_eq_false_iff_ne.2 eh
            clear heq
            go_wp2_with (go_at_call 12; refine (law_num _ _).mono ?_; rintro e w' ⟨rfl, rfl⟩)
            go_meet
            case rel => exact ⟨rfl, rfl⟩
          subst eh
          by_cases el : l = l'
          rotate_left
          · have hx : (l == l') = false := beq_eq_false_iff_ne.2 el
            clear heq
            go_wp2_with (go_at_call 12; refine (law_num _ _).mono ?_; rintro e w' ⟨rfl, rfl⟩)
            go_meet
            case rel => exact ⟨rfl, rfl⟩
          subst el
          by_cases ei : i = i'
          rotate_left
          · have hx : (i == i') = false := beq_eq_false_iff_ne.2 ei
            clear heq
            go_wp2_with (go_at_call 12; refine (law_num _ _).mono ?_; rintro e w' ⟨rfl, rfl⟩)
            go_meet
            case rel => exact ⟨rfl, rfl⟩
          subst ei
          have ec : ¬ c = c' := fun e => heq ⟨rfl, rfl, rfl, e⟩
          have hx : (c == c') = false := beq_eq_false_iff_ne.2 ec
          clear heq
          go_wp2_with (go_at_call 12; refine (law_num _ _).mono ?_; rintro e w' ⟨rfl, rfl⟩)
          go_meet
          case rel => exact ⟨rfl, rfl⟩
      · have hC' : (eC == 0) = false := beq_eq_false_iff_ne.2 hC
        subst hB
        go_wp2_with (go_at_call 12; refine (law_num _ _).mono ?_; rintro e w' ⟨rfl, rfl⟩)
        go_meet
        case rel => exact ⟨rfl, rfl⟩
    · have hB' : (eB == 0) = false := beq_eq_false_iff_ne.2 hB
      go_wp2_with (go_at_call 12; refine (law_num _ _).mono ?_; rintro e w' ⟨rfl, rfl⟩)
      go_meet
      case rel => exact ⟨rfl, rfl⟩
  case rest =>
  obtain ⟨rfl, rfl⟩ := hcut
  clear q0 q1 q2 q3 k0 k1 k2 k3 HONE HTP HUP HGP HGQ HP4
  by_cases hB : eB = 0
  · subst hB
    go_wp2_with (go_at_call 12; refine (law_num _ _).mono ?_; rintro e w' ⟨rfl, rfl⟩)
    refine (HTQ.out (by first | rfl | trivial) _ F5.out.1.1).mono ?_
    rintro e w6 ⟨rfl, hb⟩
    have F6 := hid ((F5.out.step hb).step ((Below.refl w6.heap.size w6).alloc (Nat.le_refl _) (.cells #[.int .i64 h, .int .i64 l, .int .i64 i, .int .i64 c] 23)))
    have hne6 : w.heap.size + 2 < w6.heap.size := World.block_lt_of_cell? _ _ (F5.out.step hb).2.1
    obtain ⟨q0, q1, q2, q3, q4⟩ := F6.out.1.2.1
    clear hb q4
    go_wp2_with (go_at_call 12; refine (law_num _ _).mono ?_; rintro e w' ⟨rfl, rfl⟩)
    clear q0 q1 q2 q3 hne6
    have FX := F6
    clear F5 F4 F3 F2 F1 F0
    refine (HSQ.out _ FX.out.1.1).mono ?_
    rintro e w7 ⟨rfl, hb⟩
    have F7 := hid ((FX.out.step hb).step ((Below.refl w7.heap.size w7).alloc (Nat.le_refl _) (.cells #[.int .i64 z1, .int .i64 z2, .int .i64 z3, .int .i64 z4] 23)))
    clear hb
    rcases HSP.out with ⟨he, hz⟩ | ⟨he, hz⟩
    · simp only [Prod.mk.injEq] at hz
      obtain ⟨rfl, rfl, rfl, rfl⟩ := hz
      subst he
      clear HSP HSQ
      go_wp2_with (go_at_call 12; refine (law_num _ _).mono ?_; rintro e w' ⟨rfl, rfl⟩)
      go_ret
      exact ⟨rfl, F7.out.1.1⟩
    · have HZ := hid hz
      subst he
      clear HSP HSQ hz
      go_wp2_with (go_at_call 12; refine (law_num _ _).mono ?_; rintro e w' ⟨rfl, rfl⟩)
      refine (HZ.out _ F7.out.1.1).mono ?_
      rintro e w8 ⟨rfl, hb⟩
      have F8 := hid (F7.out.step hb)
      have hss : (s.toList == s.toList) = true := by simp
      clear hb
      go_wp2_with (go_at_call 12; refine (law_num _ _).mono ?_; rintro e w' ⟨rfl, rfl⟩)
      go_ret
      exact ⟨rfl, F8.out.1.1⟩
  · have hB' : (eB == 0) = false := beq_eq_false_iff_ne.2 hB
    clear HTQ
    go_wp2_with (go_at_call 12; refine (law_num _ _).mono ?_; rintro e w' ⟨rfl, rfl⟩)
    have FX := F5
    clear F5 F4 F3 F2 F1 F0
    refine (HSQ.out _ FX.out.1.1).mono ?_
    rintro e w7 ⟨rfl, hb⟩
    have F7 := hid ((FX.out.step hb).step ((Below.refl w7.heap.size w7).alloc (Nat.le_refl _) (.cells #[.int .i64 z1, .int .i64 z2, .int .i64 z3, .int .i64 z4] 23)))
    clear hb
    rcases HSP.out with ⟨he, hz⟩ | ⟨he, hz⟩
    · simp only [Prod.mk.injEq] at hz
      obtain ⟨rfl, rfl, rfl, rfl⟩ := hz
      subst he
      clear HSP HSQ
      go_wp2_with (go_at_call 12; refine (law_num _ _).mono ?_; rintro e w' ⟨rfl, rfl⟩)
      go_ret
      exact ⟨rfl, F7.out.1.1⟩
    · have HZ := hid hz
      subst he
      clear HSP HSQ hz
      go_wp2_with (go_at_call 12; refine (law_num _ _).mono ?_; rintro e w' ⟨rfl, rfl⟩)
      refine (HZ.out _ F7.out.1.1).mono ?_
      rintro e w8 ⟨rfl, hb⟩
      have F8 := hid (F7.out.step hb)
      have hss : (s.toList == s.toList) = true := by simp
      clear hb
      go_wp2_with (go_at_call 12; refine (law_num _ _).mono ?_; rintro e w' ⟨rfl, rfl⟩)
      go_ret
      exact ⟨rfl, F8.out.1.1⟩
end Go.Proofs.YtaaldkkfedinpaaDoor
