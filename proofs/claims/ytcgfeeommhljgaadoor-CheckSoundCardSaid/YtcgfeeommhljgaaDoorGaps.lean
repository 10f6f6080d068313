/- Walks of the reference's within, gaps, ranges, shape, Count. -/
import Derived.Test.YtcgfeeommhljgaaDoorRefCount
set_option maxRecDepth 100000
namespace Go.Proofs.YtcgfeeommhljgaaDoor
open Go Go.RowKit

theorem info_int : (Tryd.prog.info? 3).map (fun i => (i.zero, i.size, i.bytes)) = some (some (.int .i64 0), 1, 8) := by kernel_rfl

/-- The numbers from a up to b. -/
def inside (xs : List Int) (a b : Int) : List Int := xs.filter fun x => decide (a ≤ x ∧ x < b)
theorem inside_len (xs : List Int) (a b : Int) : (inside xs a b).length ≤ xs.length := List.length_filter_le _ _
theorem inside_take (xs : List Int) (a b : Int) (k : Nat) (h : k < xs.length) : inside (xs.take (k + 1)) a b = inside (xs.take k) a b ++ if a ≤ xs[k] ∧ xs[k] < b then [xs[k]] else [] := by
  unfold inside
  rw [List.take_succ_eq_append_getElem h, List.filter_append]
  by_cases hc : a ≤ xs[k] ∧ xs[k] < b <;> simp [hc]
theorem inside_inside (xs : List Int) (a b c d : Int) (h1 : a ≤ c) (h2 : d ≤ b) : inside (inside xs a b) c d = inside xs c d := by
  unfold inside
  rw [List.filter_filter]
  congr 1
  funext x
  rw [Bool.eq_iff_iff]; simp; omega

theorem RowAt.own {w : World} {base e n : Nat} {v : Value} {xs : List Int} (h : w.ownsRow base e 1 v n (ints xs)) : ∃ ao cap, v = .slice ao xs.length cap ∧ RowAt w ao (ints xs) := by
  obtain ⟨ao, cap, hv, hl, hr⟩ := own_row h
  rw [ints_length] at hl
  exact ⟨ao, cap, by rw [hv, hl], hr⟩

theorem ref_within (ao : Option Addr) (xs : List Int) (cap : Nat) (lo hi : Int) (w : World) (hx : RowAt w ao (ints xs)) (hl : xs.length * 8 ≤ 140737488355328) :
    Calls Tryd.prog 92 #[.slice ao xs.length cap, .int .i64 lo, .int .i64 hi] w fun e w' =>
      ∃ v, e = .returned v ∧ w'.ownsRow w.heap.size 3 1 v (inside xs lo hi).length (ints (inside xs lo hi)) ∧ Below w.heap.size w w' := by
  go_enter Tryd.func92, Tryd.ntmps92
  go_wp2_with fail
  go_loopw [7, 8] (fun v i' wr => ∃ i : Nat, i' = .int .i64 i ∧ i ≤ xs.length ∧ wr.ownsRow w.heap.size 3 1 v (ints (inside (xs.take i) lo hi)).length (ints (inside (xs.take i) lo hi)) ∧ Below w.heap.size w wr) (fun _ i' _ => (xs.length - intOf i').toNat)
  case atStart => exact ⟨0, rfl, by omega, by simpa [inside, ints] using World.ownsRow_nil _ _ _ _, Below.refl _ _⟩
  case round =>
    obtain ⟨i, rfl, hi', hown, hbw⟩ := hrel
    have HB := hid hbw
    by_cases hlt : i < xs.length
    · have hx' := hx.below hbw
      obtain ⟨b, off, rfl, hc⟩ := hx'.int (k := i) hlt
      have hcell := hc i hlt
      have ht := inside_take xs lo hi i hlt
      have hlen : (inside (xs.take i) lo hi).length ≤ i := by have := inside_len (xs.take i) lo hi; rw [List.length_take] at this; omega
      obtain ⟨y, hy⟩ : ∃ y, y = xs[i] := ⟨_, rfl⟩
      rw [← hy] at hcell ht
      clear hx hx' hc hy hbw
      by_cases c1 : lo ≤ y
      · by_cases c2 : y < hi
        · rw [if_pos ⟨c1, c2⟩] at ht
          have HT := hid ht
          clear ht
          have HO := hid hown
          clear hown
          go_wp2_with (first
            | (at_builtin; refine wp_append1 w.heap.size rfl (.tmp 29) (.tmp 34) 38 3 (.int .i64 0) 8 rfl Tryd.underlying38 info_int rfl (by omega) _ _ (.int .i64 y) rfl rfl rfl HO.out (HB.out.size) (by rw [ints_length]; omega) ?_; intro v1 w1 hown1 hb1))
          have H1 := hid hown1
          have H2 := hid hb1
          clear hown1 hb1
          go_wp2_with fail
          go_roundw
          case rel => exact ⟨i + 1, by go_num, by omega, by rw [HT.out]; have h := H1.out; unfold ints at h ⊢; rw [List.map_append]; exact h, HB.out.trans H2.out⟩
          case measure => simp [intOf]; omega
        · rw [if_neg (by omega), List.append_nil] at ht
          have HT := hid ht
          clear ht
          have HO := hid hown
          clear hown
          go_wp2_with fail
          go_roundw
          case rel => exact ⟨i + 1, by go_num, by omega, by rw [HT.out]; exact HO.out, HB.out⟩
          case measure => simp [intOf]; omega
      · rw [if_neg (by omega), List.append_nil] at ht
        have HT := hid ht
        clear ht
        have HO := hid hown
        clear hown
        go_wp2_with fail
        go_roundw
        case rel => exact ⟨i + 1, by go_num, by omega, by rw [HT.out]; exact HO.out, HB.out⟩
        case measure => simp [intOf]; omega
    · have HO := hid hown
      clear hx hown
      have HT : Hid (xs.take i = xs) := by unfold Hid; exact List.take_of_length_le (by omega)
      go_wp2_with fail
      go_ret
      refine ⟨_, rfl, ?_, HB.out⟩
      have h := HO.out
      rw [HT.out, ints_length] at h
      exact h

/-- How many parts of [a, b) have none of the places, the places in it being handed down. -/
def gapsN (xs : List Int) (a b : Nat) : Nat :=
  if xs.length = 0 then 1 else if _h : b - a ≤ 1 then 0 else
  gapsN (inside xs a (a + sp (b - a) : Nat)) a (a + sp (b - a)) + gapsN (inside xs (a + sp (b - a) : Nat) b) (a + sp (b - a)) b
termination_by b - a
decreasing_by
  · have := sp_lt (b - a) (by omega); omega
  · have := sp_pos (b - a); have := sp_lt (b - a) (by omega); omega
theorem gapsN_none (xs : List Int) (a b : Nat) (h : xs.length = 0) : gapsN xs a b = 1 := by rw [gapsN, if_pos h]
theorem gapsN_one (xs : List Int) (a b : Nat) (h : xs.length ≠ 0) (h2 : b - a ≤ 1) : gapsN xs a b = 0 := by rw [gapsN, if_neg h, dif_pos h2]
theorem gapsN_some (xs : List Int) (a b : Nat) (h : xs.length ≠ 0) (h2 : 2 ≤ b - a) :
    gapsN xs a b = gapsN (inside xs a (a + sp (b - a) : Nat)) a (a + sp (b - a)) + gapsN (inside xs (a + sp (b - a) : Nat) b) (a + sp (b - a)) b := by rw [gapsN, if_neg h, dif_neg (by omega)]
theorem gapsN_le (k : Nat) : ∀ (xs : List Int) (a b : Nat), b - a ≤ k → a < b → gapsN xs a b ≤ b - a := by
  induction k with
  | zero => intro xs a b hk hab; omega
  | succ k ih =>
    intro xs a b hk hab
    by_cases e : xs.length = 0
    · rw [gapsN_none xs a b e]; omega
    · by_cases hn : 2 ≤ b - a
      · rw [gapsN_some xs a b e hn]
        have hs := sp_lt (b - a) hn
        have hp := sp_pos (b - a)
        have h1 := ih (inside xs a (a + sp (b - a) : Nat)) a (a + sp (b - a)) (by omega) (by omega)
        have h2 := ih (inside xs (a + sp (b - a) : Nat) b) (a + sp (b - a)) b (by omega) (by omega)
        omega
      · rw [gapsN_one xs a b e (by omega)]; omega

theorem ref_gaps (k : Nat) : ∀ (a b : Int) (ao : Option Addr) (xs : List Int) (cap : Nat) (w : World) (_ : RowAt w ao (ints xs)) (_ : xs.length * 8 ≤ 140737488355328) (_ : b - a ≤ k) (_ : 0 ≤ a) (_ : a < b) (_ : b ≤ 4611686018427387904),
    Calls Tryd.prog 79 #[.int .i64 a, .int .i64 b, .slice ao xs.length cap] w fun e w' => e = .returned (.int .i64 (gapsN xs a.toNat b.toNat)) ∧ Below w.heap.size w w' := by
  induction k with
  | zero => intro a b ao xs cap w hx hl hk h0 h1; omega
  | succ k ih =>
    intro a b ao xs cap w hx hl hk h0 hab hb
    by_cases z : xs.length = 0
    · have H := hid (gapsN_none xs a.toNat b.toNat z)
      have z' : ((xs.length : Int) == 0) = true := by rw [z]; rfl
      clear z hx ih
      go_enter Tryd.func79, Tryd.ntmps79
      go_wp2_with fail
      go_ret
      exact ⟨ret_int (by rw [H.out]; rfl), Below.refl _ _⟩
    have z' : ((xs.length : Int) == 0) = false := beq_eq_false_iff_ne.2 (by omega)
    by_cases o : b - a = 1
    · have H := hid (gapsN_one xs a.toNat b.toNat z (by omega))
      have o' : (b - a == 1) = true := by rw [o]; rfl
      clear z o hx ih
      go_enter Tryd.func79, Tryd.ntmps79
      go_wp2_with fail
      go_ret
      exact ⟨ret_int (by rw [H.out]; rfl), Below.refl _ _⟩
    have o' : (b - a == 1) = false := beq_eq_false_iff_ne.2 o
    have h2' : 2 ≤ b.toNat - a.toNat := by omega
    have hs := sp_lt (b.toNat - a.toNat) h2'
    have hs0 := sp_pos (b.toNat - a.toNat)
    have H := hid (gapsN_some xs a.toNat b.toNat z h2')
    have esp : (b - a).toNat = b.toNat - a.toNat := by omega
    have hsplit := ref_Split (b - a) (by omega) (by omega) w
    rw [esp] at hsplit
    have HSP := hid hsplit; clear hsplit esp
    obtain ⟨s, hs'⟩ : ∃ s, s = sp (b.toNat - a.toNat) := ⟨_, rfl⟩
    rw [← hs'] at hs hs0 HSP H
    clear hs' o z
    have e1 : ((a.toNat + s : Nat) : Int) = a + s := by omega
    have e2 : ((a.toNat : Nat) : Int) = a := by omega
    have e3 : ((b.toNat : Nat) : Int) = b := by omega
    have e4 : (a + (s : Int)).toNat = a.toNat + s := by omega
    rw [e1, e2, e3] at H
    have hA := gapsN_le _ (inside xs a (a + s)) a.toNat (a.toNat + s) (Nat.le_refl _) (by omega)
    have hB := gapsN_le _ (inside xs (a + s) b) (a.toNat + s) b.toNat (Nat.le_refl _) (by omega)
    have W1 := hid (fun W (hb : Below w.heap.size w W) => ref_within ao xs cap a (a + s) W (hx.below hb) hl)
    have W2 := hid (fun W (hb : Below w.heap.size w W) => ref_within ao xs cap (a + s) b W (hx.below hb) hl)
    have hl1 := inside_len xs a (a + s)
    have hl2 := inside_len xs (a + s) b
    have I1 := hid (fun ao1 cap1 W1 hx1 => ih a (a + s) ao1 (inside xs a (a + s)) cap1 W1 hx1 (by omega) (by omega) h0 (by omega) (by omega))
    have I2 := hid (fun ao1 cap1 W1 hx1 => ih (a + s) b ao1 (inside xs (a + s) b) cap1 W1 hx1 (by omega) (by omega) (by omega) (by omega) (by omega))
    rw [e4] at I1 I2
    clear ih e1 e2 e3 e4 hx hl1 hl2
    go_enter Tryd.func79, Tryd.ntmps79
    go_wp2_with fail
    refine (HSP.out).mono ?_
    rintro e w' ⟨rfl, rfl⟩
    go_wp2_with fail
    refine (W1.out _ (Below.refl _ _)).mono ?_
    rintro e w1 ⟨v1, rfl, ho1, hb1⟩
    obtain ⟨ao1, cap1, rfl, hr1⟩ := RowAt.own ho1
    have B1 := hid hb1; clear hb1 ho1
    have R1 := hid hr1; clear hr1
    go_wp2_with fail
    refine (I1.out _ _ _ R1.out).mono ?_
    rintro e w2 ⟨rfl, hb2⟩
    have B2 := hid (Below.then' B1.out hb2); clear hb2
    go_wp2_with fail
    refine (W2.out _ B2.out).mono ?_
    rintro e w3 ⟨v3, rfl, ho3, hb3⟩
    obtain ⟨ao3, cap3, rfl, hr3⟩ := RowAt.own ho3
    have B3 := hid (Below.then' B2.out hb3); clear hb3 ho3
    have R3 := hid hr3; clear hr3
    go_wp2_with fail
    refine (I2.out _ _ _ R3.out).mono ?_
    rintro e w4 ⟨rfl, hb4⟩
    have B4 := hid (Below.then' B3.out hb4); clear hb4
    go_wp2_with fail
    go_ret
    exact ⟨ret_int (by rw [H.out]; omega), B4.out⟩
end Go.Proofs.YtcgfeeommhljgaaDoor
