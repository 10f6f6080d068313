/- The reference's walks of a part's hash, over a range and over places. -/
import Derived.Test.YtcgfeeommhljgaaDoorReck
set_option maxRecDepth 100000
namespace Go.Proofs.YtcgfeeommhljgaaDoor
open Go Go.RowKit

/-- A row that lies elsewhere than block tb. -/
def RowOff (tb : Nat) (w : World) (ao : Option Addr) (cs : List Value) : Prop :=
  cs = [] ∨ ∃ b off, ao = some ⟨b, off, none⟩ ∧ b ≠ tb ∧ ∀ i (h : i < cs.length), w.cell? ⟨b, off + i, none⟩ = some cs[i]
theorem RowOff.row {tb : Nat} {w : World} {ao : Option Addr} {cs : List Value} (h : RowOff tb w ao cs) : RowAt w ao cs := by
  rcases h with h | ⟨b, off, e, _, hc⟩
  · exact .inl h
  · exact .inr ⟨b, off, e, hc⟩
theorem RowOff.of {tb : Nat} {w : World} {ao : Option Addr} {cs : List Value} (h : RowAt w ao cs) (ht : w.heap.size ≤ tb) : RowOff tb w ao cs := by
  rcases h with h | ⟨b, off, e, hc⟩
  · exact .inl h
  · by_cases h0 : 0 < cs.length
    · have := World.block_lt_of_cell? w _ (hc 0 h0)
      exact .inr ⟨b, off, e, by simp at this; omega, hc⟩
    · exact .inl (List.eq_nil_of_length_eq_zero (by omega))
theorem RowOff.grown {tb : Nat} {w w' : World} {ao : Option Addr} {cs : List Value} (h : RowOff tb w ao cs) (hg : w.grownBy w' (some tb)) : RowOff tb w' ao cs := by
  rcases h with h | ⟨b, off, e, hb, hc⟩
  · exact .inl h
  · exact .inr ⟨b, off, e, hb, fun i hi => hg.cell (hc i hi) (by intro e; cases e; exact hb rfl)⟩
theorem RowOff.own {w : World} {base e n tb : Nat} {v : Value} {xs : List Int} (h : w.ownsRow base e 1 v n (ints xs)) (ht : tb < base) : ∃ ao cap, v = .slice ao xs.length cap ∧ RowOff tb w ao (ints xs) := by
  by_cases h0 : 0 < (ints xs).length
  · obtain ⟨g, cap, hv, hb, _, _, _, _, hc⟩ := own_form h h0
    rw [ints_length] at hv
    exact ⟨_, _, hv, .inr ⟨g, 0, rfl, by omega, fun i hi => by rw [Nat.zero_add]; exact hc i hi⟩⟩
  · obtain ⟨ao, cap, hv, hl, _⟩ := own_row h
    rw [ints_length] at hl h0
    exact ⟨ao, cap, by rw [hv, hl], .inl (List.eq_nil_of_length_eq_zero (by rw [ints_length]; omega))⟩
theorem hasB_zero (lo hi a b : Nat) : hasB lo hi a b = 0 ↔ b ≤ lo ∨ hi ≤ a := by
  unfold hasB
  split
  · simp [*]
  · rename_i h
    split <;> simp [h]

set_option maxHeartbeats 2000000 in
theorem ref_ranged (k : Int) (lo hi : Nat) (xs ys : List ByteArray) (hxs : ∀ x ∈ xs, x.size ≤ 32) (hys : ∀ y ∈ ys, y.size ≤ 32) (hl1 : xs.length ≤ 140737488355328) (hl2 : ys.length ≤ 140737488355328)
    (B tb : Nat) (t1 : tb ≠ 2) (t2 : tb ≠ 3) (N : Nat) : ∀ (a b u v : Nat), b - a ≤ N → a < b → b ≤ 4611686018427387904 → u + sideN (hasB lo hi) a b ≤ xs.length → v + leafN (hasB lo hi) a b ≤ ys.length → ∀ (w : World), RTaken B tb xs ys u v w → GlobR w →
    Calls Tryd.prog 60 #[.int .i64 k, .int .i64 a, .int .i64 b, .int .i64 lo, .int .i64 hi, .pointer (some ⟨tb, 0, none⟩)] w
      fun e w' => e = .returned (.string (reckS k (hasB lo hi) ys xs a b v u)) ∧ RTaken B tb xs ys (u + sideN (hasB lo hi) a b) (v + leafN (hasB lo hi) a b) w' ∧ w.grownBy w' (some tb) := by
  induction N with
  | zero => intro a b u v h1 h2; omega
  | succ N ih =>
    intro a b u v hN hab hb62 hu hv w ht hg
    have hz := hasB_zero lo hi a b
    have HTk := hid ht
    by_cases h0 : hasB lo hi a b = 0
    · have hL := leafN_none _ a b h0
      have hS := sideN_none _ a b h0
      have hE := reckS_none _ a b k ys xs v u h0
      rw [hS] at hu
      have HNX := hid (ref_next B tb xs ys u v (by omega) hl1 w ht)
      have hor := hz.1 h0
      rw [hL, hS, hE]
      clear ih hL hS hE ht h0 hu hv hys hxs hg hz
      generalize xs.getD u ⟨#[]⟩ = y at *
      by_cases hc : b ≤ lo
      · have hcI : (b : Int) ≤ (lo : Int) := by omega
        clear hor
        go_enter Tryd.func60, Tryd.ntmps60
        go_wp2_with fail
        refine (HNX.out).mono ?_
        rintro e w1 ⟨rfl, hT, hG⟩
        have HT := hid hT
        have HG := hid hG
        clear hT hG
        go_wp2_with fail
        go_ret
        exact ⟨rfl, HT.out, HG.out⟩
      · have hcI : ¬ (b : Int) ≤ (lo : Int) := by omega
        have hdI : (hi : Int) ≤ (a : Int) := by omega
        clear hor
        go_enter Tryd.func60, Tryd.ntmps60
        go_wp2_with fail
        refine (HNX.out).mono ?_
        rintro e w1 ⟨rfl, hT, hG⟩
        have HT := hid hT
        have HG := hid hG
        clear hT hG
        go_wp2_with fail
        go_ret
        exact ⟨rfl, HT.out, HG.out⟩
    · have hcI : ¬ (b : Int) ≤ (lo : Int) := by omega
      have hdI : ¬ (hi : Int) ≤ (a : Int) := by omega
      clear hz
      by_cases hn : b - a ≤ 1
      · have hL := leafN_one _ a b h0 hn
        have hS := sideN_one _ a b h0 hn
        have hE := reckS_one _ a b k ys xs v u h0 hn
        rw [hL] at hv
        have HNX := hid (ref_claim B tb xs ys u v (by omega) hl2 w ht)
        rw [hL, hS, hE]
        have hba : (b : Int) - (a : Int) = 1 := by omega
        clear ih hL hS hE ht h0 hu hv hys hxs hg
        generalize ys.getD v ⟨#[]⟩ = y at *
        go_enter Tryd.func60, Tryd.ntmps60
        go_wp2_with fail
        refine (HNX.out).mono ?_
        rintro e w1 ⟨rfl, hT, hG⟩
        have HT := hid hT
        have HG := hid hG
        clear hT hG
        go_wp2_with fail
        go_ret
        exact ⟨rfl, HT.out, HG.out⟩
      · have hL := leafN_some _ a b h0 (by omega)
        have hS := sideN_some _ a b h0 (by omega)
        have hE := reckS_some _ a b k ys xs v u h0 (by omega)
        have hs := sp_lt (b - a) (by omega)
        have hs0 := sp_pos (b - a)
        have hsz1 := reckS_size (hasB lo hi) a (a + sp (b - a)) k ys xs v u hys hxs
        have hsz2 := reckS_size (hasB lo hi) (a + sp (b - a)) b k ys xs (v + leafN (hasB lo hi) a (a + sp (b - a))) (u + sideN (hasB lo hi) a (a + sp (b - a))) hys hxs
        rw [hL] at hv
        rw [hS] at hu
        have I1 := hid (ih a (a + sp (b - a)) u v (by omega) (by omega) (by omega) (by omega) (by omega) w ht hg)
        have I2 := hid (ih (a + sp (b - a)) b (u + sideN (hasB lo hi) a (a + sp (b - a))) (v + leafN (hasB lo hi) a (a + sp (b - a))) (by omega) (by omega) (by omega) (by omega) (by omega))
        have hSP := ref_Split ((b : Int) - (a : Int)) (by omega) (by omega) w
        rw [show ((b : Int) - (a : Int)).toNat = b - a by omega] at hSP
        have HSP := hid hSP
        have HE := hid hE
        have HL := hid hL
        have HS := hid hS
        obtain ⟨r, hr⟩ : ∃ r, r = reckS k (hasB lo hi) ys xs a b v u := ⟨_, rfl⟩
        rw [← hr] at HE ⊢
        obtain ⟨z1, hz1⟩ : ∃ z, z = leafN (hasB lo hi) a b := ⟨_, rfl⟩
        obtain ⟨z2, hz2⟩ : ∃ z, z = sideN (hasB lo hi) a b := ⟨_, rfl⟩
        rw [← hz1] at HL ⊢
        rw [← hz2] at HS ⊢
        clear ih hL hS hE ht h0 hu hv hxs hys hSP hr hz1 hz2
        generalize sp (b - a) = s at *
        generalize reckS k (hasB lo hi) ys xs a (a + s) v u = q1 at *
        generalize reckS k (hasB lo hi) ys xs (a + s) b (v + leafN (hasB lo hi) a (a + s)) (u + sideN (hasB lo hi) a (a + s)) = q2 at *
        generalize leafN (hasB lo hi) a (a + s) = l1 at *
        generalize sideN (hasB lo hi) a (a + s) = d1 at *
        generalize leafN (hasB lo hi) (a + s) b = l2 at *
        generalize sideN (hasB lo hi) (a + s) b = d2 at *
        have HN := hid (fun (W : World) (hW : GlobR W) => ref_Node k q1 q2 (by omega) W hW)
        have HG0 := hid hg
        rw [show ((a + s : Nat) : Int) = (a : Int) + (s : Int) by omega] at I1 I2
        have hba : ¬ (b : Int) - (a : Int) = 1 := by omega
        have hbaI : ((b : Int) - (a : Int) == 1) = false := by simpa using hba
        clear hg
        go_enter Tryd.func60, Tryd.ntmps60
        go_wp2_with fail
        refine (HSP.out).mono ?_
        rintro e w' ⟨rfl, rfl⟩
        go_wp2_with fail
        refine (I1.out).mono ?_
        rintro e w1 ⟨rfl, hT1, hG1⟩
        have HT1 := hid hT1
        have HG1 := hid hG1
        clear hT1 hG1
        go_wp2_with fail
        refine (I2.out _ HT1.out (HG0.out.grown HG1.out t1 t2)).mono ?_
        rintro e w2 ⟨rfl, hT2, hG2⟩
        have HT2 := hid hT2
        have HG2 := hid (Go.Lib.grownBy_trans HG1.out hG2)
        clear hT2 hG2
        go_wp2_with fail
        refine (HN.out _ (HG0.out.grown HG2.out t1 t2)).mono ?_
        rintro e w3 ⟨rfl, hb3⟩
        have HT3 := hid (HT2.out.below hb3)
        have HG3 := hid (Go.Lib.grownBy_trans HG2.out (grown_of hb3 _))
        clear hb3
        go_wp2_with fail
        go_ret
        exact ⟨ret_str HE.out.symm, by rw [HL.out, HS.out, ← Nat.add_assoc, ← Nat.add_assoc]; exact HT3.out, HG3.out⟩

set_option maxHeartbeats 2000000 in
theorem ref_gathered (k : Int) (all : List Int) (n : Int) (hx : Rises all n) (hal : all.length * 8 ≤ 140737488355328) (xs ys : List ByteArray) (hxs : ∀ x ∈ xs, x.size ≤ 32) (hys : ∀ y ∈ ys, y.size ≤ 32) (hl1 : xs.length ≤ 140737488355328) (hl2 : ys.length ≤ 140737488355328)
    (B tb : Nat) (t1 : tb ≠ 2) (t2 : tb ≠ 3) (N : Nat) : ∀ (a b u v : Nat), b - a ≤ N → a < b → b ≤ 4611686018427387904 → u + sideN (hasA all) a b ≤ xs.length → v + leafN (hasA all) a b ≤ ys.length → ∀ (w : World) (ao : Option Addr) (cap : Nat), RTaken B tb xs ys u v w → GlobR w → RowOff tb w ao (ints (inside all a b)) →
    Calls Tryd.prog 55 #[.int .i64 k, .int .i64 a, .int .i64 b, .slice ao (inside all a b).length cap, .pointer (some ⟨tb, 0, none⟩)] w
      fun e w' => e = .returned (.string (reckS k (hasA all) ys xs a b v u)) ∧ RTaken B tb xs ys (u + sideN (hasA all) a b) (v + leafN (hasA all) a b) w' ∧ w.grownBy w' (some tb) := by
  induction N with
  | zero => intro a b u v h1 h2; omega
  | succ N ih =>
    intro a b u v hN hab hb62 hu hv w ao cap ht hg hrow
    have hz := hasA_nothing all n hx a b
    have HTk := hid ht
    by_cases h0 : hasA all a b = 0
    · have hL := leafN_none _ a b h0
      have hS := sideN_none _ a b h0
      have hE := reckS_none _ a b k ys xs v u h0
      rw [hS] at hu
      have HNX := hid (ref_next B tb xs ys u v (by omega) hl1 w ht)
      have hlen := hz.2 h0
      have hlI : (((inside all a b).length : Int) == 0) = true := by rw [hlen]; rfl
      rw [hL, hS, hE]
      clear ih hL hS hE ht h0 hu hv hys hxs hg hz hrow hlen
      generalize xs.getD u ⟨#[]⟩ = y at *
      generalize (inside all a b).length = q at *
      go_enter Tryd.func55, Tryd.ntmps55
      go_wp2_with fail
      refine (HNX.out).mono ?_
      rintro e w1 ⟨rfl, hT, hG⟩
      have HT := hid hT
      have HG := hid hG
      clear hT hG
      go_wp2_with fail
      go_ret
      exact ⟨rfl, HT.out, HG.out⟩
    · have hlI : (((inside all a b).length : Int) == 0) = false := beq_eq_false_iff_ne.2 (by have : (inside all a b).length ≠ 0 := fun h => h0 (hz.1 h); omega)
      clear hz
      by_cases hn : b - a ≤ 1
      · have hL := leafN_one _ a b h0 hn
        have hS := sideN_one _ a b h0 hn
        have hE := reckS_one _ a b k ys xs v u h0 hn
        rw [hL] at hv
        have HNX := hid (ref_claim B tb xs ys u v (by omega) hl2 w ht)
        rw [hL, hS, hE]
        have hba : ((b : Int) - (a : Int) == 1) = true := by rw [show (b : Int) - (a : Int) = 1 by omega]; rfl
        clear ih hL hS hE ht h0 hu hv hys hxs hg hrow
        generalize ys.getD v ⟨#[]⟩ = y at *
        generalize (inside all a b).length = q at *
        go_enter Tryd.func55, Tryd.ntmps55
        go_wp2_with fail
        refine (HNX.out).mono ?_
        rintro e w1 ⟨rfl, hT, hG⟩
        have HT := hid hT
        have HG := hid hG
        clear hT hG
        go_wp2_with fail
        go_ret
        exact ⟨rfl, HT.out, HG.out⟩
      · have hL := leafN_some _ a b h0 (by omega)
        have hS := sideN_some _ a b h0 (by omega)
        have hE := reckS_some _ a b k ys xs v u h0 (by omega)
        have hs := sp_lt (b - a) (by omega)
        have hs0 := sp_pos (b - a)
        have hsz1 := reckS_size (hasA all) a (a + sp (b - a)) k ys xs v u hys hxs
        have hsz2 := reckS_size (hasA all) (a + sp (b - a)) b k ys xs (v + leafN (hasA all) a (a + sp (b - a))) (u + sideN (hasA all) a (a + sp (b - a))) hys hxs
        rw [hL] at hv
        rw [hS] at hu
        have hi1 := inside_inside all a b a (a + sp (b - a) : Nat) (by omega) (by omega)
        have hi2 := inside_inside all a b (a + sp (b - a) : Nat) b (by omega) (by omega)
        have hil := inside_len all a b
        have I1 := hid (ih a (a + sp (b - a)) u v (by omega) (by omega) (by omega) (by omega) (by omega))
        have I2 := hid (ih (a + sp (b - a)) b (u + sideN (hasA all) a (a + sp (b - a))) (v + leafN (hasA all) a (a + sp (b - a))) (by omega) (by omega) (by omega) (by omega) (by omega))
        have hSP := ref_Split ((b : Int) - (a : Int)) (by omega) (by omega) w
        rw [show ((b : Int) - (a : Int)).toNat = b - a by omega] at hSP
        have HSP := hid hSP
        have HE := hid hE
        have HL := hid hL
        have HS := hid hS
        have HRow := hid hrow
        have hW1 := fun (W : World) (hW : RowAt W ao (ints (inside all a b))) => ref_within ao (inside all a b) cap a (a + sp (b - a) : Nat) W hW (by omega)
        have hW2 := fun (W : World) (hW : RowAt W ao (ints (inside all a b))) => ref_within ao (inside all a b) cap (a + sp (b - a) : Nat) b W hW (by omega)
        rw [hi1] at hW1
        rw [hi2] at hW2
        have HW1 := hid hW1
        have HW2 := hid hW2
        obtain ⟨r, hr⟩ : ∃ r, r = reckS k (hasA all) ys xs a b v u := ⟨_, rfl⟩
        rw [← hr] at HE ⊢
        obtain ⟨z1, hz1⟩ : ∃ z, z = leafN (hasA all) a b := ⟨_, rfl⟩
        obtain ⟨z2, hz2⟩ : ∃ z, z = sideN (hasA all) a b := ⟨_, rfl⟩
        rw [← hz1] at HL ⊢
        rw [← hz2] at HS ⊢
        clear ih hL hS hE h0 hu hv hxs hys hSP hr hz1 hz2 hi1 hi2 hil hrow hW1 hW2
        generalize sp (b - a) = s at *
        generalize reckS k (hasA all) ys xs a (a + s) v u = q1 at *
        generalize reckS k (hasA all) ys xs (a + s) b (v + leafN (hasA all) a (a + s)) (u + sideN (hasA all) a (a + s)) = q2 at *
        generalize leafN (hasA all) a (a + s) = l1 at *
        generalize sideN (hasA all) a (a + s) = d1 at *
        generalize leafN (hasA all) (a + s) b = l2 at *
        generalize sideN (hasA all) (a + s) b = d2 at *
        generalize inside all a b = p0 at *
        generalize inside all a (a + s : Nat) = p1 at *
        generalize inside all (a + s : Nat) b = p2 at *
        have HN := hid (fun (W : World) (hW : GlobR W) => ref_Node k q1 q2 (by omega) W hW)
        have HG0 := hid hg
        have HT0 := hid ht
        have hlt := ht.lt
        rw [show ((a + s : Nat) : Int) = (a : Int) + (s : Int) by omega] at I1 I2 HW1 HW2
        have hba : ¬ (b : Int) - (a : Int) = 1 := by omega
        have hbaI : ((b : Int) - (a : Int) == 1) = false := by simpa using hba
        clear hg ht
        go_enter Tryd.func55, Tryd.ntmps55
        go_wp2_with fail
        refine (HSP.out).mono ?_
        rintro e w' ⟨rfl, rfl⟩
        go_wp2_with fail
        refine (HW1.out _ HRow.out.row).mono ?_
        rintro e wa ⟨va, rfl, hoa, hba1⟩
        obtain ⟨aoa, capa, rfl, hra⟩ := RowOff.own hoa hlt
        have HRa := hid hra
        have HGa := hid (grown_of hba1 (some tb))
        have HTa := hid (HT0.out.below hba1)
        clear hoa hba1 hra
        go_wp2_with fail
        refine (I1.out _ _ _ HTa.out (HG0.out.grown HGa.out t1 t2) HRa.out).mono ?_
        rintro e w1 ⟨rfl, hT1, hG1⟩
        have HT1 := hid hT1
        have HG1 := hid (Go.Lib.grownBy_trans HGa.out hG1)
        have hlt1 := hT1.lt
        clear hT1 hG1
        go_wp2_with fail
        refine (HW2.out _ (HRow.out.grown HG1.out).row).mono ?_
        rintro e wb ⟨vb, rfl, hob, hbb1⟩
        obtain ⟨aob, capb, rfl, hrb⟩ := RowOff.own hob hlt1
        have HRb := hid hrb
        have HGb := hid (Go.Lib.grownBy_trans HG1.out (grown_of hbb1 (some tb)))
        have HTb := hid (HT1.out.below hbb1)
        clear hob hbb1 hrb
        go_wp2_with fail
        refine (I2.out _ _ _ HTb.out (HG0.out.grown HGb.out t1 t2) HRb.out).mono ?_
        rintro e w2 ⟨rfl, hT2, hG2⟩
        have HT2 := hid hT2
        have HG2 := hid (Go.Lib.grownBy_trans HGb.out hG2)
        clear hT2 hG2
        go_wp2_with fail
        refine (HN.out _ (HG0.out.grown HG2.out t1 t2)).mono ?_
        rintro e w3 ⟨rfl, hb3⟩
        have HT3 := hid (HT2.out.below hb3)
        have HG3 := hid (Go.Lib.grownBy_trans HG2.out (grown_of hb3 _))
        clear hb3
        go_wp2_with fail
        go_ret
        exact ⟨ret_str HE.out.symm, by rw [HL.out, HS.out, ← Nat.add_assoc, ← Nat.add_assoc]; exact HT3.out, HG3.out⟩
end Go.Proofs.YtcgfeeommhljgaaDoor
