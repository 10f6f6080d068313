/- A part's hash, of wanted leaves' hashes and the proof's: what it is, and the program's walk. -/
import Derived.Test.YtcgfeeommhljgaaDoorCountLaw
import Derived.Test.YtcgfeeommhljgaaDoorGrown
import Derived.Test.YtcgfeeommhljgaaDoorOutside
set_option maxRecDepth 100000
namespace Go.Proofs.YtcgfeeommhljgaaDoor
open Go Go.RowKit

/-- How many leaves of [a, b) are claimed; how many of its parts the proof has. -/
def leafN (h : Nat → Nat → Nat) (a b : Nat) : Nat :=
  if h a b = 0 then 0 else if _hn : b - a ≤ 1 then 1 else leafN h a (a + sp (b - a)) + leafN h (a + sp (b - a)) b
termination_by b - a
decreasing_by
  · have := sp_lt (b - a) (by omega); omega
  · have := sp_pos (b - a); have := sp_lt (b - a) (by omega); omega
def sideN (h : Nat → Nat → Nat) (a b : Nat) : Nat :=
  if h a b = 0 then 1 else if _hn : b - a ≤ 1 then 0 else sideN h a (a + sp (b - a)) + sideN h (a + sp (b - a)) b
termination_by b - a
decreasing_by
  · have := sp_lt (b - a) (by omega); omega
  · have := sp_pos (b - a); have := sp_lt (b - a) (by omega); omega
/-- The hash of the part [a, b): claimed ones from u on, the proof's from v on. -/
def reckS (k : Int) (h : Nat → Nat → Nat) (xs ys : List ByteArray) (a b u v : Nat) : ByteArray :=
  if h a b = 0 then ys.getD v ⟨#[]⟩ else if _hn : b - a ≤ 1 then xs.getD u ⟨#[]⟩ else
  nodeS k (reckS k h xs ys a (a + sp (b - a)) u v) (reckS k h xs ys (a + sp (b - a)) b (u + leafN h a (a + sp (b - a))) (v + sideN h a (a + sp (b - a))))
termination_by b - a
decreasing_by
  · have := sp_lt (b - a) (by omega); omega
  · have := sp_pos (b - a); have := sp_lt (b - a) (by omega); omega
section
variable (h : Nat → Nat → Nat) (a b : Nat)
theorem leafN_none (e : h a b = 0) : leafN h a b = 0 := by rw [leafN, if_pos e]
theorem leafN_one (e : h a b ≠ 0) (hn : b - a ≤ 1) : leafN h a b = 1 := by rw [leafN, if_neg e, dif_pos hn]
theorem leafN_some (e : h a b ≠ 0) (hn : 2 ≤ b - a) : leafN h a b = leafN h a (a + sp (b - a)) + leafN h (a + sp (b - a)) b := by rw [leafN, if_neg e, dif_neg (by omega)]
theorem sideN_none (e : h a b = 0) : sideN h a b = 1 := by rw [sideN, if_pos e]
theorem sideN_one (e : h a b ≠ 0) (hn : b - a ≤ 1) : sideN h a b = 0 := by rw [sideN, if_neg e, dif_pos hn]
theorem sideN_some (e : h a b ≠ 0) (hn : 2 ≤ b - a) : sideN h a b = sideN h a (a + sp (b - a)) + sideN h (a + sp (b - a)) b := by rw [sideN, if_neg e, dif_neg (by omega)]
variable (k : Int) (xs ys : List ByteArray) (u v : Nat)
theorem reckS_none (e : h a b = 0) : reckS k h xs ys a b u v = ys.getD v ⟨#[]⟩ := by rw [reckS, if_pos e]
theorem reckS_one (e : h a b ≠ 0) (hn : b - a ≤ 1) : reckS k h xs ys a b u v = xs.getD u ⟨#[]⟩ := by rw [reckS, if_neg e, dif_pos hn]
theorem reckS_some (e : h a b ≠ 0) (hn : 2 ≤ b - a) : reckS k h xs ys a b u v = nodeS k (reckS k h xs ys a (a + sp (b - a)) u v) (reckS k h xs ys (a + sp (b - a)) b (u + leafN h a (a + sp (b - a))) (v + sideN h a (a + sp (b - a)))) := by
  rw [reckS, if_neg e, dif_neg (by omega)]
theorem reckS_size (hx : ∀ x ∈ xs, x.size ≤ 32) (hy : ∀ y ∈ ys, y.size ≤ 32) : (reckS k h xs ys a b u v).size ≤ 32 := by
  have hw := (wid_le k).1
  rw [reckS]
  split
  · exact getD_size ys hy v
  · split
    · exact getD_size xs hx u
    · rw [nodeS_size]; exact hw
end

set_option maxHeartbeats 2000000 in
/-- The program's. -/
theorem check_reckoned (k : Int) (F : Nat) (caps : Array Value) (h : Nat → Nat → Nat) (xs ys : List ByteArray) (hxs : ∀ x ∈ xs, x.size ≤ 32) (hys : ∀ y ∈ ys, y.size ≤ 32) (hl1 : xs.length ≤ 140737488355328) (hl2 : ys.length ≤ 140737488355328)
    (B t1 t2 : Nat) (ht : t1 ≠ t2) (w0 : World) (hg : GlobP w0) (hB : w0.heap.size = B)
    (hrun : ∀ (a b : Value) (W : World), (callFunc F (#[a, b] ++ caps)).run Tryd.prog W = .ok (.enter F (#[a, b] ++ caps)) W)
    (hcl : ∀ (W : World) (_ : Below B w0 W) (a b : Int), 0 ≤ a → a < b → b ≤ 4611686018427387904 → Calls Tryd.prog F (#[.int .i64 a, .int .i64 b] ++ caps) W fun e w' => e = .returned (.int .i64 (h a.toNat b.toNat)) ∧ W = w')
    (N : Nat) : ∀ (a b u v : Nat), b - a ≤ N → a < b → b ≤ 4611686018427387904 → u + leafN h a b ≤ xs.length → v + sideN h a b ≤ ys.length → ∀ (W : World), Below B w0 W → TakenAt B t1 xs u W → TakenAt B t2 ys v W →
    Calls Tryd.prog 89 #[.int .i64 k, .int .i64 a, .int .i64 b, .func (.func F) #[] caps, .func (.func 63) #[.pointer (some ⟨t1, 0, none⟩)] #[], .func (.func 63) #[.pointer (some ⟨t2, 0, none⟩)] #[]] W
      fun e w' => e = .returned (.string (reckS k h xs ys a b u v)) ∧ TakenAt B t1 xs (u + leafN h a b) w' ∧ TakenAt B t2 ys (v + sideN h a b) w' ∧ Below B w0 w' := by
  induction N with
  | zero => intro a b u v h1 h2; omega
  | succ N ih =>
    intro a b u v hN hab hb62 hu hv W hW hT1 hT2
    have hc := hcl W hW a b (by omega) (by omega) (by omega)
    simp only [Int.toNat_natCast] at hc
    have HC := hid hc
    have HR := hrun (.int .i64 a) (.int .i64 b)
    have H1 := hid hT1
    have H2 := hid hT2
    have HW := hid hW
    have hBW := hW.size
    have hB1 := hT1.le
    have hB2 := hT2.le
    by_cases h0 : h a b = 0
    · have hL := leafN_none h a b h0
      have hS := sideN_none h a b h0
      have hE := reckS_none h a b k xs ys u v h0
      rw [hS] at hv
      have HNX := hid (check_next B t2 ys v (by omega) hl2 W hT2)
      rw [h0] at HC
      rw [hL, hS, hE]
      clear ih hrun hcl hc hL hS hE hT1 hT2 hW h0 hu hv hxs hys hg
      generalize ys.getD v ⟨#[]⟩ = y at *
      go_enter Tryd.func89, Tryd.ntmps89
      go_wp2_with fail
      refine (HC.out).mono ?_
      rintro e w' ⟨rfl, rfl⟩
      go_wp2_with fail
      refine (HNX.out).mono ?_
      rintro e w1 ⟨rfl, hT, hG⟩
      have HT := hid hT
      have HG := hid hG
      clear hT hG
      go_wp2_with fail
      go_ret
      exact ⟨rfl, H1.out.grown HG.out (fun e => ht e.symm) hB2, HT.out, below_grown HW.out (by omega) hB2 HG.out⟩
    · have hz : ((h a b : Nat) : Int) ≠ 0 := by omega
      have hzI : (((h a b : Nat) : Int) == 0) = false := by simpa using hz
      by_cases hn : b - a ≤ 1
      · have hL := leafN_one h a b h0 hn
        have hS := sideN_one h a b h0 hn
        have hE := reckS_one h a b k xs ys u v h0 hn
        rw [hL] at hu
        have HNX := hid (check_next B t1 xs u (by omega) hl1 W hT1)
        rw [hL, hS, hE]
        have hba : (b : Int) - (a : Int) = 1 := by omega
        clear ih hrun hcl hc hL hS hE hT1 hT2 hW h0 hu hv hxs hys hg hz
        generalize xs.getD u ⟨#[]⟩ = y at *
        generalize h a b = q at *
        go_enter Tryd.func89, Tryd.ntmps89
        go_wp2_with fail
        refine (HC.out).mono ?_
        rintro e w' ⟨rfl, rfl⟩
        go_wp2_with fail
        refine (HNX.out).mono ?_
        rintro e w1 ⟨rfl, hT, hG⟩
        have HT := hid hT
        have HG := hid hG
        clear hT hG
        go_wp2_with fail
        go_ret
        exact ⟨rfl, HT.out, H2.out.grown HG.out ht hB1, below_grown HW.out (by omega) hB1 HG.out⟩
      · have hL := leafN_some h a b h0 (by omega)
        have hS := sideN_some h a b h0 (by omega)
        have hE := reckS_some h a b k xs ys u v h0 (by omega)
        have hs := sp_lt (b - a) (by omega)
        have hs0 := sp_pos (b - a)
        have hsz1 := reckS_size h a (a + sp (b - a)) k xs ys u v hxs hys
        have hsz2 := reckS_size h (a + sp (b - a)) b k xs ys (u + leafN h a (a + sp (b - a))) (v + sideN h a (a + sp (b - a))) hxs hys
        rw [hL] at hu
        rw [hS] at hv
        have I1 := hid (ih a (a + sp (b - a)) u v (by omega) (by omega) (by omega) (by omega) (by omega) W hW hT1 hT2)
        have I2 := hid (ih (a + sp (b - a)) b (u + leafN h a (a + sp (b - a))) (v + sideN h a (a + sp (b - a))) (by omega) (by omega) (by omega) (by omega) (by omega))
        have hSP := check_split ((b : Int) - (a : Int)) (by omega) W
        rw [show ((b : Int) - (a : Int)).toNat = b - a by omega] at hSP
        have HSP := hid hSP
        have HE := hid hE
        have HL := hid hL
        have HS := hid hS
        obtain ⟨r, hr⟩ : ∃ r, r = reckS k h xs ys a b u v := ⟨_, rfl⟩
        rw [← hr] at HE ⊢
        obtain ⟨z1, hz1⟩ : ∃ z, z = leafN h a b := ⟨_, rfl⟩
        obtain ⟨z2, hz2⟩ : ∃ z, z = sideN h a b := ⟨_, rfl⟩
        rw [← hz1] at HL ⊢
        rw [← hz2] at HS ⊢
        clear ih hrun hcl hc hL hS hE hT1 hT2 hW h0 hu hv hxs hys hz hSP hr hz1 hz2
        generalize sp (b - a) = s at *
        generalize reckS k h xs ys a (a + s) u v = q1 at *
        generalize reckS k h xs ys (a + s) b (u + leafN h a (a + s)) (v + sideN h a (a + s)) = q2 at *
        generalize leafN h a (a + s) = l1 at *
        generalize sideN h a (a + s) = d1 at *
        generalize leafN h (a + s) b = l2 at *
        generalize sideN h (a + s) b = d2 at *
        generalize h a b = q at *
        have HN := hid (fun (W : World) (hW : GlobP W) => tree_Node k q1 q2 (by omega) W hW)
        have HG := hid hg
        rw [show ((a + s : Nat) : Int) = (a : Int) + (s : Int) by omega] at I1 I2
        have hba : ¬ (b : Int) - (a : Int) = 1 := by omega
        have hbaI : ((b : Int) - (a : Int) == 1) = false := by simpa using hba
        clear hg
        go_enter Tryd.func89, Tryd.ntmps89
        go_wp2_with fail
        refine (HC.out).mono ?_
        rintro e w' ⟨rfl, rfl⟩
        go_wp2_with fail
        refine (HSP.out).mono ?_
        rintro e w' ⟨rfl, rfl⟩
        go_wp2_with fail
        refine (I1.out).mono ?_
        rintro e w1 ⟨rfl, hTa, hTb, hBa⟩
        have HTa := hid hTa
        have HTb := hid hTb
        have HBa := hid hBa
        clear hTa hTb hBa
        go_wp2_with fail
        refine (I2.out _ HBa.out HTa.out HTb.out).mono ?_
        rintro e w2 ⟨rfl, hTc, hTd, hBb⟩
        have HTc := hid hTc
        have HTd := hid hTd
        have HBb := hid hBb
        clear hTc hTd hBb
        go_wp2_with fail
        refine (HN.out _ (HG.out.below (hB ▸ HBb.out))).mono ?_
        rintro e w3 ⟨rfl, hb3⟩
        have HT3 := hid (HTc.out.below hb3)
        have HT4 := hid (HTd.out.below hb3)
        have HB3 := hid (HBb.out.trans (hb3.mono (by have := HBb.out.size; omega)))
        clear hb3
        go_wp2_with fail
        go_ret
        exact ⟨ret_str HE.out.symm, by rw [HL.out, ← Nat.add_assoc]; exact HT3.out, by rw [HS.out, ← Nat.add_assoc]; exact HT4.out, HB3.out⟩
end Go.Proofs.YtcgfeeommhljgaaDoor
namespace Go.Proofs.YtcgfeeommhljgaaDoor

theorem sideN_zero (h : Nat → Nat → Nat) (h2 : ∀ a b c d, a ≤ c → c < d → d ≤ b → h a b = 2 → h c d = 2) (k : Nat) : ∀ a b, b - a ≤ k → a < b → h a b = 2 → sideN h a b = 0 := by
  induction k with
  | zero => intro a b hk hab; omega
  | succ k ih =>
    intro a b hk hab e
    by_cases hn : b - a ≤ 1
    · exact sideN_one h a b (by omega) hn
    · have hs := sp_lt (b - a) (by omega)
      have hp := sp_pos (b - a)
      rw [sideN_some h a b (by omega) (by omega), ih a (a + sp (b - a)) (by omega) (by omega) (h2 _ _ _ _ (by omega) (by omega) (by omega) e), ih (a + sp (b - a)) b (by omega) (by omega) (h2 _ _ _ _ (by omega) (by omega) (by omega) e)]
theorem sideN_out (h : Nat → Nat → Nat) (hz : ∀ a b, a < b → h a b = 2 → sideN h a b = 0) (h1 : ∀ a b, h a b = 1 → a < b → 2 ≤ b - a) (hc : ∀ a b, h a b = 0 ∨ h a b = 1 ∨ h a b = 2) (k : Nat) : ∀ a b, b - a ≤ k → a < b → sideN h a b = outN h a b := by
  induction k with
  | zero => intro a b hk hab; omega
  | succ k ih =>
    intro a b hk hab
    rcases hc a b with e | e | e
    · rw [sideN_none h a b e, outN_none h a b e]
    · have hn := h1 a b e hab
      have hs := sp_lt (b - a) hn
      have hp := sp_pos (b - a)
      rw [sideN_some h a b (by omega) hn, outN_some h a b (by omega) (by omega) hn, ih a (a + sp (b - a)) (by omega) (by omega), ih (a + sp (b - a)) b (by omega) (by omega)]
    · rw [hz a b hab e, outN_all h a b e]
theorem sideB (lo hi a b : Nat) (hab : a < b) : sideN (hasB lo hi) a b = outN (hasB lo hi) a b := by
  refine sideN_out (hasB lo hi) (fun a b hab e => sideN_zero (hasB lo hi) ?_ (b - a) a b (Nat.le_refl _) hab e) (hasB_ge lo hi) (hasB_cases lo hi) (b - a) a b (Nat.le_refl _) hab
  intro a b c d h1 h2 h3 e
  unfold hasB at e ⊢
  split at e
  · omega
  · split at e
    · rw [if_neg (by omega), if_pos (by omega)]
    · omega
theorem hasA_two (xs : List Int) (a b : Nat) (h : hasA xs a b = 2) : b - a = 1 := by
  unfold hasA at h
  split at h
  · omega
  · split at h <;> omega
theorem sideA (xs : List Int) (a b : Nat) (hab : a < b) : sideN (hasA xs) a b = outN (hasA xs) a b :=
  sideN_out (hasA xs) (fun a b _ e => sideN_one _ a b (by omega) (by rw [hasA_two xs a b e]; omega)) (hasA_one xs) (hasA_cases xs) (b - a) a b (Nat.le_refl _) hab
theorem leafB_k (lo hi : Nat) (k : Nat) : ∀ a b, b - a ≤ k → a < b → leafN (hasB lo hi) a b = min b hi - max a lo := by
  induction k with
  | zero => intro a b hk hab; omega
  | succ k ih =>
    intro a b hk hab
    by_cases e : hasB lo hi a b = 0
    · rw [leafN_none _ a b e]
      unfold hasB at e
      split at e
      · omega
      · split at e <;> omega
    · by_cases hn : b - a ≤ 1
      · rw [leafN_one _ a b e hn]
        unfold hasB at e
        split at e
        · omega
        · omega
      · have hs := sp_lt (b - a) (by omega)
        have hp := sp_pos (b - a)
        rw [leafN_some _ a b e (by omega), ih a (a + sp (b - a)) (by omega) (by omega), ih (a + sp (b - a)) b (by omega) (by omega)]
        omega
/-- All of the range's leaves, and no other. -/
theorem leafB (lo hi n : Nat) (h : lo < hi) (hn : hi ≤ n) : leafN (hasB lo hi) 0 n = hi - lo := by
  rw [leafB_k lo hi n 0 n (by omega) (by omega)]; omega
theorem inside_split (xs : List Int) (a c b : Int) (h1 : a ≤ c) (h2 : c ≤ b) : (inside xs a b).length = (inside xs a c).length + (inside xs c b).length := by
  induction xs with
  | nil => rfl
  | cons x xs ih =>
    unfold inside at ih ⊢
    simp only [List.filter_cons]
    by_cases p : a ≤ x ∧ x < b
    · by_cases q : x < c
      · rw [if_pos (by simpa using p), if_pos (by simpa using ⟨p.1, q⟩), if_neg (by simp; omega)]
        simp only [List.length_cons]; omega
      · rw [if_pos (by simpa using p), if_neg (by simp; omega), if_pos (by simp; omega)]
        simp only [List.length_cons]; omega
    · rw [if_neg (by simpa using p), if_neg (by simp; omega), if_neg (by simp; omega)]
      exact ih
theorem inside_one (xs : List Int) (n : Int) (hx : Rises xs n) (a : Int) : (inside xs a (a + 1)).length ≤ 1 := by
  have hp : xs.Pairwise (· < ·) := List.pairwise_iff_getElem.2 fun i j hi hj hij => hx.up i j hi hj hij
  have hq : (inside xs a (a + 1)).Pairwise (· < ·) := hp.filter _
  have hm : ∀ x ∈ inside xs a (a + 1), a ≤ x ∧ x < a + 1 := by intro x h; unfold inside at h; simpa using (List.mem_filter.1 h).2
  match hl : inside xs a (a + 1) with
  | [] => simp
  | [x] => simp
  | x :: y :: l =>
    rw [hl] at hq hm
    have h1 := hm x (by simp)
    have h2 := hm y (by simp)
    have h3 := (List.pairwise_cons.1 hq).1 y (by simp)
    omega
theorem leafA_k (xs : List Int) (n : Int) (hx : Rises xs n) (k : Nat) : ∀ a b : Nat, b - a ≤ k → a < b → leafN (hasA xs) a b = (inside xs a b).length := by
  induction k with
  | zero => intro a b hk hab; omega
  | succ k ih =>
    intro a b hk hab
    by_cases e : hasA xs a b = 0
    · rw [leafN_none _ a b e, (hasA_nothing xs n hx a b).2 e]
    · by_cases hn : b - a ≤ 1
      · rw [leafN_one _ a b e hn]
        have h1 : (inside xs a b).length ≠ 0 := fun h => e ((hasA_nothing xs n hx a b).1 h)
        have h2 := inside_one xs n hx a
        rw [show ((a : Int) + 1) = (b : Int) by omega] at h2
        omega
      · have hs := sp_lt (b - a) (by omega)
        have hp := sp_pos (b - a)
        rw [leafN_some _ a b e (by omega), ih a (a + sp (b - a)) (by omega) (by omega), ih (a + sp (b - a)) b (by omega) (by omega), ← inside_split xs a (a + sp (b - a) : Nat) b (by omega) (by omega)]
/-- All of the places, and no other. -/
theorem leafA (xs : List Int) (n : Nat) (hx : Rises xs n) (h0 : 0 < n) : leafN (hasA xs) 0 n = xs.length := by
  rw [leafA_k xs n hx n 0 n (by omega) h0]
  have := inside_all xs n hx
  rw [show ((0 : Nat) : Int) = 0 from rfl, this]
end Go.Proofs.YtcgfeeommhljgaaDoor
