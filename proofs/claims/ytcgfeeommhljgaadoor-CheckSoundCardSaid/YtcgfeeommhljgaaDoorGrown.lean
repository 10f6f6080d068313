/- The old and the new hash of a part, of hashes that are taken: both sides. -/
import Derived.Test.YtcgfeeommhljgaaDoorRTaken
set_option maxRecDepth 100000
namespace Go.Proofs.YtcgfeeommhljgaaDoor
open Go Go.RowKit

/-- The old and the new hash of n leaves, m of them old; the hashes from u on are taken. -/
def grownS (k : Int) (old : ByteArray) (xs : List ByteArray) (m n : Nat) (whole : Bool) (u : Nat) : ByteArray × ByteArray :=
  if m = n then (if whole then (old, old) else (xs.getD u ⟨#[]⟩, xs.getD u ⟨#[]⟩)) else if _h : n ≤ 1 then (old, old) else
  if m ≤ sp n then ((grownS k old xs m (sp n) whole u).1, nodeS k (grownS k old xs m (sp n) whole u).2 (xs.getD (u + oldN m (sp n) whole) ⟨#[]⟩))
  else (nodeS k (xs.getD (u + oldN (m - sp n) (n - sp n) false) ⟨#[]⟩) (grownS k old xs (m - sp n) (n - sp n) false u).1, nodeS k (xs.getD (u + oldN (m - sp n) (n - sp n) false) ⟨#[]⟩) (grownS k old xs (m - sp n) (n - sp n) false u).2)
termination_by n
decreasing_by
  all_goals first | exact sp_lt n (by omega) | (have := sp_pos n; omega)
theorem grownS_eq (k : Int) (old : ByteArray) (xs : List ByteArray) (n : Nat) (whole : Bool) (u : Nat) : grownS k old xs n n whole u = if whole then (old, old) else (xs.getD u ⟨#[]⟩, xs.getD u ⟨#[]⟩) := by rw [grownS, if_pos rfl]
theorem grownS_left (k : Int) (old : ByteArray) (xs : List ByteArray) (m n : Nat) (whole : Bool) (u : Nat) (h : m < n) (h2 : 2 ≤ n) (hi : m ≤ sp n) :
    grownS k old xs m n whole u = ((grownS k old xs m (sp n) whole u).1, nodeS k (grownS k old xs m (sp n) whole u).2 (xs.getD (u + oldN m (sp n) whole) ⟨#[]⟩)) := by rw [grownS, if_neg (by omega), dif_neg (by omega), if_pos hi]
theorem grownS_right (k : Int) (old : ByteArray) (xs : List ByteArray) (m n : Nat) (whole : Bool) (u : Nat) (h : m < n) (h2 : 2 ≤ n) (hi : ¬ m ≤ sp n) :
    grownS k old xs m n whole u = (nodeS k (xs.getD (u + oldN (m - sp n) (n - sp n) false) ⟨#[]⟩) (grownS k old xs (m - sp n) (n - sp n) false u).1, nodeS k (xs.getD (u + oldN (m - sp n) (n - sp n) false) ⟨#[]⟩) (grownS k old xs (m - sp n) (n - sp n) false u).2) := by
  rw [grownS, if_neg (by omega), dif_neg (by omega), if_neg hi]
theorem getD_size (xs : List ByteArray) (hx : ∀ x ∈ xs, x.size ≤ 32) (u : Nat) : (xs.getD u ⟨#[]⟩).size ≤ 32 := by
  rw [List.getD_eq_getElem?_getD]
  cases h : xs[u]? with
  | none => exact (show (⟨#[]⟩ : ByteArray).size ≤ 32 by decide)
  | some x => exact hx x (List.mem_of_getElem? h)
theorem grownS_size (k : Int) (old : ByteArray) (ho : old.size ≤ 32) (xs : List ByteArray) (hx : ∀ x ∈ xs, x.size ≤ 32) (N : Nat) : ∀ (m n : Nat) (whole : Bool) (u : Nat), n ≤ N → (grownS k old xs m n whole u).1.size ≤ 32 ∧ (grownS k old xs m n whole u).2.size ≤ 32 := by
  have hw := (wid_le k).1
  induction N with
  | zero =>
    intro m n whole u h
    rw [grownS]
    split
    · split
      · exact ⟨ho, ho⟩
      · exact ⟨getD_size xs hx u, getD_size xs hx u⟩
    · rw [dif_pos (by omega)]; exact ⟨ho, ho⟩
  | succ N ih =>
    intro m n whole u h
    rw [grownS]
    split
    · split
      · exact ⟨ho, ho⟩
      · exact ⟨getD_size xs hx u, getD_size xs hx u⟩
    · split
      · exact ⟨ho, ho⟩
      · have hs := sp_lt n (by omega)
        split
        · exact ⟨(ih m (sp n) whole u (by omega)).1, by rw [nodeS_size]; exact hw⟩
        · exact ⟨by rw [nodeS_size]; exact hw, by rw [nodeS_size]; exact hw⟩

theorem check_grown (k : Int) (old : ByteArray) (ho : old.size ≤ 32) (xs : List ByteArray) (hx : ∀ x ∈ xs, x.size ≤ 32) (hl : xs.length ≤ 140737488355328) (B tb : Nat) (t1 : tb ≠ 0) (t2 : tb ≠ 1) (N : Nat) : ∀ (m n : Nat) (whole : Bool) (u : Nat), n ≤ N → 1 ≤ m → m ≤ n → n ≤ 4611686018427387904 → u + oldN m n whole ≤ xs.length →
    ∀ w : World, TakenAt B tb xs u w → GlobP w → Calls Tryd.prog 62 #[.int .i64 k, .int .i64 m, .int .i64 n, .string old, .func (.func 63) #[.pointer (some ⟨tb, 0, none⟩)] #[], .bool whole] w fun e w' => e = .returned (.tuple #[.string (grownS k old xs m n whole u).1, .string (grownS k old xs m n whole u).2]) ∧ TakenAt B tb xs (u + oldN m n whole) w' ∧ w.grownBy w' (some tb) := by
  induction N with
  | zero => intro m n whole u h0 h1; omega
  | succ N ih =>
    intro m n whole u hN hm hmn hn hu w ht hg
    by_cases hmn' : m = n
    · subst hmn'
      have hE := grownS_eq k old xs m whole u
      have hO := oldN_eq m whole
      cases whole with
      | true =>
        rw [hE, hO]
        have HT := hid ht
        clear ih hE hO hu ht hg hx
        go_enter Tryd.func62, Tryd.ntmps62
        go_wp2_with fail
        go_ret2
        exact ⟨rfl, HT.out, grownBy_refl _ _⟩
      | false =>
        rw [hO] at hu
        simp at hu
        have HNX := hid (check_next B tb xs u (by omega) hl w ht)
        rw [hE, hO]
        clear ih hE hO ht hg hx
        generalize xs.getD u ⟨#[]⟩ = x at *
        go_enter Tryd.func62, Tryd.ntmps62
        go_wp2_with fail
        refine (HNX.out).mono ?_
        rintro e w1 ⟨rfl, hT, hG⟩
        have HT := hid hT
        have HG := hid hG
        clear hT hG
        go_wp2_with fail
        go_ret2
        exact ⟨rfl, HT.out, HG.out⟩
    · have hs := sp_lt n (by omega)
      have hs0 := sp_pos n
      have hneI : ((m : Int) == (n : Int)) = false := by simp; omega
      have HSP := hid (check_split n (by omega) w)
      rw [show (n : Int).toNat = n by omega] at HSP
      by_cases hi : m ≤ sp n
      · have hE := grownS_left k old xs m n whole u (by omega) (by omega) hi
        have hO := oldN_left m n whole (by omega) (by omega) hi
        have hsz := grownS_size k old ho xs hx N m (sp n) whole u (by omega)
        have hgs := getD_size xs hx (u + oldN m (sp n) whole)
        rw [hO] at hu
        have I := hid (ih m (sp n) whole u (by omega) hm hi (by omega) (by omega) w ht hg)
        have hux : u + oldN m (sp n) whole < xs.length := by omega
        have HNX := hid (fun (W : World) (hW : TakenAt B tb xs (u + oldN m (sp n) whole) W) => check_next B tb xs (u + oldN m (sp n) whole) (by omega) hl W hW)
        have HE := hid hE
        have HO := hid hO
        obtain ⟨r, hr⟩ : ∃ r, r = grownS k old xs m n whole u := ⟨_, rfl⟩
        rw [← hr] at HE ⊢
        obtain ⟨z, hz⟩ : ∃ z, z = oldN m n whole := ⟨_, rfl⟩
        rw [← hz] at HO ⊢
        clear hr hz
        generalize grownS k old xs m (sp n) whole u = p at *
        obtain ⟨q1, q2⟩ := p
        generalize oldN m (sp n) whole = d at *
        generalize xs.getD (u + d) ⟨#[]⟩ = x at *
        generalize sp n = s at *
        simp only at I hsz HE
        have HN := hid (fun (W : World) (hW : GlobP W) => tree_Node k q2 x (by omega) W hW)
        have HG := hid hg
        clear ih ht hg hx hE hO hsz hgs
        go_enter Tryd.func62, Tryd.ntmps62
        go_wp2_with fail
        refine (HSP.out).mono ?_
        rintro e w' ⟨rfl, rfl⟩
        go_wp2_with fail
        refine (I.out).mono ?_
        rintro e w1 ⟨rfl, hT1, hG1⟩
        have HT1 := hid hT1
        have HG1 := hid hG1
        clear hT1 hG1
        go_wp2_with fail
        refine (HNX.out _ HT1.out).mono ?_
        rintro e w2 ⟨rfl, hT2, hG2⟩
        have HT2 := hid hT2
        have HG2 := hid (Go.Lib.grownBy_trans HG1.out hG2)
        clear hT2 hG2
        go_wp2_with fail
        refine (HN.out _ (HG.out.grown HG2.out t1 t2)).mono ?_
        rintro e w3 ⟨rfl, hb3⟩
        have HT3 := hid (HT2.out.below hb3)
        have HG3 := hid (Go.Lib.grownBy_trans HG2.out (grown_of hb3 _))
        clear hb3
        go_wp2_with fail
        go_ret2
        exact ⟨ret2 (by rw [HE.out]; rfl) (by rw [HE.out]; rfl), by rw [HO.out]; exact HT3.out, HG3.out⟩
      · have hE := grownS_right k old xs m n whole u (by omega) (by omega) hi
        have hO := oldN_right m n whole (by omega) (by omega) hi
        have hsz := grownS_size k old ho xs hx N (m - sp n) (n - sp n) false u (by omega)
        have hgs := getD_size xs hx (u + oldN (m - sp n) (n - sp n) false)
        rw [hO] at hu
        have I := hid (ih (m - sp n) (n - sp n) false u (by omega) (by omega) (by omega) (by omega) (by omega) w ht hg)
        have hux : u + oldN (m - sp n) (n - sp n) false < xs.length := by omega
        have HNX := hid (fun (W : World) (hW : TakenAt B tb xs (u + oldN (m - sp n) (n - sp n) false) W) => check_next B tb xs (u + oldN (m - sp n) (n - sp n) false) (by omega) hl W hW)
        have HE := hid hE
        have HO := hid hO
        obtain ⟨r, hr⟩ : ∃ r, r = grownS k old xs m n whole u := ⟨_, rfl⟩
        rw [← hr] at HE ⊢
        obtain ⟨z, hz⟩ : ∃ z, z = oldN m n whole := ⟨_, rfl⟩
        rw [← hz] at HO ⊢
        clear hr hz
        generalize grownS k old xs (m - sp n) (n - sp n) false u = p at *
        obtain ⟨q1, q2⟩ := p
        generalize oldN (m - sp n) (n - sp n) false = d at *
        generalize xs.getD (u + d) ⟨#[]⟩ = x at *
        generalize sp n = s at *
        simp only at I hsz HE
        rw [show ((m - s : Nat) : Int) = (m : Int) - (s : Int) by omega, show ((n - s : Nat) : Int) = (n : Int) - (s : Int) by omega] at I
        have HN := hid (fun (W : World) (hW : GlobP W) => tree_Node k x q1 (by omega) W hW)
        have HN2 := hid (fun (W : World) (hW : GlobP W) => tree_Node k x q2 (by omega) W hW)
        have HG := hid hg
        clear ih ht hg hx hE hO hsz hgs
        go_enter Tryd.func62, Tryd.ntmps62
        go_wp2_with fail
        refine (HSP.out).mono ?_
        rintro e w' ⟨rfl, rfl⟩
        go_wp2_with fail
        refine (I.out).mono ?_
        rintro e w1 ⟨rfl, hT1, hG1⟩
        have HT1 := hid hT1
        have HG1 := hid hG1
        clear hT1 hG1
        go_wp2_with fail
        refine (HNX.out _ HT1.out).mono ?_
        rintro e w2 ⟨rfl, hT2, hG2⟩
        have HT2 := hid hT2
        have HG2 := hid (Go.Lib.grownBy_trans HG1.out hG2)
        clear hT2 hG2
        go_wp2_with fail
        refine (HN.out _ (HG.out.grown HG2.out t1 t2)).mono ?_
        rintro e w3 ⟨rfl, hb3⟩
        have HT3 := hid (HT2.out.below hb3)
        have HG3 := hid (Go.Lib.grownBy_trans HG2.out (grown_of hb3 _))
        clear hb3
        go_wp2_with fail
        refine (HN2.out _ (HG.out.grown HG3.out t1 t2)).mono ?_
        rintro e w4 ⟨rfl, hb4⟩
        have HT4 := hid (HT3.out.below hb4)
        have HG4 := hid (Go.Lib.grownBy_trans HG3.out (grown_of hb4 _))
        clear hb4
        go_wp2_with fail
        go_ret2
        exact ⟨ret2 (by rw [HE.out]; rfl) (by rw [HE.out]; rfl), by rw [HO.out]; exact HT4.out, HG4.out⟩

theorem GlobR.grown {w w' : World} {b : Nat} (h : GlobR w) (hg : w.grownBy w' (some b)) (h1 : b ≠ 2) (h2 : b ≠ 3) : GlobR w' :=
  ⟨fun i hi => hg.cell (h.1 i hi) (by intro e; cases e; exact h1 rfl), fun i hi => hg.cell (h.2 i hi) (by intro e; cases e; exact h2 rfl)⟩
theorem ref_grown (k : Int) (old : ByteArray) (ho : old.size ≤ 32) (xs : List ByteArray) (hx : ∀ x ∈ xs, x.size ≤ 32) (hl : xs.length ≤ 140737488355328) (ys : List ByteArray) (v : Nat) (B tb : Nat) (t1 : tb ≠ 2) (t2 : tb ≠ 3) (N : Nat) : ∀ (m n : Nat) (whole : Bool) (u : Nat), n ≤ N → 1 ≤ m → m ≤ n → n ≤ 4611686018427387904 → u + oldN m n whole ≤ xs.length →
    ∀ w : World, RTaken B tb xs ys u v w → GlobR w → Calls Tryd.prog 65 #[.int .i64 k, .int .i64 m, .int .i64 n, .bool whole, .string old, .pointer (some ⟨tb, 0, none⟩)] w fun e w' => e = .returned (.tuple #[.string (grownS k old xs m n whole u).1, .string (grownS k old xs m n whole u).2]) ∧ RTaken B tb xs ys (u + oldN m n whole) v w' ∧ w.grownBy w' (some tb) := by
  induction N with
  | zero => intro m n whole u h0 h1; omega
  | succ N ih =>
    intro m n whole u hN hm hmn hn hu w ht hg
    by_cases hmn' : m = n
    · subst hmn'
      have hE := grownS_eq k old xs m whole u
      have hO := oldN_eq m whole
      cases whole with
      | true =>
        rw [hE, hO]
        have HT := hid ht
        clear ih hE hO hu ht hg hx
        go_enter Tryd.func65, Tryd.ntmps65
        go_wp2_with fail
        go_ret2
        exact ⟨rfl, HT.out, grownBy_refl _ _⟩
      | false =>
        rw [hO] at hu
        simp at hu
        have HNX := hid (ref_next B tb xs ys u v (by omega) hl w ht)
        rw [hE, hO]
        clear ih hE hO ht hg hx
        generalize xs.getD u ⟨#[]⟩ = x at *
        go_enter Tryd.func65, Tryd.ntmps65
        go_wp2_with fail
        refine (HNX.out).mono ?_
        rintro e w1 ⟨rfl, hT, hG⟩
        have HT := hid hT
        have HG := hid hG
        clear hT hG
        go_wp2_with fail
        go_ret2
        exact ⟨rfl, HT.out, HG.out⟩
    · have hs := sp_lt n (by omega)
      have hs0 := sp_pos n
      have hneI : ((m : Int) == (n : Int)) = false := by simp; omega
      have HSP := hid (ref_Split n (by omega) (by omega) w)
      rw [show (n : Int).toNat = n by omega] at HSP
      by_cases hi : m ≤ sp n
      · have hE := grownS_left k old xs m n whole u (by omega) (by omega) hi
        have hO := oldN_left m n whole (by omega) (by omega) hi
        have hsz := grownS_size k old ho xs hx N m (sp n) whole u (by omega)
        have hgs := getD_size xs hx (u + oldN m (sp n) whole)
        rw [hO] at hu
        have I := hid (ih m (sp n) whole u (by omega) hm hi (by omega) (by omega) w ht hg)
        have hux : u + oldN m (sp n) whole < xs.length := by omega
        have HNX := hid (fun (W : World) (hW : RTaken B tb xs ys (u + oldN m (sp n) whole) v W) => ref_next B tb xs ys (u + oldN m (sp n) whole) v (by omega) hl W hW)
        have HE := hid hE
        have HO := hid hO
        obtain ⟨r, hr⟩ : ∃ r, r = grownS k old xs m n whole u := ⟨_, rfl⟩
        rw [← hr] at HE ⊢
        obtain ⟨z, hz⟩ : ∃ z, z = oldN m n whole := ⟨_, rfl⟩
        rw [← hz] at HO ⊢
        clear hr hz
        generalize grownS k old xs m (sp n) whole u = p at *
        obtain ⟨q1, q2⟩ := p
        generalize oldN m (sp n) whole = d at *
        generalize xs.getD (u + d) ⟨#[]⟩ = x at *
        generalize sp n = s at *
        simp only at I hsz HE
        have HN := hid (fun (W : World) (hW : GlobR W) => ref_Node k q2 x (by omega) W hW)
        have HG := hid hg
        clear ih ht hg hx hE hO hsz hgs
        go_enter Tryd.func65, Tryd.ntmps65
        go_wp2_with fail
        refine (HSP.out).mono ?_
        rintro e w' ⟨rfl, rfl⟩
        go_wp2_with fail
        refine (I.out).mono ?_
        rintro e w1 ⟨rfl, hT1, hG1⟩
        have HT1 := hid hT1
        have HG1 := hid hG1
        clear hT1 hG1
        go_wp2_with fail
        refine (HNX.out _ HT1.out).mono ?_
        rintro e w2 ⟨rfl, hT2, hG2⟩
        have HT2 := hid hT2
        have HG2 := hid (Go.Lib.grownBy_trans HG1.out hG2)
        clear hT2 hG2
        go_wp2_with fail
        refine (HN.out _ (HG.out.grown HG2.out t1 t2)).mono ?_
        rintro e w3 ⟨rfl, hb3⟩
        have HT3 := hid (HT2.out.below hb3)
        have HG3 := hid (Go.Lib.grownBy_trans HG2.out (grown_of hb3 _))
        clear hb3
        go_wp2_with fail
        go_ret2
        exact ⟨ret2 (by rw [HE.out]; rfl) (by rw [HE.out]; rfl), by rw [HO.out]; exact HT3.out, HG3.out⟩
      · have hE := grownS_right k old xs m n whole u (by omega) (by omega) hi
        have hO := oldN_right m n whole (by omega) (by omega) hi
        have hsz := grownS_size k old ho xs hx N (m - sp n) (n - sp n) false u (by omega)
        have hgs := getD_size xs hx (u + oldN (m - sp n) (n - sp n) false)
        rw [hO] at hu
        have I := hid (ih (m - sp n) (n - sp n) false u (by omega) (by omega) (by omega) (by omega) (by omega) w ht hg)
        have hux : u + oldN (m - sp n) (n - sp n) false < xs.length := by omega
        have HNX := hid (fun (W : World) (hW : RTaken B tb xs ys (u + oldN (m - sp n) (n - sp n) false) v W) => ref_next B tb xs ys (u + oldN (m - sp n) (n - sp n) false) v (by omega) hl W hW)
        have HE := hid hE
        have HO := hid hO
        obtain ⟨r, hr⟩ : ∃ r, r = grownS k old xs m n whole u := ⟨_, rfl⟩
        rw [← hr] at HE ⊢
        obtain ⟨z, hz⟩ : ∃ z, z = oldN m n whole := ⟨_, rfl⟩
        rw [← hz] at HO ⊢
        clear hr hz
        generalize grownS k old xs (m - sp n) (n - sp n) false u = p at *
        obtain ⟨q1, q2⟩ := p
        generalize oldN (m - sp n) (n - sp n) false = d at *
        generalize xs.getD (u + d) ⟨#[]⟩ = x at *
        generalize sp n = s at *
        simp only at I hsz HE
        rw [show ((m - s : Nat) : Int) = (m : Int) - (s : Int) by omega, show ((n - s : Nat) : Int) = (n : Int) - (s : Int) by omega] at I
        have HN := hid (fun (W : World) (hW : GlobR W) => ref_Node k x q1 (by omega) W hW)
        have HN2 := hid (fun (W : World) (hW : GlobR W) => ref_Node k x q2 (by omega) W hW)
        have HG := hid hg
        clear ih ht hg hx hE hO hsz hgs
        go_enter Tryd.func65, Tryd.ntmps65
        go_wp2_with fail
        refine (HSP.out).mono ?_
        rintro e w' ⟨rfl, rfl⟩
        go_wp2_with fail
        refine (I.out).mono ?_
        rintro e w1 ⟨rfl, hT1, hG1⟩
        have HT1 := hid hT1
        have HG1 := hid hG1
        clear hT1 hG1
        go_wp2_with fail
        refine (HNX.out _ HT1.out).mono ?_
        rintro e w2 ⟨rfl, hT2, hG2⟩
        have HT2 := hid hT2
        have HG2 := hid (Go.Lib.grownBy_trans HG1.out hG2)
        clear hT2 hG2
        go_wp2_with fail
        refine (HN.out _ (HG.out.grown HG2.out t1 t2)).mono ?_
        rintro e w3 ⟨rfl, hb3⟩
        have HT3 := hid (HT2.out.below hb3)
        have HG3 := hid (Go.Lib.grownBy_trans HG2.out (grown_of hb3 _))
        clear hb3
        go_wp2_with fail
        refine (HN2.out _ (HG.out.grown HG3.out t1 t2)).mono ?_
        rintro e w4 ⟨rfl, hb4⟩
        have HT4 := hid (HT3.out.below hb4)
        have HG4 := hid (Go.Lib.grownBy_trans HG3.out (grown_of hb4 _))
        clear hb4
        go_wp2_with fail
        go_ret2
        exact ⟨ret2 (by rw [HE.out]; rfl) (by rw [HE.out]; rfl), by rw [HO.out]; exact HT4.out, HG4.out⟩
end Go.Proofs.YtcgfeeommhljgaaDoor
