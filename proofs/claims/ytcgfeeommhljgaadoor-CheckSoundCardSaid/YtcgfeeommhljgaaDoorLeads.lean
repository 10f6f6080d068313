/- The root to which a path leads: the program's. -/
import Derived.Test.YtcgfeeommhljgaaDoorSized
import Derived.Test.YtcgfeeommhljgaaDoorCount
import Derived.Deep.RegionHeld3
set_option maxRecDepth 100000
namespace Go.Proofs.YtcgfeeommhljgaaDoor
open Go Go.RowKit

/-- The hash of n leaves to which the first m hashes of a path lead from leaf i. -/
def leadsS (k : Int) (hash : ByteArray) (xs : List ByteArray) (i n m : Nat) : ByteArray :=
  if h : n ≤ 1 then hash else if i < sp n then nodeS k (leadsS k hash xs i (sp n) (m - 1)) (xs.getD (m - 1) ⟨#[]⟩)
  else nodeS k (xs.getD (m - 1) ⟨#[]⟩) (leadsS k hash xs (i - sp n) (n - sp n) (m - 1))
termination_by n
decreasing_by
  · exact sp_lt n (by omega)
  · have := sp_pos n; omega
theorem leadsS_one (k : Int) (hash : ByteArray) (xs : List ByteArray) (i n m : Nat) (h : n ≤ 1) : leadsS k hash xs i n m = hash := by rw [leadsS]; simp [h]
theorem leadsS_left (k : Int) (hash : ByteArray) (xs : List ByteArray) (i n m : Nat) (h : 2 ≤ n) (hi : i < sp n) : leadsS k hash xs i n m = nodeS k (leadsS k hash xs i (sp n) (m - 1)) (xs.getD (m - 1) ⟨#[]⟩) := by
  rw [leadsS, dif_neg (by omega), if_pos hi]
theorem leadsS_right (k : Int) (hash : ByteArray) (xs : List ByteArray) (i n m : Nat) (h : 2 ≤ n) (hi : ¬ i < sp n) : leadsS k hash xs i n m = nodeS k (xs.getD (m - 1) ⟨#[]⟩) (leadsS k hash xs (i - sp n) (n - sp n) (m - 1)) := by
  rw [leadsS, dif_neg (by omega), if_neg hi]
theorem leadsS_size (k : Int) (hash : ByteArray) (xs : List ByteArray) (i n m : Nat) (hh : hash.size ≤ 32) : (leadsS k hash xs i n m).size ≤ 32 := by
  have := (wid_le k).1
  rw [leadsS]
  split
  · exact hh
  · split <;> rw [nodeS_size] <;> exact this
theorem steps62 (i n : Nat) (hn : n ≤ 4611686018427387904) : stepsN i n ≤ 62 := by
  have h1 := stepsN_le i n
  have h2 := ceil_le n 62 (by omega)
  omega

theorem check_leads (k : Int) (hash : ByteArray) (hh : hash.size ≤ 32) (xs : List ByteArray) (hx : ∀ x ∈ xs, x.size ≤ 32) (ao : Option Addr) (cap : Nat) (N : Nat) : ∀ (i n m : Nat), n ≤ N → i < n → n ≤ 4611686018427387904 → m = stepsN i n → m ≤ xs.length → m ≤ cap → ∀ (w : World), RowAt w ao (strs' xs) → GlobP w →
    Calls Tryd.prog 40 #[.int .i64 k, .int .i64 i, .int .i64 n, .string hash, .slice ao m cap] w fun e w' => e = .returned (.string (leadsS k hash xs i n m)) ∧ Below w.heap.size w w' := by
  induction N with
  | zero => intro i n m h0 h1; omega
  | succ N ih =>
    intro i n m hN hi hn hm hml hmc w hrow hg
    by_cases h1 : n ≤ 1
    · obtain rfl : n = 1 := by omega
      have HE := hid (leadsS_one k hash xs i 1 m (by omega))
      clear ih hrow hg hm
      go_enter Tryd.func40, Tryd.ntmps40
      go_wp2_with fail
      go_ret
      exact ⟨ret_str HE.out.symm, Below.refl _ _⟩
    · have hs := sp_lt n (by omega)
      have hs0 := sp_pos n
      have hne : ¬ n = 1 := by omega
      have hneI : ((n : Int) == 1) = false := by simp; omega
      by_cases hlt : i < sp n
      · have hst := stepsN_left i n (by omega) hlt
        obtain ⟨j, hj⟩ : ∃ j, j = stepsN i (sp n) := ⟨_, rfl⟩
        have hj62 := steps62 i (sp n) (by omega)
        rw [← hj] at hj62
        obtain rfl : m = j + 1 := by omega
        have HE := hid (leadsS_left k hash xs i n (j + 1) (by omega) hlt)
        obtain ⟨b, off, rfl, hc⟩ := hrow.strG (k := j) (by omega)
        have hcj := hc j (by omega)
        have hxj := hx xs[j] (List.getElem_mem _)
        have hgd : xs.getD (j + 1 - 1) ⟨#[]⟩ = xs[j] := by rw [Nat.add_sub_cancel, List.getD_eq_getElem?_getD, List.getElem?_eq_getElem (by omega)]; rfl
        rw [hgd, Nat.add_sub_cancel] at HE
        have I := hid (fun (W : World) (hW : Below w.heap.size w W) => ih i (sp n) j (by omega) hlt (by omega) hj (by omega) (by omega) W (hrow.below hW) (hg.below hW))
        have HSP := hid (check_split n (by omega) w)
        rw [show (n : Int).toNat = n by omega] at HSP
        have hsz := leadsS_size k hash xs i (sp n) j hh
        obtain ⟨q, hq⟩ : ∃ q, q = leadsS k hash xs i (sp n) j := ⟨_, rfl⟩
        rw [← hq] at HE I hsz
        obtain ⟨s, hse⟩ : ∃ s, s = sp n := ⟨_, rfl⟩
        rw [← hse] at hs hs0 hlt I HSP
        obtain ⟨x, hxe⟩ : ∃ x, x = xs[j] := ⟨_, rfl⟩
        rw [← hxe] at hcj hxj HE
        have HN := hid (fun (W : World) (hW : Below w.heap.size w W) => tree_Node k q x (by omega) W (hg.below hW))
        clear hq hse hxe ih hrow hg hm hst hj hc hgd hx
        have hbl := World.block_lt_of_cell? _ _ hcj
        have R0 := hid (Below.refl w.heap.size w)
        have i1 : (0 : Int) ≤ (j : Int) := by omega
        have i2 : (j : Int) ≤ (cap : Int) := by omega
        have i3 : (j : Int) < (j : Int) + 1 := by omega
        go_enter Tryd.func40, Tryd.ntmps40
        go_wp2_with fail
        refine (HSP.out).mono ?_
        rintro e w' ⟨rfl, rfl⟩
        go_wp2_with fail
        go_region_held3 (fun w' => w'.cell? ⟨b, off + j, none⟩ = some (.string x)) (first | go_keep | assumption)
          ((first
            | (go_at_call 40; refine Calls.mono (I.out _ (by first | exact R0.out | exact R0.out.drew)) ?_; rintro e w2 ⟨rfl, hb2⟩; have B2 := hid (Below.then' (by first | exact R0.out | exact R0.out.drew) hb2); have hc2 : w2.cell? ⟨b, off + j, none⟩ = some (.string x) := (B2.out.cell hbl).trans hcj; clear hb2)
            | (go_at_call 67; refine Calls.mono (HN.out _ B2.out) ?_; rintro e w3 ⟨rfl, hb3⟩; have B3 := hid (Below.then' B2.out hb3); have hc3 : w3.cell? ⟨b, off + j, none⟩ = some (.string x) := (B3.out.cell hbl).trans hcj; clear hb3)))
        go_wp2_with fail
        go_ret
        exact ⟨ret_str HE.out.symm, B3.out⟩
      · have hst := stepsN_right i n (by omega) hlt
        obtain ⟨j, hj⟩ : ∃ j, j = stepsN (i - sp n) (n - sp n) := ⟨_, rfl⟩
        have hj62 := steps62 (i - sp n) (n - sp n) (by omega)
        rw [← hj] at hj62
        obtain rfl : m = j + 1 := by omega
        have HE := hid (leadsS_right k hash xs i n (j + 1) (by omega) hlt)
        obtain ⟨b, off, rfl, hc⟩ := hrow.strG (k := j) (by omega)
        have hcj := hc j (by omega)
        have hxj := hx xs[j] (List.getElem_mem _)
        have hgd : xs.getD (j + 1 - 1) ⟨#[]⟩ = xs[j] := by rw [Nat.add_sub_cancel, List.getD_eq_getElem?_getD, List.getElem?_eq_getElem (by omega)]; rfl
        rw [hgd, Nat.add_sub_cancel] at HE
        have I := hid (fun (W : World) (hW : Below w.heap.size w W) => ih (i - sp n) (n - sp n) j (by omega) (by omega) (by omega) hj (by omega) (by omega) W (hrow.below hW) (hg.below hW))
        have HSP := hid (check_split n (by omega) w)
        rw [show (n : Int).toNat = n by omega] at HSP
        have hsz := leadsS_size k hash xs (i - sp n) (n - sp n) j hh
        obtain ⟨q, hq⟩ : ∃ q, q = leadsS k hash xs (i - sp n) (n - sp n) j := ⟨_, rfl⟩
        rw [← hq] at HE I hsz
        obtain ⟨s, hse⟩ : ∃ s, s = sp n := ⟨_, rfl⟩
        rw [← hse] at hs hs0 hlt I HSP
        rw [show ((i - s : Nat) : Int) = (i : Int) - (s : Int) by omega, show ((n - s : Nat) : Int) = (n : Int) - (s : Int) by omega] at I
        obtain ⟨x, hxe⟩ : ∃ x, x = xs[j] := ⟨_, rfl⟩
        rw [← hxe] at hcj hxj HE
        have HN := hid (fun (W : World) (hW : Below w.heap.size w W) => tree_Node k x q (by omega) W (hg.below hW))
        clear hq hse hxe ih hrow hg hm hst hj hc hgd hx
        have hbl := World.block_lt_of_cell? _ _ hcj
        have R0 := hid (Below.refl w.heap.size w)
        have i1 : (0 : Int) ≤ (j : Int) := by omega
        have i2 : (j : Int) ≤ (cap : Int) := by omega
        have i3 : (j : Int) < (j : Int) + 1 := by omega
        have w1 := i64_in' ((i : Int) - (s : Int)) (by omega)
        have w2 := i64_in' ((n : Int) - (s : Int)) (by omega)
        go_enter Tryd.func40, Tryd.ntmps40
        go_wp2_with fail
        refine (HSP.out).mono ?_
        rintro e w' ⟨rfl, rfl⟩
        go_wp2_with fail
        go_region_held3 (fun w' => w'.cell? ⟨b, off + j, none⟩ = some (.string x)) (first | go_keep | assumption)
          ((first
            | (go_at_call 40; refine Calls.mono (I.out _ (by first | exact R0.out | exact R0.out.drew)) ?_; rintro e w2 ⟨rfl, hb2⟩; have B2 := hid (Below.then' (by first | exact R0.out | exact R0.out.drew) hb2); have hc2 : w2.cell? ⟨b, off + j, none⟩ = some (.string x) := (B2.out.cell hbl).trans hcj; clear hb2)
            | (go_at_call 67; refine Calls.mono (HN.out _ B2.out) ?_; rintro e w3 ⟨rfl, hb3⟩; have B3 := hid (Below.then' B2.out hb3); have hc3 : w3.cell? ⟨b, off + j, none⟩ = some (.string x) := (B3.out.cell hbl).trans hcj; clear hb3)))
        go_wp2_with fail
        go_ret
        exact ⟨ret_str HE.out.symm, B3.out⟩
end Go.Proofs.YtcgfeeommhljgaaDoor
