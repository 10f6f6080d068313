/- The root to which a path leads, hashes that cannot be looked at: the reference's. -/
import Derived.Test.YtcgfeeommhljgaaDoorTree
import Derived.Test.YtcgfeeommhljgaaDoorShaZ
import Derived.Test.YtcgfeeommhljgaaDoorLeads
import Derived.Test.YtcgfeeommhljgaaDoorRefCount
set_option maxRecDepth 100000
namespace Go.Proofs.YtcgfeeommhljgaaDoor
open Go Go.RowKit

theorem ref_Empty (k : Int) (w : World) (hg : GlobR w) :
    Calls Tryd.prog 64 #[.int .i64 k] w fun e w' => e = .returned (.string (emptyS k)) ∧ Below w.heap.size w w' := by
  have HC := hid (ref_Cut ⟨#[]⟩ (by decide) k w hg)
  clear hg
  go_enter Tryd.func64, Tryd.ntmps64
  go_wp2_with fail
  refine (HC.out).mono ?_
  rintro e w1 ⟨rfl, hb1⟩
  go_wp2_with fail
  go_ret
  exact ⟨rfl, hb1⟩

theorem ref_Node (k : Int) (l r : ByteArray) (hlr : l.size + r.size ≤ 140737488355328 - 300) (w : World) (hg : GlobR w) :
    Calls Tryd.prog 82 #[.int .i64 k, .string l, .string r] w fun e w' => e = .returned (.string (nodeS k l r)) ∧ Below w.heap.size w w' := by
  have hcut := ref_Cut (⟨#[1]⟩ ++ l ++ r) (by rw [ByteArray.size_append, ByteArray.size_append, show (⟨#[1]⟩ : ByteArray).size = 1 from rfl]; omega) k w hg
  have e : ((⟨#[1]⟩ ++ l ++ r : ByteArray)).data.toList = 1 :: (l.data.toList ++ r.data.toList) := by simp
  rw [e] at hcut
  have HC : Hid (Calls Tryd.prog 93 #[.string (⟨#[1]⟩ ++ l ++ r), .int .i64 k] w fun e w' => e = .returned (.string (nodeS k l r)) ∧ Below w.heap.size w w') := hcut
  clear hcut e
  have h1 : l.size ≤ 140737488355328 := by omega
  have h2 : r.size ≤ 140737488355328 := by omega
  clear hg
  go_enter Tryd.func82, Tryd.ntmps82
  go_wp2_with fail
  refine (HC.out).mono ?_
  rintro e w1 ⟨rfl, hb1⟩
  go_wp2_with fail
  go_ret
  exact ⟨rfl, hb1⟩
end Go.Proofs.YtcgfeeommhljgaaDoor
set_option maxRecDepth 100000
namespace Go.Proofs.YtcgfeeommhljgaaDoor
open Go Go.RowKit

theorem cutS_wid (l : List UInt8) (k : Int) : cutS l (wid k) = cutS l k := by unfold cutS cutL; rw [wid_wid]
theorem nodeS_wid (k : Int) (l r : ByteArray) : nodeS (wid k) l r = nodeS k l r := cutS_wid _ _
theorem leadsS_wid (k : Int) (hash : ByteArray) (xs : List ByteArray) (N : Nat) : ∀ (i n m : Nat), n ≤ N → leadsS (wid k) hash xs i n m = leadsS k hash xs i n m := by
  induction N with
  | zero => intro i n m h; rw [leadsS_one _ _ _ _ _ _ (by omega), leadsS_one _ _ _ _ _ _ (by omega)]
  | succ N ih =>
    intro i n m h
    by_cases h1 : n ≤ 1
    · rw [leadsS_one _ _ _ _ _ _ h1, leadsS_one _ _ _ _ _ _ h1]
    · have hs := sp_lt n (by omega)
      have hs0 := sp_pos n
      by_cases hlt : i < sp n
      · rw [leadsS_left _ _ _ _ _ _ (by omega) hlt, leadsS_left _ _ _ _ _ _ (by omega) hlt, nodeS_wid, ih _ _ _ (by omega)]
      · rw [leadsS_right _ _ _ _ _ _ (by omega) hlt, leadsS_right _ _ _ _ _ _ (by omega) hlt, nodeS_wid, ih _ _ _ (by omega)]

theorem ref_leads (k : Int) (hash : ByteArray) (hh : hash.size ≤ 32) (xs : List ByteArray) (hx : ∀ x ∈ xs, x.size ≤ 32) (ao : Option Addr) (cap : Nat) (N : Nat) : ∀ (i n m : Nat), n ≤ N → i < n → n ≤ 4611686018427387904 → m = stepsN i n → m ≤ xs.length → m ≤ cap → ∀ (w : World), RowAt w ao (strs' xs) → GlobR w →
    Calls Tryd.prog 44 #[.int .i64 k, .int .i64 i, .int .i64 n, .string hash, .slice ao m cap] w fun e w' => e = .returned (.string (leadsS k hash xs i n m)) ∧ Below w.heap.size w w' := by
  induction N with
  | zero => intro i n m h0 h1; omega
  | succ N ih =>
    intro i n m hN hi hn hm hml hmc w hrow hg
    by_cases h1 : n ≤ 1
    · obtain rfl : n = 1 := by omega
      have HE := hid (leadsS_one k hash xs i 1 m (by omega))
      clear ih hrow hg hm
      go_enter Tryd.func44, Tryd.ntmps44
      go_wp2_with fail
      go_ret
      exact ⟨ret_str HE.out.symm, Below.refl _ _⟩
    · have hs := sp_lt n (by omega)
      have hs0 := sp_pos n
      have hne : ¬ n = 1 := by omega
      have hneI : ((n : Int) == 1) = false := by simp; omega
      by_cases hlt : i < sp n
      · have hst := stepsN_left i n (by omega) hlt
        obtain ⟨j, hj⟩ : ∃ j, j = stepsN i (sp n) := ⟨_, rfl⟩
        have hj62 := steps62 i (sp n) (by omega)
        rw [← hj] at hj62
        obtain rfl : m = j + 1 := by omega
        have HE := hid (leadsS_left k hash xs i n (j + 1) (by omega) hlt)
        obtain ⟨b, off, rfl, hc⟩ := hrow.strG (k := j) (by omega)
        have hcj := hc j (by omega)
        have hxj := hx xs[j] (List.getElem_mem _)
        have hgd : xs.getD (j + 1 - 1) ⟨#[]⟩ = xs[j] := by rw [Nat.add_sub_cancel, List.getD_eq_getElem?_getD, List.getElem?_eq_getElem (by omega)]; rfl
        rw [hgd, Nat.add_sub_cancel] at HE
        have I := hid (fun (W : World) (hW : Below w.heap.size w W) => ih i (sp n) j (by omega) hlt (by omega) hj (by omega) (by omega) W (hrow.below hW) (hg.below hW))
        have HSP := hid (ref_Split n (by omega) (by omega) w)
        rw [show (n : Int).toNat = n by omega] at HSP
        have hsz := leadsS_size k hash xs i (sp n) j hh
        obtain ⟨q, hq⟩ : ∃ q, q = leadsS k hash xs i (sp n) j := ⟨_, rfl⟩
        rw [← hq] at HE I hsz
        obtain ⟨s, hse⟩ : ∃ s, s = sp n := ⟨_, rfl⟩
        rw [← hse] at hs hs0 hlt I HSP
        obtain ⟨x, hxe⟩ : ∃ x, x = xs[j] := ⟨_, rfl⟩
        rw [← hxe] at hcj hxj HE
        have HN := hid (fun (W : World) (hW : Below w.heap.size w W) => ref_Node k q x (by omega) W (hg.below hW))
        clear hq hse hxe ih hrow hg hm hst hj hc hgd hx
        have hbl := World.block_lt_of_cell? _ _ hcj
        have R0 := hid (Below.refl w.heap.size w)
        have i1 : (0 : Int) ≤ (j : Int) := by omega
        have i2 : (j : Int) ≤ (cap : Int) := by omega
        have i3 : (j : Int) < (j : Int) + 1 := by omega
        go_enter Tryd.func44, Tryd.ntmps44
        go_wp2_with fail
        refine (HSP.out).mono ?_
        rintro e w' ⟨rfl, rfl⟩
        go_wp2_with fail
        refine (I.out _ R0.out).mono ?_
        rintro e w2 ⟨rfl, hb2⟩
        have B2 := hid hb2
        clear hb2
        go_wp2_with fail
        refine (HN.out _ B2.out).mono ?_
        rintro e w3 ⟨rfl, hb3⟩
        have B3 := hid (Below.then' B2.out hb3)
        clear hb3
        go_wp2_with fail
        go_ret
        exact ⟨ret_str HE.out.symm, B3.out⟩
      · have hst := stepsN_right i n (by omega) hlt
        obtain ⟨j, hj⟩ : ∃ j, j = stepsN (i - sp n) (n - sp n) := ⟨_, rfl⟩
        have hj62 := steps62 (i - sp n) (n - sp n) (by omega)
        rw [← hj] at hj62
        obtain rfl : m = j + 1 := by omega
        have HE := hid (leadsS_right k hash xs i n (j + 1) (by omega) hlt)
        obtain ⟨b, off, rfl, hc⟩ := hrow.strG (k := j) (by omega)
        have hcj := hc j (by omega)
        have hxj := hx xs[j] (List.getElem_mem _)
        have hgd : xs.getD (j + 1 - 1) ⟨#[]⟩ = xs[j] := by rw [Nat.add_sub_cancel, List.getD_eq_getElem?_getD, List.getElem?_eq_getElem (by omega)]; rfl
        rw [hgd, Nat.add_sub_cancel] at HE
        have I := hid (fun (W : World) (hW : Below w.heap.size w W) => ih (i - sp n) (n - sp n) j (by omega) (by omega) (by omega) hj (by omega) (by omega) W (hrow.below hW) (hg.below hW))
        have HSP := hid (ref_Split n (by omega) (by omega) w)
        rw [show (n : Int).toNat = n by omega] at HSP
        have hsz := leadsS_size k hash xs (i - sp n) (n - sp n) j hh
        obtain ⟨q, hq⟩ : ∃ q, q = leadsS k hash xs (i - sp n) (n - sp n) j := ⟨_, rfl⟩
        rw [← hq] at HE I hsz
        obtain ⟨s, hse⟩ : ∃ s, s = sp n := ⟨_, rfl⟩
        rw [← hse] at hs hs0 hlt I HSP
        rw [show ((i - s : Nat) : Int) = (i : Int) - (s : Int) by omega, show ((n - s : Nat) : Int) = (n : Int) - (s : Int) by omega] at I
        obtain ⟨x, hxe⟩ : ∃ x, x = xs[j] := ⟨_, rfl⟩
        rw [← hxe] at hcj hxj HE
        have HN := hid (fun (W : World) (hW : Below w.heap.size w W) => ref_Node k x q (by omega) W (hg.below hW))
        clear hq hse hxe ih hrow hg hm hst hj hc hgd hx
        have hbl := World.block_lt_of_cell? _ _ hcj
        have R0 := hid (Below.refl w.heap.size w)
        have i1 : (0 : Int) ≤ (j : Int) := by omega
        have i2 : (j : Int) ≤ (cap : Int) := by omega
        have i3 : (j : Int) < (j : Int) + 1 := by omega
        have w1 := i64_in' ((i : Int) - (s : Int)) (by omega)
        have w2 := i64_in' ((n : Int) - (s : Int)) (by omega)
        go_enter Tryd.func44, Tryd.ntmps44
        go_wp2_with fail
        refine (HSP.out).mono ?_
        rintro e w' ⟨rfl, rfl⟩
        go_wp2_with fail
        refine (I.out _ R0.out).mono ?_
        rintro e w2 ⟨rfl, hb2⟩
        have B2 := hid hb2
        clear hb2
        go_wp2_with fail
        refine (HN.out _ B2.out).mono ?_
        rintro e w3 ⟨rfl, hb3⟩
        have B3 := hid (Below.then' B2.out hb3)
        clear hb3
        go_wp2_with fail
        go_ret
        exact ⟨ret_str HE.out.symm, B3.out⟩

theorem ref_width (k : Int) (w : World) : Calls Tryd.prog 42 #[.int .i64 k] w fun e w' => e = .returned (.int .i64 (wid k)) ∧ w = w' := by
  by_cases h1 : k < 1
  · have hw := hid (show wid k = 32 by unfold wid; rw [if_pos (.inl h1)])
    go_enter Tryd.func42, Tryd.ntmps42
    go_wp2_with fail
    go_ret
    exact ⟨ret_int (by rw [hw.out]; rfl), rfl⟩
  · by_cases h2 : 32 < k
    · have hw := hid (show wid k = 32 by unfold wid; rw [if_pos (.inr h2)])
      go_enter Tryd.func42, Tryd.ntmps42
      go_wp2_with fail
      go_ret
      exact ⟨ret_int (by rw [hw.out]; rfl), rfl⟩
    · have hw := hid (show wid k = k.toNat by unfold wid; rw [if_neg (by omega)])
      go_enter Tryd.func42, Tryd.ntmps42
      go_wp2_with fail
      go_ret
      exact ⟨ret_int (by rw [hw.out]; omega), rfl⟩

theorem ref_sized (n : Nat) (_hn : n ≤ 32) (ao : Option Addr) (xs : List ByteArray) (cap : Nat) (hl : xs.length ≤ 140737488355328) (w : World) (h : RowAt w ao (strs' xs)) :
    Calls Tryd.prog 80 #[.int .i64 n, .slice ao xs.length cap] w fun e w' => e = .returned (.bool (decide (fits n xs))) ∧ w = w' := by
  have HR := hid h
  clear h
  go_enter Tryd.func80, Tryd.ntmps80
  go_wp2_with fail
  go_loop [5] (fun i => ∃ j : Nat, j ≤ xs.length ∧ i = .int .i64 j ∧ fits n (xs.take j)) (fun i => xs.length - (intOf i).toNat)
  case atStart => exact ⟨0, by omega, rfl, by intro x hx; simp at hx⟩
  case round =>
    obtain ⟨j, hj, rfl, hf⟩ := hrel
    have HF := hid hf
    clear hf
    by_cases hlt : j < xs.length
    · obtain ⟨b, off, rfl, hc⟩ := HR.out.strG hlt
      have hcj := hc j hlt
      obtain ⟨x, hx⟩ : ∃ x, x = xs[j] := ⟨_, rfl⟩
      rw [← hx] at hcj
      have HX := hid hx
      clear hc hx
      by_cases he : x.size = n
      · have HN := hid (fits_snoc n xs j hlt HF.out (by rw [← HX.out]; exact he))
        have heI : ((x.size : Int) != (n : Int)) = false := by simp [he]
        clear he
        go_wp2_with fail
        go_round
        case rel => exact ⟨j + 1, by omega, by go_num, HN.out⟩
        case measure => simp [intOf]; omega
      · have HN := hid (not_fits n xs j hlt (by rw [← HX.out]; exact he))
        have heI : ((x.size : Int) != (n : Int)) = true := by simp; omega
        clear he
        go_wp2_with fail
        go_ret
        exact ⟨ret_bool (by rw [decide_eq_false HN.out]), rfl⟩
    · have hfa : fits n xs := by have := HF.out; rwa [List.take_of_length_le (by omega)] at this
      have HFA := hid hfa
      clear hfa hj
      go_wp2_with fail
      go_ret
      exact ⟨ret_bool (by rw [decide_eq_true HFA.out]), rfl⟩

theorem ref_looked (k : Int) (count : Int) (a1 : Option Addr) (proof : List ByteArray) (c1 : Nat) (a2 : Option Addr) (others : List ByteArray) (c2 : Nat) (hl1 : proof.length ≤ 140737488355328) (hl2 : others.length ≤ 140737488355328) (w : World) (h1 : RowAt w a1 (strs' proof)) (h2 : RowAt w a2 (strs' others)) :
    Calls Tryd.prog 43 #[.int .i64 (wid k), .slice a2 others.length c2, .slice a1 proof.length c1, .int .i64 count] w fun e w' => e = .returned (.int .i64 (sizedN k count proof others)) ∧ w = w' := by
  have H2 := hid (ref_sized (wid k) (wid_le k).1 a2 others c2 hl2 w h2)
  have H1 := hid (ref_sized (wid k) (wid_le k).1 a1 proof c1 hl1 w h1)
  have HS : Hid (sizedN k count proof others = if ¬ (fits (wid k) others ∧ fits (wid k) proof) then 72 else if (proof.length : Int) ≠ count then 71 else 0) := by
    unfold Hid sizedN; simp only [fits_app]
  obtain ⟨s, hs⟩ : ∃ s, s = sizedN k count proof others := ⟨_, rfl⟩
  rw [← hs] at HS ⊢
  clear hs h1 h2
  obtain ⟨n, hn⟩ : ∃ n, n = wid k := ⟨_, rfl⟩
  rw [← hn] at H1 H2 HS ⊢
  clear hn
  obtain ⟨p, hp⟩ : ∃ p, p = proof.length := ⟨_, rfl⟩
  rw [← hp] at HS H1 hl1 ⊢
  clear hp
  by_cases c2' : fits n others
  · rw [decide_eq_true c2'] at H2
    by_cases c1' : fits n proof
    · rw [decide_eq_true c1'] at H1
      have HF := hid (And.intro c2' c1')
      clear c1' c2'
      by_cases he : (p : Int) = count
      · have heI : ((p : Int) != count) = false := by simp [he]
        have HE := hid he
        clear he
        go_enter Tryd.func43, Tryd.ntmps43
        go_wp2_with fail
        refine (H2.out).mono ?_
        rintro e w' ⟨rfl, rfl⟩
        go_wp2_with fail
        refine (H1.out).mono ?_
        rintro e w' ⟨rfl, rfl⟩
        go_wp2_with fail
        go_ret
        exact ⟨ret_int (by rw [HS.out, if_neg (by simpa using HF.out), if_neg (by simpa using HE.out)]), rfl⟩
      · have heI : ((p : Int) != count) = true := by simp [he]
        have HE := hid he
        clear he
        go_enter Tryd.func43, Tryd.ntmps43
        go_wp2_with fail
        refine (H2.out).mono ?_
        rintro e w' ⟨rfl, rfl⟩
        go_wp2_with fail
        refine (H1.out).mono ?_
        rintro e w' ⟨rfl, rfl⟩
        go_wp2_with fail
        go_ret
        exact ⟨ret_int (by rw [HS.out, if_neg (by simpa using HF.out), if_pos HE.out]), rfl⟩
    · rw [decide_eq_false c1'] at H1
      have HF := hid c1'
      clear c1' c2'
      go_enter Tryd.func43, Tryd.ntmps43
      go_wp2_with fail
      refine (H2.out).mono ?_
      rintro e w' ⟨rfl, rfl⟩
      go_wp2_with fail
      refine (H1.out).mono ?_
      rintro e w' ⟨rfl, rfl⟩
      go_wp2_with fail
      go_ret
      exact ⟨ret_int (by rw [HS.out, if_pos (fun h => HF.out h.2)]), rfl⟩
  · rw [decide_eq_false c2'] at H2
    have HF := hid c2'
    clear c2'
    generalize decide (fits n proof) = d at H1
    go_enter Tryd.func43, Tryd.ntmps43
    go_wp2_with fail
    refine (H2.out).mono ?_
    rintro e w' ⟨rfl, rfl⟩
    go_wp2_with fail
    refine (H1.out).mono ?_
    rintro e w' ⟨rfl, rfl⟩
    go_wp2_with fail
    go_ret
    exact ⟨ret_int (by rw [HS.out, if_pos (fun h => HF.out h.1)]), rfl⟩
end Go.Proofs.YtcgfeeommhljgaaDoor
