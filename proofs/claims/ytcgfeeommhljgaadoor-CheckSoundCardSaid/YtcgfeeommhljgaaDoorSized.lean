/- Why hashes cannot be looked at: both sides. -/
import Derived.Test.YtcgfeeommhljgaaDoorConcat
import Derived.Test.YtcgfeeommhljgaaDoorTree
set_option maxRecDepth 100000
namespace Go.Proofs.YtcgfeeommhljgaaDoor
open Go Go.RowKit

theorem check_width (k : Int) (w : World) : Calls Tryd.prog 73 #[.int .i64 k] w fun e w' => e = .returned (.int .i64 (wid k)) ∧ w = w' := by
  by_cases h1 : k < 1
  · have hw := hid (show wid k = 32 by unfold wid; rw [if_pos (.inl h1)])
    go_enter Tryd.func73, Tryd.ntmps73
    go_wp2_with fail
    go_ret
    exact ⟨ret_int (by rw [hw.out]; rfl), rfl⟩
  · by_cases h2 : 32 < k
    · have hw := hid (show wid k = 32 by unfold wid; rw [if_pos (.inr h2)])
      go_enter Tryd.func73, Tryd.ntmps73
      go_wp2_with fail
      go_ret
      exact ⟨ret_int (by rw [hw.out]; rfl), rfl⟩
    · have hw := hid (show wid k = k.toNat by unfold wid; rw [if_neg (by omega)])
      go_enter Tryd.func73, Tryd.ntmps73
      go_wp2_with fail
      go_ret
      exact ⟨ret_int (by rw [hw.out]; omega), rfl⟩
theorem wid_wid (k : Int) : wid (wid k : Int) = wid k := by
  have := wid_le k
  unfold wid at this ⊢
  split <;> split <;> omega

/-- Has every hash the width? -/
def fits (n : Nat) (xs : List ByteArray) : Prop := ∀ x ∈ xs, x.size = n
instance (n : Nat) (xs : List ByteArray) : Decidable (fits n xs) := by unfold fits; infer_instance
theorem fits_app (n : Nat) (xs ys : List ByteArray) : fits n (xs ++ ys) ↔ fits n xs ∧ fits n ys := by
  unfold fits
  constructor
  · intro h; exact ⟨fun x hx => h x (by simp [hx]), fun x hx => h x (by simp [hx])⟩
  · rintro ⟨h1, h2⟩ x hx
    rcases List.mem_append.1 hx with h | h
    · exact h1 x h
    · exact h2 x h
/-- Why hashes, and a proof that wants so many, cannot be looked at. -/
def sizedN (k : Int) (count : Int) (proof others : List ByteArray) : Int :=
  if ¬ fits (wid k) (others ++ proof) then 72 else if (proof.length : Int) ≠ count then 71 else 0
theorem fits_snoc (n : Nat) (xs : List ByteArray) (i : Nat) (h : i < xs.length) (hf : fits n (xs.take i)) (hx : xs[i].size = n) : fits n (xs.take (i + 1)) := by
  rw [List.take_succ_eq_append_getElem h, fits_app]
  exact ⟨hf, by intro x hx'; simp at hx'; subst hx'; exact hx⟩
theorem not_fits (n : Nat) (xs : List ByteArray) (i : Nat) (h : i < xs.length) (hx : xs[i].size ≠ n) : ¬ fits n xs := fun hf => hx (hf _ (List.getElem_mem h))

theorem check_sized (k count : Int) (a1 : Option Addr) (proof : List ByteArray) (c1 : Nat) (a2 : Option Addr) (others : List ByteArray) (c2 : Nat) (w : World) (h1 : RowAt w a1 (strs' proof)) (n1 : a1 = none → proof.length = 0 ∧ c1 = 0)
    (h2 : RowAt w a2 (strs' others)) (n2 : a2 = none → others.length = 0 ∧ c2 = 0) (hl : (others.length + proof.length) * 16 ≤ 281474976710656) :
    Calls Tryd.prog 39 #[.int .i64 k, .int .i64 count, .slice a1 proof.length c1, .slice a2 others.length c2] w fun e w' => e = .returned (.int .i64 (sizedN k count proof others)) ∧ Below w.heap.size w w' := by
  have hB := (Below.refl w.heap.size w).alloc (Nat.le_refl _) (.cells #[.slice a2 others.length c2, .slice a1 proof.length c1] 22)
  have hpc : pcs [⟨a2, others, c2⟩, ⟨a1, proof, c1⟩] = others ++ proof := by simp [pcs]
  have hcc := slices_Concat w.heap.size [⟨a2, others, c2⟩, ⟨a1, proof, c1⟩] 2 (by simp) (by rw [hpc, List.length_append]; exact hl) (w.alloc (.cells #[.slice a2 others.length c2, .slice a1 proof.length c1] 22))
    ⟨fun j hj => by
      rw [cell_of_row _ _ j _ _ _ (heap_alloc_new w _)]
      match j, hj with
      | 0, _ => rfl
      | 1, _ => rfl,
     fun j hj => by
      match j, hj with
      | 0, _ => exact h2.below hB
      | 1, _ => exact h1.below hB,
     fun j hj => by
      match j, hj with
      | 0, _ => exact n2
      | 1, _ => exact n1⟩
  rw [hpc] at hcc
  have HC := hid hcc
  have HB := hid hB
  have HW := hid (check_width k)
  have hlen : (others ++ proof).length = others.length + proof.length := by rw [List.length_append]
  have HS : Hid (sizedN k count proof others = if ¬ fits (wid k) (others ++ proof) then 72 else if (proof.length : Int) ≠ count then 71 else 0) := rfl
  obtain ⟨s, hs⟩ : ∃ s, s = sizedN k count proof others := ⟨_, rfl⟩
  rw [← hs] at HS ⊢
  clear hcc hB hpc h1 h2 n1 n2 hs
  have hwl := (wid_le k).1
  obtain ⟨n, hn⟩ : ∃ n, n = wid k := ⟨_, rfl⟩
  rw [← hn] at HW HS hwl
  obtain ⟨p, hp⟩ : ∃ p, p = proof.length := ⟨_, rfl⟩
  rw [← hp] at HS hlen hl HC HB ⊢
  obtain ⟨xs, hxs⟩ : ∃ xs, xs = others ++ proof := ⟨_, rfl⟩
  rw [← hxs] at HC HS hlen
  have hxl : xs.length ≤ 140737488355328 := by omega
  clear hn hxs hp hlen
  go_enter Tryd.func39, Tryd.ntmps39
  go_wp2_with fail
  refine (HC.out).mono ?_
  rintro e w1 ⟨v, rfl, hown, hb1⟩
  obtain ⟨ao, cap, hv, _, hcell⟩ := own_row hown
  have hrow : RowAt w1 ao (strs' xs) := hcell
  rw [strs'_length] at hv
  subst hv
  have HR := hid hrow
  have B1 := hid (HB.out.trans (hb1.mono HB.out.size))
  clear hown hb1 hcell hrow
  go_wp2_with fail
  go_loop [16] (fun i => ∃ j : Nat, j ≤ xs.length ∧ i = .int .i64 j ∧ fits n (xs.take j)) (fun i => xs.length - (intOf i).toNat)
  case atStart => exact ⟨0, by omega, rfl, by intro x hx; simp at hx⟩
  case round =>
    obtain ⟨j, hj, rfl, hf⟩ := hrel
    have HF := hid hf
    clear hf
    by_cases hlt : j < xs.length
    · obtain ⟨b, off, rfl, hc⟩ := HR.out.strG hlt
      have hcj := hc j hlt
      obtain ⟨x, hx⟩ : ∃ x, x = xs[j] := ⟨_, rfl⟩
      rw [← hx] at hcj
      have HX := hid hx
      clear hc hx
      by_cases he : x.size = n
      · have HN := hid (fits_snoc n xs j hlt HF.out (by rw [← HX.out]; exact he))
        have heI : ((x.size : Int) != (n : Int)) = false := by simp [he]
        clear he
        go_wp2_with fail
        refine (HW.out _).mono ?_
        rintro e w' ⟨rfl, rfl⟩
        go_wp2_with fail
        go_round
        case rel => exact ⟨j + 1, by omega, by go_num, HN.out⟩
        case measure => simp [intOf]; omega
      · have HN := hid (not_fits n xs j hlt (by rw [← HX.out]; exact he))
        have heI : ((x.size : Int) != (n : Int)) = true := by simp; omega
        clear he
        go_wp2_with fail
        refine (HW.out _).mono ?_
        rintro e w' ⟨rfl, rfl⟩
        go_wp2_with fail
        go_ret
        exact ⟨ret_int (by rw [HS.out, if_pos HN.out]), B1.out⟩
    · have hfa : fits n xs := by have := HF.out; rwa [List.take_of_length_le (by omega)] at this
      have HFA := hid hfa
      clear hfa hj
      by_cases he : (p : Int) = count
      · have heI : ((p : Int) != count) = false := by simp [he]
        have HE := hid he
        clear he
        go_wp2_with fail
        go_ret
        exact ⟨ret_int (by rw [HS.out, if_neg (by simpa using HFA.out), if_neg (by simpa using HE.out)]), B1.out⟩
      · have heI : ((p : Int) != count) = true := by simp [he]
        have HE := hid he
        clear he
        go_wp2_with fail
        go_ret
        exact ⟨ret_int (by rw [HS.out, if_neg (by simpa using HFA.out), if_pos HE.out]), B1.out⟩
end Go.Proofs.YtcgfeeommhljgaaDoor
