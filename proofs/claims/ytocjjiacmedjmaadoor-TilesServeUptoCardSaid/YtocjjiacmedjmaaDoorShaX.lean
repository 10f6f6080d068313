/- A state as bytes. -/
import Derived.Test.YtocjjiacmedjmaaDoorShaP
import Derived.Test.YtocjjiacmedjmaaDoorShaT
set_option maxRecDepth 100000
namespace Go.Proofs.YtocjjiacmedjmaaDoor
open Go Go.RowKit

/-- The bytes of the first k words. -/
def txtP (s : S8) : Nat → List UInt8
  | 0 => []
  | k + 1 => txtP s k ++ be (s.nums.getD k 0).toNat 4
def txt (s : S8) : List UInt8 := txtP s 8
theorem txtP_length (s : S8) (k : Nat) : (txtP s k).length = 4 * k := by
  induction k with
  | zero => rfl
  | succ k ih => simp [txtP, ih, be_length]; omega

theorem sha_text (b : Nat) (ty : TypeId) (s : S8) (hs : s.ok) (tl : List Value) (w : World) (h : Arr b ty (s.cells ++ tl) w) :
    Calls Tryd.prog 137 #[.pointer (some ⟨b, 0, none⟩)] w fun e w' => e = .returned (.string ⟨(txt s).toArray⟩) ∧ Below w.heap.size w w' := by
  have HA := hid h
  have HS := hid hs
  have hmk : ∀ W : World, (Instr.makeSlice 94 (.int .i64 0) (.int .i64 32)).run Tryd.prog W = .ok (.slice (some ⟨W.heap.size, 0, none⟩) 0 32) (W.alloc (.cells (Array.replicate 32 (.int .u8 0)) 5)) := fun _ => by kernel_rfl
  have Z0 := hid (World.ownsRow_made (e := 5) (base := w.heap.size) (size := 1) w (Array.replicate 32 (.int .u8 0)) 32 (Nat.le_refl _) (by unfold maxLen; omega) (by simp))
  clear h hs
  go_enter Tryd.func137, Tryd.ntmps137
  go_wp2_with fail
  trace_state
  go_loopw [3, 8] (fun b' i wr => ∃ k : Nat, k ≤ 8 ∧ i = .int .i64 k ∧ wr.ownsRow w.heap.size 5 1 b' (bytesV (txtP s k)).length (bytesV (txtP s k)) ∧ Below w.heap.size w wr) (fun _ i _ => 8 - (intOf i).toNat)
  case atStart => exact ⟨0, by omega, rfl, Z0.out, (Below.refl _ _).alloc (Nat.le_refl _) _⟩
  case round =>
    clear Z0 hmk
    obtain ⟨k, hk, rfl, hown, hbw⟩ := hrel
    have HB := hid hbw
    by_cases hlt : k < 8
    · have hc := (HA.out.below hbw).cell k (by simp [S8.cells]; omega)
      rw [List.getElem_append_left (by rw [cells_length]; exact hlt), cells_get] at hc
      have hu := S8.num_ok HS.out k
      obtain ⟨x, hx⟩ := Int.eq_ofNat_of_zero_le hu.1
      have hx2 := hu.2
      rw [hx] at hc hx2
      have HT : Hid (txtP s (k + 1) = txtP s k ++ be x 4) := by unfold Hid; show txtP s k ++ be _ 4 = _; rw [hx]; rfl
      have HP := hid (sha_put w.heap.size _ (txtP s k) x 4 (by omega) (by omega) (by rw [txtP_length]; omega) wr hown HB.out.size)
      clear hown hbw hu hx
      have i1 : (0 : Int) ≤ (k : Int) := by omega
      have i2 : (k : Int) < 8 := by omega
      go_wp2_with fail
      refine (HP.out).mono ?_
      rintro e w2 ⟨v2, rfl, hown2, hb2⟩
      rw [← HT.out] at hown2
      have HO2 := hid hown2
      have HB2 := hid (HB.out.trans hb2)
      clear hown2 hb2
      go_wp2_with fail
      go_roundw
      case rel => exact ⟨k + 1, by omega, by go_num, HO2.out, HB2.out⟩
      case measure => simp [intOf]; omega
    · obtain rfl : k = 8 := by omega
      have hconv := conv_own (dst := 9) Tryd.underlying94 Tryd.underlying5 Tryd.underlying9 hown
      clear hown hbw
      go_wp2_with fail
      go_ret
      exact ⟨rfl, HB.out⟩
end Go.Proofs.YtocjjiacmedjmaaDoor
