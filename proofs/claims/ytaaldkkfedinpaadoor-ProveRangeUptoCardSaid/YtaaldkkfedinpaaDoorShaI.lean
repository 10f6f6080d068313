/- (*sha.Hash).Write where what is held is filled up, or nothing is held. -/
import Derived.Test.YtaaldkkfedinpaaDoorShaH
import Derived.Deep.RegionLaw
set_option maxRecDepth 100000
namespace Go.Proofs.YtaaldkkfedinpaaDoor
open Go Go.RowKit

theorem Arr.splice {B : Nat} {ty : TypeId} (vs : List Value) : ∀ (o : Nat) (w : World) (cs : List Value), Arr B ty cs w → o + vs.length ≤ cs.length → Arr B ty (cs.take o ++ (vs ++ cs.drop (o + vs.length))) (w.setCells B o vs) := by
  induction vs with
  | nil => intro o w cs h hn; simpa [World.setCells] using h
  | cons v r ih =>
    intro o w cs h hn
    simp at hn
    have := ih (o + 1) _ _ (h.set o v) (by simp; omega)
    rw [World.setCells]
    have e : List.take (o + 1) (cs.set o v) ++ (r ++ List.drop (o + 1 + r.length) (cs.set o v)) = cs.take o ++ (v :: r ++ cs.drop (o + (v :: r).length)) := by
      rw [List.take_succ_eq_append_getElem (by simp; omega), List.take_set_of_le (by omega), List.drop_set_of_lt (by omega)]
      simp; omega
    rw [e] at this
    exact this
/-- Block b is a hash of this state, with these bytes in its room, that has taken n. -/
def HashAt (b : Nat) (s : S8) (rest : List UInt8) (n : Nat) (w : World) : Prop := rest.length = 64 ∧ Arr b 200 (s.cells ++ (bytesV rest ++ [.int .i64 n])) w
theorem HashAt.n {b : Nat} {s : S8} {rest : List UInt8} {n : Nat} {w : World} (h : HashAt b s rest n w) : w.cell? ⟨b, 72, none⟩ = some (.int .i64 n) := by
  have hr : (bytesV rest).length = 64 := by rw [bytesV_length]; exact h.1
  have := h.2.cell 72 (by simp [cells_length, hr])
  rw [List.getElem_append_right (by simp [cells_length]), List.getElem_append_right (by simp [cells_length, hr])] at this
  simpa using this

theorem sha_held (b : Nat) (s : S8) (rest : List UInt8) (n : Nat) (w : World) (h : HashAt b s rest n w) :
    Calls Tryd.prog 157 #[.pointer (some ⟨b, 0, none⟩)] w fun e w' => e = .returned (.int .i64 (n % 64 : Nat)) ∧ w = w' := by
  have hc := h.n
  clear h
  go_enter Tryd.func157, Tryd.ntmps157
  go_wp2_with fail
  go_ret
  exact ⟨ret_int (by omega), rfl⟩

/-- The room, where something is written at its head. -/
theorem hash_put (s : S8) (rest left : List UInt8) (x : Value) (hr : rest.length = 64) (hl : left.length ≤ 64) :
    (s.cells ++ (bytesV rest ++ [x])).take 8 ++ (bytesV left ++ (s.cells ++ (bytesV rest ++ [x])).drop (8 + (bytesV left).length)) = s.cells ++ (bytesV (left ++ rest.drop left.length) ++ [x]) := by
  have h8 : s.cells.length = 8 := rfl
  rw [List.take_append_of_le_length (by omega), List.take_of_length_le (by omega), bytesV_length, List.drop_append, h8, List.drop_of_length_le (by omega), List.nil_append,
    List.drop_append_of_le_length (by rw [bytesV_length]; omega), bytesV_append, show 8 + left.length - 8 = left.length by omega]
  simp [bytesV, List.map_drop]
theorem Arr.some {B : Nat} {ty : TypeId} {cs : List Value} {w : World} (h : Arr B ty cs w) (j : Nat) (hj : j < cs.length) : (w.cell? ⟨B, j, none⟩).isSome = true := by rw [h.cell j hj]; rfl
theorem hash_n {b : Nat} {s : S8} {rest : List UInt8} {n : Nat} {w : World} (h : HashAt b s rest n w) (m : Nat) : HashAt b s rest m (w.setCell ⟨b, 72, none⟩ (.int .i64 m)) := by
  refine ⟨h.1, ?_⟩
  have hr : (bytesV rest).length = 64 := by rw [bytesV_length]; exact h.1
  have := h.2.set 72 (.int .i64 m)
  rw [List.set_append_right _ _ (by simp [cells_length]), List.set_append_right _ _ (by simp [cells_length, hr])] at this
  simpa [cells_length, hr] using this
theorem grown_undrew {w0 w : World} {r : Option Nat} (h : w0.drew.grownBy w r) : w0.grownBy w r := ⟨h.os, h.tape, h.output, h.size, h.block⟩
theorem size_byte (w : World) : (Go.sizeOf 5).run Tryd.prog w = .ok 1 w := by kernel_rfl

theorem sha_Write0 (b : Nat) (s : S8) (hs : s.ok) (rest : List UInt8) (n : Nat) (hn : n % 64 = 0) (p : ByteArray) (hp : p.size ≤ 140737488355328) (hnp : n ≤ 140737488355328) (w : World) (h : HashAt b s rest n w) (hg : GlobP w) (h1 : b ≠ 10) (h2 : b ≠ 11) :
    Calls Tryd.prog 151 #[.pointer (some ⟨b, 0, none⟩), .string p] w fun e w' => e = .returned (.int .i64 p.size) ∧ HashAt b (runB s p.data.toList).1 ((runB s p.data.toList).2 ++ rest.drop (runB s p.data.toList).2.length) (n + p.size) w' ∧ w.grownBy w' (some b) := by
  have hh := sha_held b s rest n w h
  rw [hn] at hh
  have HH := hid hh
  have H := hid h
  have hcn := h.n
  have HBk := hid (fun (W : World) (hA : Arr b 200 (s.cells ++ (bytesV rest ++ [.int .i64 n])) W) (hg : GlobP W) => sha_blocks b 200 s hs (bytesV rest ++ [.int .i64 n]) p hp W hA hg h1 h2)
  have HG := hid hg
  have hfz := h.2.frozen 72
  have hrl := h.1
  obtain ⟨L, hL⟩ : ∃ L, L = (runB s p.data.toList).2 := ⟨_, rfl⟩
  obtain ⟨R, hR⟩ : ∃ R, R = (runB s p.data.toList).1 := ⟨_, rfl⟩
  have hL64 : L.length ≤ 64 := by rw [hL, runB_left _ s _ (Nat.le_refl _)]; omega
  rw [← hL, ← hR] at HBk ⊢
  clear hh h hg h1 h2 hn hs hL hR
  go_enter Tryd.func151, Tryd.ntmps151
  go_wp2_with fail
  refine (HH.out).mono ?_
  rintro e w' ⟨rfl, rfl⟩
  go_wp2_with fail
  go_region_law (first
    | (refine Go.step_copy_string rfl (.tmp 40) (.tmp 46) 137 9 rfl 5 Tryd.underlying137 size_byte b 8 64 64 rfl ⟨L.toArray⟩ rfl (by rw [str_size]; exact hL64) (fun j hj => HA2.out.some (8 + j) (by rw [str_size] at hj; simp [cells_length, bytesV_length]; omega)) (fun j _ => HA2.out.frozen _) ?_)
    | (go_simp; go_at_call 159; refine Calls.mono (HBk.out _ (by first | exact H.out.2 | exact H.out.2.drew) (by first | exact HG.out | exact HG.out)) ?_; rintro e w2 ⟨rfl, hA2, hG2⟩; have HA2 := hid hA2; have HG2 := hid hG2; clear hA2 hG2))
  have hl8 : 8 + (bytesV L).length ≤ (R.cells ++ (bytesV rest ++ [Value.int .i64 n])).length := by simp [cells_length, bytesV_length]; omega
  have h3 := HA2.out.splice (bytesV L) 8 _ _ hl8
  rw [hash_put R rest L _ hrl hL64] at h3
  have h3' : HashAt b R (L ++ rest.drop L.length) n (w2.setCells b 8 (bytesV L)) := ⟨by simp; omega, h3⟩
  have HG3 := hid (Go.Lib.grownBy_trans HG2.out (grownBy_setCells w2 b 8 (bytesV L)))
  have hc3 := h3'.n
  have hf3 := h3.frozen 72
  have H3 := hid h3'
  clear h3 h3' hl8 hcn hfz HH HBk
  change Exit.then _ _ _ _ (w2.setCells b 8 (bytesV L))
  generalize w2.setCells b 8 (bytesV L) = w3 at *
  go_wp2_with fail
  go_ret
  exact ⟨rfl, hash_n H3.out (n + p.size), grown_set (grown_undrew HG3.out) _ _⟩
end Go.Proofs.YtaaldkkfedinpaaDoor
