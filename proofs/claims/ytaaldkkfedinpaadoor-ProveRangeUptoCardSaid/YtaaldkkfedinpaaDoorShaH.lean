/- A hash in pieces: what is whole of a text is handed on block by block. -/
import Derived.Test.YtaaldkkfedinpaaDoorShaP
import Derived.Test.YtaaldkkfedinpaaDoorShaT
import Derived.Lib.LazyBuf
import Derived.Lib.SlBuf
set_option maxRecDepth 100000
namespace Go.Proofs.YtaaldkkfedinpaaDoor
open Go Go.RowKit

/-- The bytes of the first k words. -/
def txtP (s : S8) : Nat → List UInt8
  | 0 => []
  | k + 1 => txtP s k ++ be (s.nums.getD k 0).toNat 4
def txt (s : S8) : List UInt8 := txtP s 8
theorem txtP_length (s : S8) (k : Nat) : (txtP s k).length = 4 * k := by
  induction k with
  | zero => rfl
  | succ k ih => simp [txtP, ih, be_length]; omega

theorem sha_text (b : Nat) (ty : TypeId) (s : S8) (hs : s.ok) (tl : List Value) (w : World) (h : Arr b ty (s.cells ++ tl) w) :
    Calls Tryd.prog 162 #[.pointer (some ⟨b, 0, none⟩)] w fun e w' => e = .returned (.string ⟨(txt s).toArray⟩) ∧ Below w.heap.size w w' := by
  have HA := hid h
  have HS := hid hs
  have hmk : ∀ W : World, (Instr.makeSlice 137 (.int .i64 0) (.int .i64 32)).run Tryd.prog W = .ok (.slice (some ⟨W.heap.size, 0, none⟩) 0 32) (W.alloc (.cells (Array.replicate 32 (.int .u8 0)) 5)) := fun _ => by kernel_rfl
  have Z0 := hid (World.ownsRow_made (e := 5) (base := w.heap.size) (size := 1) w (Array.replicate 32 (.int .u8 0)) 32 (Nat.le_refl _) (by unfold maxLen; omega) (by simp))
  clear h hs
  go_enter Tryd.func162, Tryd.ntmps162
  go_wp2_with fail
  trace_state
  go_loopw [3, 8] (fun b' i wr => ∃ k : Nat, k ≤ 8 ∧ i = .int .i64 k ∧ wr.ownsRow w.heap.size 5 1 b' (bytesV (txtP s k)).length (bytesV (txtP s k)) ∧ Below w.heap.size w wr) (fun _ i _ => 8 - (intOf i).toNat)
  case atStart => exact ⟨0, by omega, rfl, Z0.out, (Below.refl _ _).alloc (Nat.le_refl _) _⟩
  case round =>
    clear Z0 hmk
    obtain ⟨k, hk, rfl, hown, hbw⟩ := hrel
    have HB := hid hbw
    by_cases hlt : k < 8
    · have hc := (HA.out.below hbw).cell k (by simp [S8.cells]; omega)
      rw [List.getElem_append_left (by rw [cells_length]; exact hlt), cells_get] at hc
      have hu := S8.num_ok HS.out k
      obtain ⟨x, hx⟩ := Int.eq_ofNat_of_zero_le hu.1
      have hx2 := hu.2
      rw [hx] at hc hx2
      have HT : Hid (txtP s (k + 1) = txtP s k ++ be x 4) := by unfold Hid; show txtP s k ++ be _ 4 = _; rw [hx]; rfl
      have HP := hid (sha_put w.heap.size _ (txtP s k) x 4 (by omega) (by omega) (by rw [txtP_length]; omega) wr hown HB.out.size)
      clear hown hbw hu hx
      have i1 : (0 : Int) ≤ (k : Int) := by omega
      have i2 : (k : Int) < 8 := by omega
      go_wp2_with fail
      refine (HP.out).mono ?_
      rintro e w2 ⟨v2, rfl, hown2, hb2⟩
      rw [← HT.out] at hown2
      have HO2 := hid hown2
      have HB2 := hid (HB.out.trans hb2)
      clear hown2 hb2
      go_wp2_with fail
      go_roundw
      case rel => exact ⟨k + 1, by omega, by go_num, HO2.out, HB2.out⟩
      case measure => simp [intOf]; omega
    · obtain rfl : k = 8 := by omega
      have hconv := conv_own (dst := 9) Tryd.underlying137 Tryd.underlying5 Tryd.underlying9 hown
      clear hown hbw
      go_wp2_with fail
      go_ret
      exact ⟨rfl, HB.out⟩
end Go.Proofs.YtaaldkkfedinpaaDoor
set_option maxRecDepth 100000
namespace Go.Proofs.YtaaldkkfedinpaaDoor
open Go Go.RowKit

/-- A text taken block by block; what is left over. -/
def runB (s : S8) (l : List UInt8) : S8 × List UInt8 := if 64 ≤ l.length then runB (comp s (l.take 64)) (l.drop 64) else (s, l)
termination_by l.length
decreasing_by simp; omega
theorem runB_more (s : S8) (l : List UInt8) (h : 64 ≤ l.length) : runB s l = runB (comp s (l.take 64)) (l.drop 64) := by rw [runB, if_pos h]
theorem runB_less (s : S8) (l : List UInt8) (h : l.length < 64) : runB s l = (s, l) := by rw [runB, if_neg (by omega)]
theorem runB_ok (k : Nat) : ∀ (s : S8) (l : List UInt8), l.length ≤ k → s.ok → (runB s l).1.ok := by
  induction k with
  | zero => intro s l h hs; rw [runB_less s l (by omega)]; exact hs
  | succ k ih =>
    intro s l h hs
    by_cases hl : 64 ≤ l.length
    · rw [runB_more s l hl]; exact ih _ _ (by simp; omega) (comp_ok _ _)
    · rw [runB_less s l (by omega)]; exact hs
theorem runB_left (k : Nat) : ∀ (s : S8) (l : List UInt8), l.length ≤ k → (runB s l).2.length = l.length % 64 := by
  induction k with
  | zero => intro s l h; rw [runB_less s l (by omega)]; simp; omega
  | succ k ih =>
    intro s l h
    by_cases hl : 64 ≤ l.length
    · rw [runB_more s l hl, ih _ _ (by simp; omega)]; simp; omega
    · rw [runB_less s l (by omega)]; simp; omega
theorem GlobP.grown {w w' : World} {b : Nat} (h : GlobP w) (hg : w.grownBy w' (some b)) (h1 : b ≠ 10) (h2 : b ≠ 11) : GlobP w' :=
  ⟨fun i hi => hg.cell (h.1 i hi) (by intro e; cases e; exact h1 rfl), fun i hi => hg.cell (h.2 i hi) (by intro e; cases e; exact h2 rfl)⟩

/-- How long a text is. -/
def strLen : Value → Nat | .string s => s.size | _ => 0
theorem ret_str {s t : ByteArray} (h : s = t) : Ending.returned (.string s) = .returned (.string t) := by rw [h]
theorem grownBy_refl (w : World) (r : Option Nat) : w.grownBy w r := ⟨rfl, rfl, rfl, Nat.le_refl _, fun _ _ _ => rfl⟩
theorem sha_blocks (b : Nat) (ty : TypeId) (s : S8) (hs : s.ok) (tl : List Value) (t : ByteArray) (_ht : t.size ≤ 140737488355328) (w : World) (h : Arr b ty (s.cells ++ tl) w) (hg : GlobP w) (h1 : b ≠ 10) (h2 : b ≠ 11) :
    Calls Tryd.prog 159 #[.string t, .func (.func 158) #[.pointer (some ⟨b, 0, none⟩)] #[]] w fun e w' => e = .returned (.string ⟨(runB s t.data.toList).2.toArray⟩) ∧ Arr b ty ((runB s t.data.toList).1.cells ++ tl) w' ∧ w.grownBy w' (some b) := by
  have H := hid h
  have HS := hid hs
  have HG := hid hg
  have h1' := hid h1; have h2' := hid h2
  clear h hs hg h1 h2
  go_enter Tryd.func159, Tryd.ntmps159
  go_wp2_with fail
  go_loopw [0] (fun t' wr => ∃ (c : ByteArray) (s' : S8), t' = .string c ∧ runB s t.data.toList = runB s' c.data.toList ∧ c.size ≤ t.size ∧ s'.ok ∧ Arr b ty (s'.cells ++ tl) wr ∧ w.grownBy wr (some b)) (fun t' _ => strLen t')
  case atStart => exact ⟨t, s, rfl, rfl, Nat.le_refl _, HS.out, H.out, grownBy_refl _ _⟩
  case round =>
    clear H HS
    obtain ⟨c, s', rfl, he, hle, hok, hA, hG⟩ := hrel
    have HE := hid he
    have HA := hid hA
    have HGr := hid hG
    have HOK := hid hok
    clear he hA hG hok
    by_cases hc : 64 ≤ c.size
    · have hci : (64 : Int) ≤ c.size := by omega
      have HT := hid (sha_take b ty s' HOK.out tl (c.extract 0 64) (by simp; omega) wr HA.out (HG.out.grown HGr.out h1'.out h2'.out))
      go_wp2_with fail
      refine (HT.out).mono ?_
      rintro e w2 ⟨rfl, hA2, hG2⟩
      have HA2 := hid hA2; have HG2 := hid (Go.Lib.grownBy_trans HGr.out hG2)
      clear hA2 hG2 HT HA HGr
      go_wp2_with fail
      go_roundw
      case rel =>
        refine ⟨_, _, rfl, ?_, by simp <;> omega, comp_ok _ _, HA2.out, HG2.out⟩
        rw [HE.out, runB_more _ _ (by simpa using hc), extract_list, extract_list, List.drop_zero, Nat.sub_zero, List.take_of_length_le (l := List.drop 64 _) (by simp)]
      case measure => simp [strLen] <;> omega
    · have hci : ¬ (64 : Int) ≤ c.size := by omega
      have hr := hid (runB_less s' c.data.toList (by simpa using hc))
      have hsl := hid (str_list c)
      go_wp2_with fail
      go_ret
      exact ⟨ret_str (by rw [HE.out, hr.out]), by rw [HE.out, hr.out]; exact HA.out, HGr.out⟩
end Go.Proofs.YtaaldkkfedinpaaDoor
