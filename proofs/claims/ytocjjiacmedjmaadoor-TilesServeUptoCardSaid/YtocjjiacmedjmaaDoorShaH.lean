/- A hash in pieces: what is whole of a text is handed on block by block. -/
import Derived.Test.YtocjjiacmedjmaaDoorShaX
import Derived.Lib.LazyBuf
import Derived.Lib.SlBuf
set_option maxRecDepth 100000
namespace Go.Proofs.YtocjjiacmedjmaaDoor
open Go Go.RowKit

/-- A text taken block by block; what is left over. -/
def runB (s : S8) (l : List UInt8) : S8 × List UInt8 := if 64 ≤ l.length then runB (comp s (l.take 64)) (l.drop 64) else (s, l)
termination_by l.length
decreasing_by simp; omega
theorem runB_more (s : S8) (l : List UInt8) (h : 64 ≤ l.length) : runB s l = runB (comp s (l.take 64)) (l.drop 64) := by rw [runB, if_pos h]
theorem runB_less (s : S8) (l : List UInt8) (h : l.length < 64) : runB s l = (s, l) := by rw [runB, if_neg (by omega)]
theorem runB_ok (k : Nat) : ∀ (s : S8) (l : List UInt8), l.length ≤ k → s.ok → (runB s l).1.ok := by
  induction k with
  | zero => intro s l h hs; rw [runB_less s l (by omega)]; exact hs
  | succ k ih =>
    intro s l h hs
    by_cases hl : 64 ≤ l.length
    · rw [runB_more s l hl]; exact ih _ _ (by simp; omega) (comp_ok _ _)
    · rw [runB_less s l (by omega)]; exact hs
theorem runB_left (k : Nat) : ∀ (s : S8) (l : List UInt8), l.length ≤ k → (runB s l).2.length = l.length % 64 := by
  induction k with
  | zero => intro s l h; rw [runB_less s l (by omega)]; simp; omega
  | succ k ih =>
    intro s l h
    by_cases hl : 64 ≤ l.length
    · rw [runB_more s l hl, ih _ _ (by simp; omega)]; simp; omega
    · rw [runB_less s l (by omega)]; simp; omega
theorem GlobP.grown {w w' : World} {b : Nat} (h : GlobP w) (hg : w.grownBy w' (some b)) (h1 : b ≠ 6) (h2 : b ≠ 11) : GlobP w' :=
  ⟨fun i hi => hg.cell (h.1 i hi) (by intro e; cases e; exact h1 rfl), fun i hi => hg.cell (h.2 i hi) (by intro e; cases e; exact h2 rfl)⟩

/-- How long a text is. -/
def strLen : Value → Nat | .string s => s.size | _ => 0
theorem ret_str {s t : ByteArray} (h : s = t) : Ending.returned (.string s) = .returned (.string t) := by rw [h]
theorem grownBy_refl (w : World) (r : Option Nat) : w.grownBy w r := ⟨rfl, rfl, rfl, Nat.le_refl _, fun _ _ _ => rfl⟩
theorem sha_blocks (b : Nat) (ty : TypeId) (s : S8) (hs : s.ok) (tl : List Value) (t : ByteArray) (_ht : t.size ≤ 140737488355328) (w : World) (h : Arr b ty (s.cells ++ tl) w) (hg : GlobP w) (h1 : b ≠ 6) (h2 : b ≠ 11) :
    Calls Tryd.prog 134 #[.string t, .func (.func 133) #[.pointer (some ⟨b, 0, none⟩)] #[]] w fun e w' => e = .returned (.string ⟨(runB s t.data.toList).2.toArray⟩) ∧ Arr b ty ((runB s t.data.toList).1.cells ++ tl) w' ∧ w.grownBy w' (some b) := by
  have H := hid h
  have HS := hid hs
  have HG := hid hg
  have h1' := hid h1; have h2' := hid h2
  clear h hs hg h1 h2
  go_enter Tryd.func134, Tryd.ntmps134
  go_wp2_with fail
  go_loopw [0] (fun t' wr => ∃ (c : ByteArray) (s' : S8), t' = .string c ∧ runB s t.data.toList = runB s' c.data.toList ∧ c.size ≤ t.size ∧ s'.ok ∧ Arr b ty (s'.cells ++ tl) wr ∧ w.grownBy wr (some b)) (fun t' _ => strLen t')
  case atStart => exact ⟨t, s, rfl, rfl, Nat.le_refl _, HS.out, H.out, grownBy_refl _ _⟩
  case round =>
    clear H HS
    obtain ⟨c, s', rfl, he, hle, hok, hA, hG⟩ := hrel
    have HE := hid he
    have HA := hid hA
    have HGr := hid hG
    have HOK := hid hok
    clear he hA hG hok
    by_cases hc : 64 ≤ c.size
    · have hci : (64 : Int) ≤ c.size := by omega
      have HT := hid (sha_take b ty s' HOK.out tl (c.extract 0 64) (by simp; omega) wr HA.out (HG.out.grown HGr.out h1'.out h2'.out))
      go_wp2_with fail
      refine (HT.out).mono ?_
      rintro e w2 ⟨rfl, hA2, hG2⟩
      have HA2 := hid hA2; have HG2 := hid (Go.Lib.grownBy_trans HGr.out hG2)
      clear hA2 hG2 HT HA HGr
      go_wp2_with fail
      go_roundw
      case rel =>
        refine ⟨_, _, rfl, ?_, by simp <;> omega, comp_ok _ _, HA2.out, HG2.out⟩
        rw [HE.out, runB_more _ _ (by simpa using hc), extract_list, extract_list, List.drop_zero, Nat.sub_zero, List.take_of_length_le (l := List.drop 64 _) (by simp)]
      case measure => simp [strLen] <;> omega
    · have hci : ¬ (64 : Int) ≤ c.size := by omega
      have hr := hid (runB_less s' c.data.toList (by simpa using hc))
      have hsl := hid (str_list c)
      go_wp2_with fail
      go_ret
      exact ⟨ret_str (by rw [HE.out, hr.out]), by rw [HE.out, hr.out]; exact HA.out, HGr.out⟩
end Go.Proofs.YtocjjiacmedjmaaDoor
