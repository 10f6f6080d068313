/- Walks of the law's pick, begins, filled. -/
import Derived.Test.YtocjjiacmedjmaaPrefix
import Derived.Test.YtocjjiacmedjmaaProof
set_option maxRecDepth 100000
namespace Go.Proofs.Ytocjjiacmedjmaa
open Go Go.RowKit

def pickN (k n : Int) : Int := if Int.tmod k n < 0 then Int.tmod k n + n else Int.tmod k n
theorem pick_bounds (k n : Int) (h : 1 ≤ n) : 0 ≤ pickN k n ∧ pickN k n < n := by
  unfold pickN
  have h1 := Int.tmod_lt_of_pos k (b := n) (by omega)
  have h2 : -n < Int.tmod k n := by
    have := Int.tmod_lt_of_pos (-k) (b := n) (by omega)
    rw [Int.neg_tmod] at this
    omega
  split <;> omega
theorem law_pick (k n : Int) (hn : 1 ≤ n) (hm : n ≤ 9223372036854775807) (w : World) :
    Calls Try.prog 13 #[.int .i64 k, .int .i64 n] w fun e w' => e = .returned (.int .i64 (pickN k n)) ∧ w = w' := by
  have hz : n ≠ 0 := by omega
  have HP : Hid (pickN k n = if Int.tmod k n < 0 then Int.tmod k n + n else Int.tmod k n) := rfl
  have h1 := Int.tmod_lt_of_pos k (b := n) (by omega)
  have h2 : -n < Int.tmod k n := by
    have := Int.tmod_lt_of_pos (-k) (b := n) (by omega)
    rw [Int.neg_tmod] at this
    omega
  generalize pickN k n = v at *
  obtain ⟨t, ht⟩ : ∃ t, Int.tmod k n = t := ⟨_, rfl⟩
  rw [ht] at h1 h2 HP
  by_cases h3 : t < 0
  · have HV := hid (HP.out.trans (if_pos h3))
    clear HP
    go_enter Try.func13, Try.ntmps13
    go_wp2_with fail
    go_ret
    rw [HV.out]
    exact ⟨rfl, rfl⟩
  · have HV := hid (HP.out.trans (if_neg h3))
    clear HP
    go_enter Try.func13, Try.ntmps13
    go_wp2_with fail
    go_ret
    rw [HV.out]
    exact ⟨rfl, rfl⟩
theorem bytes_beq (a b : ByteArray) : (a.toList == b.toList) = decide (a = b) := by
  by_cases h : a = b
  · subst h; simp
  · rw [decide_eq_false h]
    rw [beq_eq_false_iff_ne]; intro e; exact h (ByteArray.ext (Array.toList_inj.1 (by simpa [ByteArray.toList_eq] using e)))
theorem law_begins (a b : ByteArray) (w : World) : Calls Try.prog 11 #[.string a, .string b] w fun e w' => e = .returned (.bool (beginsB a b)) ∧ w = w' := by
  by_cases h : a.size ≤ b.size
  · have h2 : beginsB a b = decide (b.extract 0 a.size = a) := if_pos h
    rw [h2]
    go_enter Try.func11, Try.ntmps11
    go_wp2_with fail
    go_ret
    refine ⟨congrArg (fun x => Ending.returned (.bool x)) (bytes_beq _ _), rfl⟩
  · have h2 : beginsB a b = false := if_neg h
    rw [h2]
    go_enter Try.func11, Try.ntmps11
    go_wp2_with fail
    go_ret
    exact ⟨rfl, rfl⟩
def strSz : Value → Nat | .string b => b.size | _ => 0
set_option maxHeartbeats 4000000 in
theorem law_filled (n wd : Nat) (ao : Option Addr) (xs : List ByteArray) (cap : Nat) (w : World) (hn : n ≤ 70000) (hw : wd ≤ 32) (hx : RowAt w ao (strs' xs)) (hxl : xs.length ≤ 4611686018427387904) (hxs : ∀ x ∈ xs, x.size ≤ 140737488351232) :
    Calls Try.prog 15 #[.int .i64 n, .int .i64 wd, .slice ao xs.length cap] w fun e w' => ∃ (hs : List ByteArray) (v : Value), e = .returned v ∧ hs.length = n ∧ (∀ x ∈ hs, x.size = wd) ∧ w'.ownsRow w.heap.size 9 1 v (strs' hs).length (strs' hs) ∧ Below w.heap.size w w' := by
  have HX := hid hx
  have HXs := hid hxs
  clear hx hxs
  go_enter Try.func15, Try.ntmps15
  go_wp2_with fail
  go_loopw [7, 8] (fun v' j' wr => ∃ ps : List ByteArray, j' = .int .i64 ps.length ∧ ps.length ≤ n ∧ (∀ x ∈ ps, x.size = wd) ∧ wr.ownsRow w.heap.size 9 1 v' (strs' ps).length (strs' ps) ∧ Below w.heap.size w wr) (fun _ j' _ => n - (intOf j').toNat)
  case atStart => exact ⟨[], rfl, by simp, by intro x hx; simp at hx, World.ownsRow_nil _ _ _ _, Below.refl _ _⟩
  case round =>
    obtain ⟨ps, rfl, hle, hf, hown, hbw⟩ := hrel
    have HF := hid hf
    have HO := hid hown
    have HB := hid hbw
    clear hf hown hbw
    by_cases hlt : ps.length < n
    · have hbytes : ((strs' ps).length + 1) * 16 ≤ 140737488355328 := by rw [strs'_length]; omega
      by_cases hx0 : xs.length = 0
      · have hx0I : ¬ (0 : Int) < (xs.length : Int) := by omega
        clear hx0
        go_wp2_with fail
        go_loopw [9] (fun s' wr2 => ∃ bs : ByteArray, s' = .string bs ∧ bs.size ≤ 140737488351264 ∧ wr2.ownsRow w.heap.size 9 1 u7 (strs' ps).length (strs' ps) ∧ Below w.heap.size w wr2) (fun s' _ => wd - strSz s')
        case atStart => exact ⟨_, rfl, by show (0 : Nat) ≤ _; omega, HO.out, HB.out⟩
        case round =>
          clear HO HB
          obtain ⟨bs, rfl, hsz, hown, hbw⟩ := hrel
          have HO := hid hown
          have HB := hid hbw
          clear hown hbw
          by_cases hl : bs.size < wd
          · have hc := conv_one (P := Try.prog) 57 9 5 Try.underlying57 Try.underlying5 Try.underlying9 ((ps.length : Int) % 256) wr
            have hone : (⟨#[UInt8.ofNat (ps.length % 256)]⟩ : ByteArray).size = 1 := rfl
            go_wp2_with fail
            go_roundw
            case rel => exact ⟨_, rfl, by rw [ByteArray.size_append, hone]; omega, HO.out.alloc _, HB.out.alloc HB.out.size _⟩
            case measure => simp only [strSz, ByteArray.size_append, hone]; omega
          · have hge : wd ≤ bs.size := by omega
            go_wp2_with (at_builtin; refine wp_append1 w.heap.size rfl (.tmp 35) (.tmp 39) 23 9 (.string ⟨#[]⟩) 16 rfl Try.underlying23 info_string rfl (by decide) _ _ _ rfl rfl rfl HO.out HB.out.size hbytes ?_; intro v1 w4 hown4 hb4; have HO4 := hid hown4; have B4 := hid (HB.out.trans hb4); clear hown4 hb4)
            go_roundw
            case rel =>
              exact ⟨ps ++ [bs.extract 0 wd], by simp, by simp; omega, fun x hx => (List.mem_append.1 hx).elim (fun h => HF.out x h) (fun h => by rw [List.mem_singleton.1 h, ByteArray.size_extract]; omega), by rw [show strs' (ps ++ [bs.extract 0 wd]) = strs' ps ++ [Value.string (bs.extract 0 wd)] by simp [strs']]; exact HO4.out, B4.out⟩
            case measure => simp [intOf]; omega
      · have hx0I : (0 : Int) < (xs.length : Int) := by omega
        have hml := Nat.mod_lt ps.length (show 0 < xs.length by omega)
        obtain ⟨b, off, rfl, hc⟩ := (HX.out.below HB.out).str hml
        have hcell := hc (ps.length % xs.length) hml
        have hsz := HXs.out xs[ps.length % xs.length] (List.getElem_mem hml)
        obtain ⟨y, hy⟩ : ∃ y, y = xs[ps.length % xs.length] := ⟨_, rfl⟩
        rw [← hy] at hcell hsz
        have hmod : ((ps.length : Int).tmod (xs.length : Int)) = ((ps.length % xs.length : Nat) : Int) := by rw [Int.tmod_eq_emod_of_nonneg (by omega)]; omega
        obtain ⟨q, hq⟩ : ∃ q, q = ps.length % xs.length := ⟨_, rfl⟩
        rw [← hq] at hcell hmod hml
        clear hc hy hq
        go_wp2_with fail
        clear hcell hmod hml
        go_loopw [9] (fun s' wr2 => ∃ bs : ByteArray, s' = .string bs ∧ bs.size ≤ 140737488351264 ∧ wr2.ownsRow w.heap.size 9 1 u7 (strs' ps).length (strs' ps) ∧ Below w.heap.size w wr2) (fun s' _ => wd - strSz s')
        case atStart => exact ⟨_, rfl, by omega, HO.out, HB.out⟩
        case round =>
          clear HO HB
          obtain ⟨bs, rfl, hsz, hown, hbw⟩ := hrel
          have HO := hid hown
          have HB := hid hbw
          clear hown hbw
          by_cases hl : bs.size < wd
          · have hc := conv_one (P := Try.prog) 57 9 5 Try.underlying57 Try.underlying5 Try.underlying9 ((ps.length : Int) % 256) wr
            have hone : (⟨#[UInt8.ofNat (ps.length % 256)]⟩ : ByteArray).size = 1 := rfl
            go_wp2_with fail
            go_roundw
            case rel => exact ⟨_, rfl, by rw [ByteArray.size_append, hone]; omega, HO.out.alloc _, HB.out.alloc HB.out.size _⟩
            case measure => simp only [strSz, ByteArray.size_append, hone]; omega
          · have hge : wd ≤ bs.size := by omega
            go_wp2_with (at_builtin; refine wp_append1 w.heap.size rfl (.tmp 35) (.tmp 39) 23 9 (.string ⟨#[]⟩) 16 rfl Try.underlying23 info_string rfl (by decide) _ _ _ rfl rfl rfl HO.out HB.out.size hbytes ?_; intro v1 w4 hown4 hb4; have HO4 := hid hown4; have B4 := hid (HB.out.trans hb4); clear hown4 hb4)
            go_roundw
            case rel =>
              exact ⟨ps ++ [bs.extract 0 wd], by simp, by simp; omega, fun x hx => (List.mem_append.1 hx).elim (fun h => HF.out x h) (fun h => by rw [List.mem_singleton.1 h, ByteArray.size_extract]; omega), by rw [show strs' (ps ++ [bs.extract 0 wd]) = strs' ps ++ [Value.string (bs.extract 0 wd)] by simp [strs']]; exact HO4.out, B4.out⟩
            case measure => simp [intOf]; omega
    · go_wp2_with fail
      go_ret
      exact ⟨ps, _, rfl, by omega, HF.out, HO.out, HB.out⟩
end Go.Proofs.Ytocjjiacmedjmaa
