/- Walks of wire.numbers and of the reference's. -/
import Derived.Test.YtocjjiacmedjmaaNumsOf
import Derived.Test.YtocjjiacmedjmaaGrew
import Derived.Laws.OwnMore
import Derived.Deep.RegionHeld3
set_option maxRecDepth 100000
namespace Go.Proofs.Ytocjjiacmedjmaa
open Go Go.RowKit

theorem bcell' {W w1 : World} (hb : Below W.heap.size W w1) : ∀ b o, b < W.heap.size → w1.cell? ⟨b, o, none⟩ = W.cell? ⟨b, o, none⟩ := fun b o h => hb.cell (p := ⟨b, o, none⟩) h
theorem ints_append (xs ys : List Int) : ints (xs ++ ys) = ints xs ++ ints ys := by simp [ints]
theorem numsN_two (k a b n : Int) (xs : List Int) (h : k = 1 ∨ k = 2) : numsN k a b n xs = [a, n] := by unfold numsN; rw [if_pos h]
theorem numsN_three (a b n : Int) (xs : List Int) : numsN 3 a b n xs = [a, b, n] := by unfold numsN; rw [if_neg (by omega), if_pos rfl]
theorem numsN_four (a b n : Int) (xs : List Int) : numsN 4 a b n xs = ((xs.length : Int) :: gapL (-1) xs) ++ [n] := by unfold numsN; rw [if_neg (by omega), if_neg (by omega)]
/-- A row of numbers of the call's own. -/
def NumRow (xs : List Int) (w : World) (e : Ending) (w' : World) : Prop :=
  ∃ ao cap, e = .returned (.slice ao xs.length cap) ∧ w'.ownsRow w.heap.size 3 1 (.slice ao xs.length cap) xs.length (ints xs) ∧ Below w.heap.size w w'
theorem lastOf_zero (l : Int) (xs : List Int) : lastOf l xs 0 = l := rfl
theorem lastOf_succ (l : Int) (xs : List Int) (j : Nat) (h : j < xs.length) : lastOf l xs (j + 1) = xs[j] := by
  unfold lastOf; rw [if_neg (Nat.succ_ne_zero j)]
  show xs.getD j 0 = _
  rw [List.getD_eq_getElem?_getD, List.getElem?_eq_getElem h]; rfl
theorem lastOf_bound (xs : List Int) (h : ∀ x ∈ xs, 0 ≤ x ∧ x ≤ 4611686018427387904) (i : Nat) (hi : i ≤ xs.length) : -1 ≤ lastOf (-1) xs i ∧ lastOf (-1) xs i ≤ 4611686018427387904 := by
  cases i with
  | zero => rw [lastOf_zero]; omega
  | succ j => rw [lastOf_succ _ _ _ (by omega)]; have := h xs[j] (List.getElem_mem _); omega

theorem own_lit (W : World) (H : Nat) (hH : W.heap.size = H) (base : Nat) (e : TypeId) (cs : Array Value) (n : Nat) (hn : cs.size = n) (hb : base ≤ H) (hm : n ≤ 9223372036854775807) :
    (W.alloc (.cells cs e)).ownsRow base e 1 (.slice (some ⟨H, 0, none⟩) n n) n cs.toList := by
  subst hH
  exact World.ownsRow_lit W cs n hb (by unfold maxLen; omega) (by omega)
set_option maxHeartbeats 2000000 in
theorem wire_numbers (k wd a b n : Int) (ao : Option Addr) (xs : List Int) (cap : Nat) (ho : Option Addr) (hs : List ByteArray) (hcap : Nat) (w : World) (ht : Taken k a b n xs) (hx : RowAt w ao (ints xs)) :
    Calls Try.prog 29 #[proofV k wd a b n ao xs cap ho hs hcap] w (NumRow (numsN k a b n xs) w) := by
  unfold proofV
  have hk1 := ht.k1
  have hk4 := ht.k4
  rcases (show k = 1 ∨ k = 2 ∨ k = 3 ∨ k = 4 by omega) with rfl | rfl | rfl | rfl
  · rw [numsN_two 1 a b n xs (.inl rfl)]
    clear ht hx hk1 hk4
    go_enter Try.func29, Try.ntmps29
    go_wp2_with fail
    go_ret
    exact ⟨_, _, rfl, own_lit _ _ (by simp) w.heap.size _ #[.int .i64 a, .int .i64 n] 2 rfl (by omega) (by omega), by go_grown⟩
  · rw [numsN_two 2 a b n xs (.inr rfl)]
    clear ht hx hk1 hk4
    go_enter Try.func29, Try.ntmps29
    go_wp2_with fail
    go_ret
    exact ⟨_, _, rfl, own_lit _ _ (by simp) w.heap.size _ #[.int .i64 a, .int .i64 n] 2 rfl (by omega) (by omega), by go_grown⟩
  · rw [numsN_three a b n xs]
    clear ht hx hk1 hk4
    go_enter Try.func29, Try.ntmps29
    go_wp2_with fail
    go_ret
    exact ⟨_, _, rfl, own_lit _ _ (by simp) w.heap.size _ #[.int .i64 a, .int .i64 b, .int .i64 n] 3 rfl (by omega) (by omega), by go_grown⟩
  · rw [numsN_four a b n xs]
    have hfew := ht.few rfl
    have hat := ht.at_ rfl
    have hlb := lastOf_bound xs hat
    have HX := hid hx
    have HAT := hid hat
    have HLB := hid hlb
    have hlen0 : ∀ i, i ≤ xs.length → (ints ((xs.length : Int) :: gapL (-1) (xs.take i))).length = i + 1 := fun i hi => by rw [ints_length, List.length_cons, gapL_length, List.length_take]; omega
    have HL := hid hlen0
    clear ht hx hk1 hk4 hat hlb hlen0
    have h0 := own_lit (w.alloc (.cells #[.int .i64 4, .int .i64 wd, .int .i64 a, .int .i64 b, .int .i64 n, .slice ao xs.length cap, .slice ho hs.length hcap] 25)) (w.heap.size + 1) (by simp) (w.heap.size + 1) 3 #[.int .i64 xs.length] 1 rfl (by omega) (by omega)
    obtain ⟨W, hW⟩ : ∃ W, W = w.alloc (.cells #[.int .i64 4, .int .i64 wd, .int .i64 a, .int .i64 b, .int .i64 n, .slice ao xs.length cap, .slice ho hs.length hcap] 25) := ⟨_, rfl⟩
    have hWs : W.heap.size = w.heap.size + 1 := by rw [hW]; simp
    have hWb : Below w.heap.size w W := by rw [hW]; exact (Below.refl _ _).alloc (Nat.le_refl _) _
    have hc5 : W.cell? ⟨w.heap.size, 5, none⟩ = some (.slice ao xs.length cap) := by rw [hW]; simp [go_sem]
    have hc4 : W.cell? ⟨w.heap.size, 4, none⟩ = some (.int .i64 n) := by rw [hW]; simp [go_sem]
    rw [← hW] at h0
    have H0 := hid h0
    have HW := hid hW
    have HWB := hid hWb
    have HC4 := hid hc4
    have HC5 := hid hc5
    have HWS := hid hWs
    clear h0 hW hWb hc4 hc5 hWs
    go_enter Try.func29, Try.ntmps29
    go_wp2_with fail
    rw [← HW.out]
    go_loopw [3, 4, 6, 33] (fun v' l' _ i' wr => ∃ (i : Nat) (ao2 : Option Addr) (cap2 : Nat), i' = .int .i64 i ∧ i ≤ xs.length ∧ l' = .int .i64 (lastOf (-1) xs i) ∧ v' = .slice ao2 (i + 1) cap2 ∧ wr.ownsRow (w.heap.size + 1) 3 1 (.slice ao2 (i + 1) cap2) (i + 1) (ints ((xs.length : Int) :: gapL (-1) (xs.take i))) ∧
      Below (w.heap.size + 1) W wr) (fun _ _ _ i' _ => (xs.length - intOf i').toNat)
    case atStart =>
      exact ⟨0, _, _, rfl, by omega, rfl, rfl, H0.out, ((Below.refl _ _).alloc (by rw [HWS.out]; omega) _)⟩
    case round =>
      clear H0
      obtain ⟨i, ao2, cap2, rfl, hi, rfl, rfl, hown, hbw⟩ := hrel
      have HO := hid hown
      have HB := hid hbw
      have hsz : w.heap.size + 1 ≤ wr.heap.size := by have := hbw.size; have := HWS.out; omega
      have hlen := HL.out i hi
      have hlo := HLB.out i hi
      clear hown hbw
      by_cases hlt : i < xs.length
      · obtain ⟨bk, off, rfl, hc⟩ := ((HX.out.below HWB.out).below (HB.out.mono (by have := HWS.out; omega))).int (k := i) hlt
        have hcell := hc i hlt
        have hbd := HAT.out xs[i] (List.getElem_mem _)
        have hst := gapL_step xs (-1) i hlt
        have hls := lastOf_succ (-1) xs i hlt
        obtain ⟨y, hy⟩ : ∃ y, y = xs[i] := ⟨_, rfl⟩
        obtain ⟨l, hl⟩ : ∃ l, l = lastOf (-1) xs i := ⟨_, rfl⟩
        rw [← hy] at hcell hbd hst hls
        rw [← hl] at hst hlo ⊢
        have HST := hid hst
        have HLS := hid hls
        clear hy hl hc hst hls
        have hln : (i + 1 + 1) * 8 ≤ 140737488355328 := by omega
        go_wp2_with (first
          | (at_builtin; refine wp_append1 (w.heap.size + 1) rfl (.tmp 37) (.tmp 42) 22 3 (.int .i64 0) 8 rfl Try.underlying22 info_int rfl (by decide) _ (ints ((xs.length : Int) :: gapL (-1) (xs.take i))) (.int .i64 (y - l - 1)) rfl rfl rfl (by rw [hlen]; exact HO.out) hsz (by rw [hlen]; exact hln) ?_; intro v4 w4 hown4 hb4; have H4 := hid hown4; have HR4 := hid hb4; clear hown4 hb4)
          | fail)
        go_roundw
        case rel =>
          have e : ints ((xs.length : Int) :: gapL (-1) (xs.take (i + 1))) = ints ((xs.length : Int) :: gapL (-1) (xs.take i)) ++ [.int .i64 (y - l - 1)] := by
            rw [HST.out]; simp [ints]
          have h4 := H4.out
          rw [← e, HL.out (i + 1) (by omega)] at h4
          obtain ⟨ao4, cap4, rfl⟩ := own_val h4
          exact ⟨i + 1, ao4, cap4, by go_num, by omega, by rw [HLS.out], rfl, h4, HB.out.trans HR4.out⟩
        case measure => simp [intOf]; omega
      · obtain rfl : i = xs.length := by omega
        have hc4 : wr.cell? ⟨w.heap.size, 4, none⟩ = some (.int .i64 n) := (HB.out.cell (p := ⟨w.heap.size, 4, none⟩) (Nat.lt_succ_self _)).trans HC4.out
        have hln : (xs.length + 1 + 1) * 8 ≤ 140737488355328 := by omega
        have hgl : Hid (ints ((xs.length : Int) :: gapL (-1) (xs.take xs.length)) ++ [.int .i64 n] = ints (((xs.length : Int) :: gapL (-1) xs) ++ [n])) := by
          unfold Hid; rw [List.take_length]; simp [ints]
        go_wp2_with (first
          | (at_builtin; refine wp_append1 (w.heap.size + 1) rfl (.tmp 46) (.tmp 49) 22 3 (.int .i64 0) 8 rfl Try.underlying22 info_int rfl (by decide) _ (ints ((xs.length : Int) :: gapL (-1) (xs.take xs.length))) (.int .i64 n) rfl rfl rfl (by rw [hlen]; exact HO.out) hsz (by rw [hlen]; exact hln) ?_; intro v4 w4 hown4 hb4; have H4 := hid hown4; have HR4 := hid hb4; clear hown4 hb4)
          | fail)
        go_ret
        have h4 := H4.out
        rw [hgl.out, ints_length] at h4
        obtain ⟨ao4, cap4, rfl⟩ := own_val h4
        exact ⟨ao4, cap4, rfl, own_mono h4 (by omega), HWB.out.trans ((HB.out.trans HR4.out).mono (by omega))⟩

theorem strcat_le (l m : List UInt8) (h : l.length + m.length ≤ 9223372036854775807) : (⟨l.toArray⟩ : ByteArray).size + (⟨m.toArray⟩ : ByteArray).size ≤ 9223372036854775807 := by rw [str_size, str_size]; exact h
theorem Own.keep {B : Nat} {v : Value} {l : List UInt8} {w w' : World} (h : Own B v l w) (hb : Below w.heap.size w w') : Own B v l w' := World.ownsRow.kept h (grownBy_of_below hb none) (by cases v.ownBlock <;> simp)
/-- A number as it is written. -/
def numS (n : Nat) : ByteArray := ⟨(putVar n).toArray⟩
theorem numS_size (n : Nat) : (numS n).size = (putVar n).length := str_size _
/-- A box of the seven cells of a proof. -/
def boxP (k wd a b n : Int) (ao : Option Addr) (xs : List Int) (cap : Nat) (ho : Option Addr) (hs : List ByteArray) (hcap : Nat) : Obj :=
  .cells #[.int .i64 k, .int .i64 wd, .int .i64 a, .int .i64 b, .int .i64 n, .slice ao xs.length cap, .slice ho hs.length hcap] 25
end Go.Proofs.Ytocjjiacmedjmaa
