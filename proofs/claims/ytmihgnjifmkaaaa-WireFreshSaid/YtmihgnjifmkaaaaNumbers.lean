/- Walks of wire.numbers and of the reference's. -/
import Derived.Test.YtmihgnjifmkaaaaNumsOf
import Derived.Test.YtmihgnjifmkaaaaGrew
import Derived.Laws.OwnMore
import Derived.Deep.RegionHeld3
set_option maxRecDepth 100000
namespace Go.Proofs.Ytmihgnjifmkaaaa
open Go Go.RowKit

theorem bcell' {W w1 : World} (hb : Below W.heap.size W w1) : ∀ b o, b < W.heap.size → w1.cell? ⟨b, o, none⟩ = W.cell? ⟨b, o, none⟩ := fun b o h => hb.cell (p := ⟨b, o, none⟩) h
theorem ints_append (xs ys : List Int) : ints (xs ++ ys) = ints xs ++ ints ys := by simp [ints]
theorem numsN_two (k a b n : Int) (xs : List Int) (h : k = 1 ∨ k = 2) : numsN k a b n xs = [a, n] := by unfold numsN; rw [if_pos h]
theorem numsN_three (a b n : Int) (xs : List Int) : numsN 3 a b n xs = [a, b, n] := by unfold numsN; rw [if_neg (by omega), if_pos rfl]
theorem numsN_four (a b n : Int) (xs : List Int) : numsN 4 a b n xs = ((xs.length : Int) :: gapL (-1) xs) ++ [n] := by unfold numsN; rw [if_neg (by omega), if_neg (by omega)]
/-- A row of numbers of the call's own. -/
def NumRow (xs : List Int) (w : World) (e : Ending) (w' : World) : Prop :=
  ∃ ao cap, e = .returned (.slice ao xs.length cap) ∧ w'.ownsRow w.heap.size 3 1 (.slice ao xs.length cap) xs.length (ints xs) ∧ Below w.heap.size w w'
theorem lastOf_zero (l : Int) (xs : List Int) : lastOf l xs 0 = l := rfl
theorem lastOf_succ (l : Int) (xs : List Int) (j : Nat) (h : j < xs.length) : lastOf l xs (j + 1) = xs[j] := by
  unfold lastOf; rw [if_neg (Nat.succ_ne_zero j)]
  show xs.getD j 0 = _
  rw [List.getD_eq_getElem?_getD, List.getElem?_eq_getElem h]; rfl
theorem lastOf_bound (xs : List Int) (h : ∀ x ∈ xs, 0 ≤ x ∧ x ≤ 4611686018427387904) (i : Nat) (hi : i ≤ xs.length) : -1 ≤ lastOf (-1) xs i ∧ lastOf (-1) xs i ≤ 4611686018427387904 := by
  cases i with
  | zero => rw [lastOf_zero]; omega
  | succ j => rw [lastOf_succ _ _ _ (by omega)]; have := h xs[j] (List.getElem_mem _); omega

theorem own_lit (W : World) (H : Nat) (hH : W.heap.size = H) (base : Nat) (e : TypeId) (cs : Array Value) (n : Nat) (hn : cs.size = n) (hb : base ≤ H) (hm : n ≤ 9223372036854775807) :
    (W.alloc (.cells cs e)).ownsRow base e 1 (.slice (some ⟨H, 0, none⟩) n n) n cs.toList := by
  subst hH
  exact World.ownsRow_lit W cs n hb (by unfold maxLen; omega) (by omega)
set_option maxHeartbeats 2000000 in
theorem wire_numbers (k wd a b n : Int) (ao : Option Addr) (xs : List Int) (cap : Nat) (ho : Option Addr) (hs : List ByteArray) (hcap : Nat) (w : World) (ht : Taken k a b n xs) (hx : RowAt w ao (ints xs)) :
    Calls Try.prog 74 #[proofV k wd a b n ao xs cap ho hs hcap] w (NumRow (numsN k a b n xs) w) := by
  unfold proofV
  have hk1 := ht.k1
  have hk4 := ht.k4
  rcases (show k = 1 ∨ k = 2 ∨ k = 3 ∨ k = 4 by omega) with rfl | rfl | rfl | rfl
  · rw [numsN_two 1 a b n xs (.inl rfl)]
    clear ht hx hk1 hk4
    go_enter Try.func74, Try.ntmps74
    go_wp2_with fail
    go_ret
    exact ⟨_, _, rfl, own_lit _ _ (by simp) w.heap.size _ #[.int .i64 a, .int .i64 n] 2 rfl (by omega) (by omega), by go_grown⟩
  · rw [numsN_two 2 a b n xs (.inr rfl)]
    clear ht hx hk1 hk4
    go_enter Try.func74, Try.ntmps74
    go_wp2_with fail
    go_ret
    exact ⟨_, _, rfl, own_lit _ _ (by simp) w.heap.size _ #[.int .i64 a, .int .i64 n] 2 rfl (by omega) (by omega), by go_grown⟩
  · rw [numsN_three a b n xs]
    clear ht hx hk1 hk4
    go_enter Try.func74, Try.ntmps74
    go_wp2_with fail
    go_ret
    exact ⟨_, _, rfl, own_lit _ _ (by simp) w.heap.size _ #[.int .i64 a, .int .i64 b, .int .i64 n] 3 rfl (by omega) (by omega), by go_grown⟩
  · rw [numsN_four a b n xs]
    have hfew := ht.few rfl
    have hat := ht.at_ rfl
    have hlb := lastOf_bound xs hat
    have HX := hid hx
    have HAT := hid hat
    have HLB := hid hlb
    have hlen0 : ∀ i, i ≤ xs.length → (ints ((xs.length : Int) :: gapL (-1) (xs.take i))).length = i + 1 := fun i hi => by rw [ints_length, List.length_cons, gapL_length, List.length_take]; omega
    have HL := hid hlen0
    clear ht hx hk1 hk4 hat hlb hlen0
    have h0 := own_lit (w.alloc (.cells #[.int .i64 4, .int .i64 wd, .int .i64 a, .int .i64 b, .int .i64 n, .slice ao xs.length cap, .slice ho hs.length hcap] 57)) (w.heap.size + 1) (by simp) (w.heap.size + 1) 3 #[.int .i64 xs.length] 1 rfl (by omega) (by omega)
    obtain ⟨W, hW⟩ : ∃ W, W = w.alloc (.cells #[.int .i64 4, .int .i64 wd, .int .i64 a, .int .i64 b, .int .i64 n, .slice ao xs.length cap, .slice ho hs.length hcap] 57) := ⟨_, rfl⟩
    have hWs : W.heap.size = w.heap.size + 1 := by rw [hW]; simp
    have hWb : Below w.heap.size w W := by rw [hW]; exact (Below.refl _ _).alloc (Nat.le_refl _) _
    have hc5 : W.cell? ⟨w.heap.size, 5, none⟩ = some (.slice ao xs.length cap) := by rw [hW]; simp [go_sem]
    have hc4 : W.cell? ⟨w.heap.size, 4, none⟩ = some (.int .i64 n) := by rw [hW]; simp [go_sem]
    rw [← hW] at h0
    have H0 := hid h0
    have HW := hid hW
    have HWB := hid hWb
    have HC4 := hid hc4
    have HC5 := hid hc5
    have HWS := hid hWs
    clear h0 hW hWb hc4 hc5 hWs
    go_enter Try.func74, Try.ntmps74
    go_wp2_with fail
    rw [← HW.out]
    go_loopw [3, 4, 6, 33] (fun v' l' _ i' wr => ∃ (i : Nat) (ao2 : Option Addr) (cap2 : Nat), i' = .int .i64 i ∧ i ≤ xs.length ∧ l' = .int .i64 (lastOf (-1) xs i) ∧ v' = .slice ao2 (i + 1) cap2 ∧ wr.ownsRow (w.heap.size + 1) 3 1 (.slice ao2 (i + 1) cap2) (i + 1) (ints ((xs.length : Int) :: gapL (-1) (xs.take i))) ∧
      Below (w.heap.size + 1) W wr) (fun _ _ _ i' _ => (xs.length - intOf i').toNat)
    case atStart =>
      exact ⟨0, _, _, rfl, by omega, rfl, rfl, H0.out, ((Below.refl _ _).alloc (by rw [HWS.out]; omega) _)⟩
    case round =>
      clear H0
      obtain ⟨i, ao2, cap2, rfl, hi, rfl, rfl, hown, hbw⟩ := hrel
      have HO := hid hown
      have HB := hid hbw
      have hsz : w.heap.size + 1 ≤ wr.heap.size := by have := hbw.size; have := HWS.out; omega
      have hlen := HL.out i hi
      have hlo := HLB.out i hi
      clear hown hbw
      by_cases hlt : i < xs.length
      · obtain ⟨bk, off, rfl, hc⟩ := ((HX.out.below HWB.out).below (HB.out.mono (by have := HWS.out; omega))).int (k := i) hlt
        have hcell := hc i hlt
        have hbd := HAT.out xs[i] (List.getElem_mem _)
        have hst := gapL_step xs (-1) i hlt
        have hls := lastOf_succ (-1) xs i hlt
        obtain ⟨y, hy⟩ : ∃ y, y = xs[i] := ⟨_, rfl⟩
        obtain ⟨l, hl⟩ : ∃ l, l = lastOf (-1) xs i := ⟨_, rfl⟩
        rw [← hy] at hcell hbd hst hls
        rw [← hl] at hst hlo ⊢
        have HST := hid hst
        have HLS := hid hls
        clear hy hl hc hst hls
        have hln : (i + 1 + 1) * 8 ≤ 140737488355328 := by omega
        go_wp2_with (first
          | (at_builtin; refine wp_append1 (w.heap.size + 1) rfl (.tmp 37) (.tmp 42) 55 3 (.int .i64 0) 8 rfl Try.underlying55 info_int rfl (by decide) _ (ints ((xs.length : Int) :: gapL (-1) (xs.take i))) (.int .i64 (y - l - 1)) rfl rfl rfl (by rw [hlen]; exact HO.out) hsz (by rw [hlen]; exact hln) ?_; intro v4 w4 hown4 hb4; have H4 := hid hown4; have HR4 := hid hb4; clear hown4 hb4)
          | fail)
        go_roundw
        case rel =>
          have e : ints ((xs.length : Int) :: gapL (-1) (xs.take (i + 1))) = ints ((xs.length : Int) :: gapL (-1) (xs.take i)) ++ [.int .i64 (y - l - 1)] := by
            rw [HST.out]; simp [ints]
          have h4 := H4.out
          rw [← e, HL.out (i + 1) (by omega)] at h4
          obtain ⟨ao4, cap4, rfl⟩ := own_val h4
          exact ⟨i + 1, ao4, cap4, by go_num, by omega, by rw [HLS.out], rfl, h4, HB.out.trans HR4.out⟩
        case measure => simp [intOf]; omega
      · obtain rfl : i = xs.length := by omega
        have hc4 : wr.cell? ⟨w.heap.size, 4, none⟩ = some (.int .i64 n) := (HB.out.cell (p := ⟨w.heap.size, 4, none⟩) (Nat.lt_succ_self _)).trans HC4.out
        have hln : (xs.length + 1 + 1) * 8 ≤ 140737488355328 := by omega
        have hgl : Hid (ints ((xs.length : Int) :: gapL (-1) (xs.take xs.length)) ++ [.int .i64 n] = ints (((xs.length : Int) :: gapL (-1) xs) ++ [n])) := by
          unfold Hid; rw [List.take_length]; simp [ints]
        go_wp2_with (first
          | (at_builtin; refine wp_append1 (w.heap.size + 1) rfl (.tmp 46) (.tmp 49) 55 3 (.int .i64 0) 8 rfl Try.underlying55 info_int rfl (by decide) _ (ints ((xs.length : Int) :: gapL (-1) (xs.take xs.length))) (.int .i64 n) rfl rfl rfl (by rw [hlen]; exact HO.out) hsz (by rw [hlen]; exact hln) ?_; intro v4 w4 hown4 hb4; have H4 := hid hown4; have HR4 := hid hb4; clear hown4 hb4)
          | fail)
        go_ret
        have h4 := H4.out
        rw [hgl.out, ints_length] at h4
        obtain ⟨ao4, cap4, rfl⟩ := own_val h4
        exact ⟨ao4, cap4, rfl, own_mono h4 (by omega), HWB.out.trans ((HB.out.trans HR4.out).mono (by omega))⟩

theorem strcat_le (l m : List UInt8) (h : l.length + m.length ≤ 9223372036854775807) : (⟨l.toArray⟩ : ByteArray).size + (⟨m.toArray⟩ : ByteArray).size ≤ 9223372036854775807 := by rw [str_size, str_size]; exact h
theorem Own.keep {B : Nat} {v : Value} {l : List UInt8} {w w' : World} (h : Own B v l w) (hb : Below w.heap.size w w') : Own B v l w' := World.ownsRow.kept h (grownBy_of_below hb none) (by cases v.ownBlock <;> simp)
/-- A number as it is written. -/
def numS (n : Nat) : ByteArray := ⟨(putVar n).toArray⟩
theorem numS_size (n : Nat) : (numS n).size = (putVar n).length := str_size _
theorem ref11_number' (n : Nat) (hn : n ≤ 9223372036854775807) (w : World) : Calls Try.prog 48 #[.int .i64 n] w fun e w' => e = .returned (.string (numS n)) ∧ Below w.heap.size w w' := ref11_number n hn w
/-- A box of the seven cells of a proof. -/
def boxP (k wd a b n : Int) (ao : Option Addr) (xs : List Int) (cap : Nat) (ho : Option Addr) (hs : List ByteArray) (hcap : Nat) : Obj :=
  .cells #[.int .i64 k, .int .i64 wd, .int .i64 a, .int .i64 b, .int .i64 n, .slice ao xs.length cap, .slice ho hs.length hcap] 57
set_option maxHeartbeats 4000000 in
theorem ref11_numbers (k wd a b n : Int) (ao : Option Addr) (xs : List Int) (cap : Nat) (ho : Option Addr) (hs : List ByteArray) (hcap : Nat) (w : World) (ht : Taken k a b n xs) (hx : RowAt w ao (ints xs)) :
    Calls Try.prog 77 #[proofV k wd a b n ao xs cap ho hs hcap] w fun e w' => e = .returned (.string ⟨(flatN (numsN k a b n xs)).toArray⟩) ∧ Below w.heap.size w w' := by
  unfold proofV
  have hk1 := ht.k1
  have hk4 := ht.k4
  have hn0 := ht.n0
  have hn2 := ht.n2
  have hsm := ht.small
  obtain ⟨n', rfl⟩ := Int.eq_ofNat_of_zero_le hn0
  have hpn := putVar_len 9 n' (by omega)
  obtain ⟨W, hW⟩ : ∃ W, W = w.alloc (boxP k wd a b n' ao xs cap ho hs hcap) := ⟨_, rfl⟩
  have hWs : W.heap.size = w.heap.size + 1 := by rw [hW]; simp
  have hWb : Below w.heap.size w W := by rw [hW]; exact (Below.refl _ _).alloc (Nat.le_refl _) _
  have hc2 : W.cell? ⟨w.heap.size, 2, none⟩ = some (.int .i64 a) := by rw [hW]; simp [boxP, go_sem]
  have hc3 : W.cell? ⟨w.heap.size, 3, none⟩ = some (.int .i64 b) := by rw [hW]; simp [boxP, go_sem]
  have hc4 : W.cell? ⟨w.heap.size, 4, none⟩ = some (.int .i64 n') := by rw [hW]; simp [boxP, go_sem]
  have hc5 : W.cell? ⟨w.heap.size, 5, none⟩ = some (.slice ao xs.length cap) := by rw [hW]; simp [boxP, go_sem]
  have HW : Hid (w.alloc (.cells #[.int .i64 k, .int .i64 wd, .int .i64 a, .int .i64 b, .int .i64 n', .slice ao xs.length cap, .slice ho hs.length hcap] 57) = W) := hW.symm
  have HWB := hid hWb
  have hlt0 : w.heap.size < W.heap.size := by omega
  have HWS := hid hWs
  clear hW hWs
  rcases (show k = 1 ∨ k = 2 ∨ k = 3 ∨ k = 4 by omega) with rfl | rfl | rfl | rfl
  · rw [numsN_two 1 a b n' xs (.inl rfl)] at hsm ⊢
    obtain ⟨a', rfl⟩ := Int.eq_ofNat_of_zero_le (hsm a (by simp)).1
    have ha2 := (hsm a' (by simp)).2
    have hpa := putVar_len 9 a' (by omega)
    have hcat4 : ¬ 9223372036854775807 < (numS a').size + (numS n').size := by rw [numS_size, numS_size]; omega
    have hfin : Value.string (numS a' ++ numS n') = Value.string ⟨(flatN [(a' : Int), n']).toArray⟩ := by unfold numS; rw [str_app]; simp [flatN]
    have HF := hid hfin
    clear ht hx hk1 hk4 hsm hc3 hc5 hfin
    go_enter Try.func77, Try.ntmps77
    go_wp2_with fail
    rw [HW.out]
    go_region_held3 (fun w' => w'.cell? ⟨w.heap.size, 2, none⟩ = some (.int .i64 a') ∧ w'.cell? ⟨w.heap.size, 4, none⟩ = some (.int .i64 n')) (go_keep) ((go_at_call 48; refine Calls.mono (ref11_number' _ (by omega) _) ?_; rintro e w2 ⟨rfl, b2⟩; have B2 := fun (h : Below w.heap.size w _) => Below.then h h.size b2; replace B2 := B2 (by go_grown); have hc22 : w2.cell? ⟨w.heap.size, 2, none⟩ = some (.int .i64 a') := (b2.cell (p := ⟨w.heap.size, 2, none⟩) (by first | exact hlt0 | assumption)).trans (by assumption); have hc24 : w2.cell? ⟨w.heap.size, 4, none⟩ = some (.int .i64 n') := (b2.cell (p := ⟨w.heap.size, 4, none⟩) (by first | exact hlt0 | assumption)).trans (by assumption); have hz2 := b2.size; (try simp at hz2); have hlt2 : w.heap.size < w2.heap.size := (by omega); clear b2 hz2))
    all_goals
      go_wp2_with fail
      go_ret
      exact ⟨ret_eq HF.out, by go_grown⟩
  · rw [numsN_two 2 a b n' xs (.inr rfl)] at hsm ⊢
    obtain ⟨a', rfl⟩ := Int.eq_ofNat_of_zero_le (hsm a (by simp)).1
    have ha2 := (hsm a' (by simp)).2
    have hpa := putVar_len 9 a' (by omega)
    have hcat4 : ¬ 9223372036854775807 < (numS a').size + (numS n').size := by rw [numS_size, numS_size]; omega
    have hfin : Value.string (numS a' ++ numS n') = Value.string ⟨(flatN [(a' : Int), n']).toArray⟩ := by unfold numS; rw [str_app]; simp [flatN]
    have HF := hid hfin
    clear ht hx hk1 hk4 hsm hc3 hc5 hfin
    go_enter Try.func77, Try.ntmps77
    go_wp2_with fail
    rw [HW.out]
    go_region_held3 (fun w' => w'.cell? ⟨w.heap.size, 2, none⟩ = some (.int .i64 a') ∧ w'.cell? ⟨w.heap.size, 4, none⟩ = some (.int .i64 n')) (go_keep) ((go_at_call 48; refine Calls.mono (ref11_number' _ (by omega) _) ?_; rintro e w2 ⟨rfl, b2⟩; have B2 := fun (h : Below w.heap.size w _) => Below.then h h.size b2; replace B2 := B2 (by go_grown); have hc22 : w2.cell? ⟨w.heap.size, 2, none⟩ = some (.int .i64 a') := (b2.cell (p := ⟨w.heap.size, 2, none⟩) (by first | exact hlt0 | assumption)).trans (by assumption); have hc24 : w2.cell? ⟨w.heap.size, 4, none⟩ = some (.int .i64 n') := (b2.cell (p := ⟨w.heap.size, 4, none⟩) (by first | exact hlt0 | assumption)).trans (by assumption); have hz2 := b2.size; (try simp at hz2); have hlt2 : w.heap.size < w2.heap.size := (by omega); clear b2 hz2))
    all_goals
      go_wp2_with fail
      go_ret
      exact ⟨ret_eq HF.out, by go_grown⟩
  · rw [numsN_three a b n' xs] at hsm ⊢
    obtain ⟨a', rfl⟩ := Int.eq_ofNat_of_zero_le (hsm a (by simp)).1
    obtain ⟨b', rfl⟩ := Int.eq_ofNat_of_zero_le (hsm b (by simp)).1
    have ha2 := (hsm a' (by simp)).2
    have hb2 := (hsm b' (by simp)).2
    have hpa := putVar_len 9 a' (by omega)
    have hpb := putVar_len 9 b' (by omega)
    have hcat : (numS a').size + (numS b').size ≤ 9223372036854775807 := by rw [numS_size, numS_size]; omega
    have hcat2 : (numS a' ++ numS b').size + (numS n').size ≤ 9223372036854775807 := by rw [ByteArray.size_append, numS_size, numS_size, numS_size]; omega
    have hcat3 : (numS a').size + (numS b').size + (numS n').size ≤ 9223372036854775807 := by rw [numS_size, numS_size, numS_size]; omega
    have hcat4 : ¬ 9223372036854775807 < (numS a').size + (numS b').size := by omega
    have hcat5 : ¬ 9223372036854775807 < (numS a').size + (numS b').size + (numS n').size := by omega
    have hfin : Value.string (numS a' ++ numS b' ++ numS n') = Value.string ⟨(flatN [(a' : Int), b', n']).toArray⟩ := by unfold numS; rw [str_app, str_app]; simp [flatN]
    have HF := hid hfin
    clear ht hx hk1 hk4 hsm hc5 hfin
    go_enter Try.func77, Try.ntmps77
    go_wp2_with fail
    rw [HW.out]
    go_region_held3 (fun w' => w'.cell? ⟨w.heap.size, 2, none⟩ = some (.int .i64 a') ∧ w'.cell? ⟨w.heap.size, 3, none⟩ = some (.int .i64 b') ∧ w'.cell? ⟨w.heap.size, 4, none⟩ = some (.int .i64 n')) (go_keep) ((go_at_call 48; refine Calls.mono (ref11_number' _ (by omega) _) ?_; rintro e w2 ⟨rfl, b2⟩; have B2 := fun (h : Below w.heap.size w _) => Below.then h h.size b2; replace B2 := B2 (by go_grown); have hc22 : w2.cell? ⟨w.heap.size, 2, none⟩ = some (.int .i64 a') := (b2.cell (p := ⟨w.heap.size, 2, none⟩) (by first | exact hlt0 | assumption)).trans (by assumption); have hc23 : w2.cell? ⟨w.heap.size, 3, none⟩ = some (.int .i64 b') := (b2.cell (p := ⟨w.heap.size, 3, none⟩) (by first | exact hlt0 | assumption)).trans (by assumption); have hc24 : w2.cell? ⟨w.heap.size, 4, none⟩ = some (.int .i64 n') := (b2.cell (p := ⟨w.heap.size, 4, none⟩) (by first | exact hlt0 | assumption)).trans (by assumption); have hz2 := b2.size; (try simp at hz2); have hlt2 : w.heap.size < w2.heap.size := (by omega); clear b2 hz2))
    all_goals
      go_wp2_with fail
      go_ret
      exact ⟨ret_eq HF.out, by go_grown⟩
  · rw [numsN_four a b n' xs]
    have hfew := ht.few rfl
    have hat := ht.at_ rfl
    have hri := gapL_small xs (-1) (by omega) (ht.rise rfl)
    have HSM := hid hri
    have HX := hid hx
    have HAT := hid hat
    have hpl := putVar_len 9 xs.length (by omega)
    have HC4 := hid hc4
    have HC5 := hid hc5
    have hgl : ∀ i, i ≤ xs.length → (putVar xs.length ++ flatN (gapL (-1) (xs.take i))).length ≤ 10 + 10 * 1024 := fun i hi => by
      have h1 : (gapL (-1) (xs.take i)) = (gapL (-1) xs).take i := by
        have : ∀ (l : List Int) (z : Int) (i : Nat), gapL z (l.take i) = (gapL z l).take i := by
          intro l
          induction l with
          | nil => intro z i; simp [gapL]
          | cons x r ih => intro z i; cases i with
            | zero => simp [gapL]
            | succ i => simp [gapL, ih]
        exact this xs (-1) i
      have h2 : Small (gapL (-1) (xs.take i)) := by rw [h1]; exact fun x hx => hri x (List.mem_of_mem_take hx)
      have h3 := flatN_len _ h2
      rw [gapL_length, List.length_take] at h3
      rw [List.length_append]; omega
    have HGL := hid hgl
    clear ht hx hk1 hk4 hsm hat hri hgl hc2 hc3 hc4
    go_enter Try.func77, Try.ntmps77
    go_wp2_with fail
    rw [HW.out]
    refine (ref11_number xs.length (by omega) _).mono ?_
    rintro e w2 ⟨rfl, b2⟩
    have B2 := hid (b2.mono (Nat.le_of_eq HWS.out.symm)); clear b2
    have hsz2 : w.heap.size + 1 ≤ w2.heap.size := Nat.le_trans (Nat.le_of_eq HWS.out.symm) B2.out.size
    go_wp2_with (first
      | (at_builtin; refine wp_append_str (w.heap.size + 1) rfl (.tmp 31) (.tmp 35) 79 9 5 rfl Try.underlying79 Try.underlying9 info_byte _ [] ⟨(putVar xs.length).toArray⟩ rfl rfl (World.ownsRow_nil _ _ _ _) hsz2 (by rw [str_size]; simp; omega) ?_; intro v4 w4 hown4 hb4; have H4 := hid hown4; have HB4 := hid (B2.out.trans hb4); clear hown4 hb4)
      | fail)
    go_loopw [3, 4, 5] (fun v' i' _ wr => ∃ (i : Nat), i' = .int .i64 i ∧ i ≤ xs.length ∧ Own (w.heap.size + 1) v' (putVar xs.length ++ flatN (gapL (-1) (xs.take i))) wr ∧ Below (w.heap.size + 1) W wr) (fun _ i' _ _ => (xs.length - intOf i').toNat)
    case atStart => exact ⟨0, rfl, by omega, own_eq H4.out (by simp [flatN, gapL]), HB4.out⟩
    case round =>
      clear H4 HB4 B2
      obtain ⟨i, rfl, hi, hown, hbw⟩ := hrel
      have HO := hid hown
      have HB := hid hbw
      have hsz : w.heap.size + 1 ≤ wr.heap.size := Nat.le_trans (Nat.le_of_eq HWS.out.symm) hbw.size
      have hln := HGL.out i hi
      have hc5 : wr.cell? ⟨w.heap.size, 5, none⟩ = some (.slice ao xs.length cap) := (hbw.cell (p := ⟨w.heap.size, 5, none⟩) (Nat.lt_succ_self _)).trans HC5.out
      have hc4 : wr.cell? ⟨w.heap.size, 4, none⟩ = some (.int .i64 n') := (hbw.cell (p := ⟨w.heap.size, 4, none⟩) (Nat.lt_succ_self _)).trans HC4.out
      have HXR := hid ((HX.out.below HWB.out).below (hbw.mono (Nat.le_of_eq HWS.out)))
      clear hown hbw
      by_cases hlt : i < xs.length
      · obtain ⟨bk, off, rfl, hc⟩ := HXR.out.int (k := i) hlt
        have hcell := hc i hlt
        have hbd := HAT.out xs[i] (List.getElem_mem _)
        have hst := gapL_step xs (-1) i hlt
        have hgs := HSM.out (xs[i] - lastOf (-1) xs i - 1) (by
          have h1 : (xs[i] - lastOf (-1) xs i - 1) ∈ gapL (-1) (xs.take (i + 1)) := by rw [hst]; simp
          have h2 : ∀ (l : List Int) (z : Int) (i : Nat) x, x ∈ gapL z (l.take i) → x ∈ gapL z l := by
            intro l
            induction l with
            | nil => intro z i x h; simpa using h
            | cons y r ih =>
              intro z i x h
              cases i with
              | zero => simp [gapL] at h
              | succ i =>
                simp only [List.take_succ_cons, gapL, List.mem_cons] at h ⊢
                rcases h with h | h
                · exact .inl h
                · exact .inr (ih _ _ _ h)
          exact h2 xs (-1) (i + 1) _ h1)
        obtain ⟨g, hg⟩ : ∃ g : Nat, xs[i] - lastOf (-1) xs i - 1 = g := ⟨(xs[i] - lastOf (-1) xs i - 1).toNat, by omega⟩
        have hfl : putVar xs.length ++ flatN (gapL (-1) (xs.take (i + 1))) = putVar xs.length ++ flatN (gapL (-1) (xs.take i)) ++ putVar g := by
          rw [hst, flatN_append, hg, List.append_assoc]; simp [flatN]
        have HFL := hid hfl
        have hgb : g ≤ 4611686018427387904 := by omega
        have hpg := putVar_len 9 g (by omega)
        clear hfl hst hgs
        rcases Nat.eq_zero_or_pos i with h0 | h0
        · subst h0
          have e0 : xs[0] = (g : Int) := by rw [lastOf_zero] at hg; omega
          rw [e0] at hcell
          have hcell : wr.cell? ⟨bk, off, none⟩ = some (.int .i64 g) := hcell
          clear hg e0 hc hbd
          go_wp2_with fail
          refine (ref11_number g (by omega) _).mono ?_
          rintro e w3 ⟨rfl, b3⟩
          have HO3 := hid (Own.keep HO.out b3)
          have B3 := hid (HB.out.trans (b3.mono hsz))
          have hsz3 : w.heap.size + 1 ≤ w3.heap.size := Nat.le_trans hsz b3.size
          clear b3
          go_wp2_with (first
            | (at_builtin; refine wp_append_str (w.heap.size + 1) rfl (.tmp 64) (.tmp 66) 79 9 5 rfl Try.underlying79 Try.underlying9 info_byte _ (putVar xs.length ++ flatN (gapL (-1) (xs.take 0))) ⟨(putVar g).toArray⟩ rfl rfl HO3.out hsz3 (by rw [str_size]; omega) ?_; intro v4 w4 hown4 hb4; have H4 := hid hown4; have HB4 := hid (B3.out.trans hb4); clear hown4 hb4)
            | fail)
          go_roundw
          case rel => exact ⟨1, by go_num, by omega, own_eq H4.out HFL.out.symm, HB4.out⟩
          case measure => simp [intOf]; omega
        · have hcell2 := hc (i - 1) (by omega)
          have hls := lastOf_succ (-1) xs (i - 1) (by omega)
          rw [show i - 1 + 1 = i by omega] at hls
          rw [hls] at hg
          have hbd2 := HAT.out (xs[i - 1]'(by omega)) (List.getElem_mem _)
          have hoff : off + (i - 1) = off + (i - 1) := rfl
          obtain ⟨y, hy⟩ : ∃ y, y = xs[i] := ⟨_, rfl⟩
          obtain ⟨z, hz⟩ : ∃ z, z = xs[i - 1]'(by omega) := ⟨_, rfl⟩
          rw [← hy] at hcell hbd hg
          rw [← hz] at hcell2 hbd2 hg
          have hi1 : (i : Int) - 1 = ((i - 1 : Nat) : Int) := by omega
          have hw1 : IntKind.i64.wrap ((i : Int) - 1) = ((i - 1 : Nat) : Int) := by rw [IntKind.wrap_i64]; omega
          have hw2 : IntKind.i64.wrap (y - z) = y - z := by rw [IntKind.wrap_i64]; omega
          have hw3 : IntKind.i64.wrap (y - z - 1) = (g : Int) := by rw [IntKind.wrap_i64]; omega
          have hlt2 : i - 1 < xs.length := by omega
          clear hy hz hc hls hoff hi1
          go_wp2_with fail
          go_quiet (fail)
          go_wp2_with fail
          refine (ref11_number g (by omega) _).mono ?_
          rintro e w3 ⟨rfl, b3⟩
          have HO3 := hid ((Own.keep HO.out (below_drewN (Below.refl _ _) nq)).keep b3)
          have B3 := hid ((below_drewN HB.out nq).trans (b3.mono hsz))
          have hsz3 : w.heap.size + 1 ≤ w3.heap.size := Nat.le_trans hsz b3.size
          clear b3
          go_wp2_with (first
            | (at_builtin; refine wp_append_str (w.heap.size + 1) rfl (.tmp 64) (.tmp 66) 79 9 5 rfl Try.underlying79 Try.underlying9 info_byte _ (putVar xs.length ++ flatN (gapL (-1) (xs.take i))) ⟨(putVar g).toArray⟩ rfl rfl HO3.out hsz3 (by rw [str_size]; omega) ?_; intro v4 w4 hown4 hb4; have H4 := hid hown4; have HB4 := hid (B3.out.trans hb4); clear hown4 hb4)
            | fail)
          go_roundw
          case rel => exact ⟨i + 1, by go_num, by omega, own_eq H4.out HFL.out.symm, HB4.out⟩
          case measure => simp [intOf]; omega
      · obtain rfl : i = xs.length := by omega
        have hfin : putVar xs.length ++ flatN (gapL (-1) (xs.take xs.length)) ++ putVar n' = flatN ((xs.length : Int) :: gapL (-1) xs ++ [(n' : Int)]) := by
          rw [List.take_length, flatN_append]; simp [flatN]
        have HF := hid hfin
        clear hfin
        go_wp2_with fail
        refine (ref11_number n' (by omega) _).mono ?_
        rintro e w3 ⟨rfl, b3⟩
        have HO3 := hid (Own.keep HO.out b3)
        have B3 := hid (HB.out.trans (b3.mono hsz))
        have hsz3 : w.heap.size + 1 ≤ w3.heap.size := Nat.le_trans hsz b3.size
        clear b3
        go_wp2_with (first
          | (at_builtin; refine wp_append_str (w.heap.size + 1) rfl (.tmp 68) (.tmp 71) 79 9 5 rfl Try.underlying79 Try.underlying9 info_byte _ (putVar xs.length ++ flatN (gapL (-1) (xs.take xs.length))) ⟨(putVar n').toArray⟩ rfl rfl HO3.out hsz3 (by rw [str_size]; omega) ?_; intro v4 w4 hown4 hb4; have H4 := hid (own_eq hown4 HF.out); have HB4 := hid (B3.out.trans hb4); have hconv := conv_own (dst := 9) Try.underlying79 Try.underlying5 Try.underlying9 H4.out; clear hown4 hb4)
          | fail)
        go_ret
        exact ⟨rfl, HWB.out.trans (HB4.out.mono (by omega))⟩
end Go.Proofs.Ytmihgnjifmkaaaa
