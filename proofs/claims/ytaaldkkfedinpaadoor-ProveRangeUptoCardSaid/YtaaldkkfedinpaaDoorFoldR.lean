/- The reference's Fold. -/
import Derived.Test.YtaaldkkfedinpaaDoorAsk
import Derived.Test.YtaaldkkfedinpaaDoorFold
import Derived.Test.YtaaldkkfedinpaaDoorCover2
import Derived.Test.YtaaldkkfedinpaaDoorRefCover
import Derived.Test.YtaaldkkfedinpaaDoorOwnS
set_option maxRecDepth 100000
namespace Go.Proofs.YtaaldkkfedinpaaDoor
open Go Go.RowKit

/-- The hashes at a row of addresses, asked one after the other. -/
def rowC (s : Src) : List (Nat × Nat) → List (Int × Int) → List ByteArray → List ByteArray × Int × List (Int × Int)
  | [], asked, acc => (acc, 0, asked)
  | a :: r, asked, acc =>
    if (nodeG s (asked.length + 1) a.1 a.2).2 ≠ 0 then ([], (nodeG s (asked.length + 1) a.1 a.2).2, asked ++ [((a.1 : Int), (a.2 : Int))]) else
    if (nodeG s (asked.length + 1) a.1 a.2).1.size ≠ wid s.k then ([], 72, asked ++ [((a.1 : Int), (a.2 : Int))]) else
    rowC s r (asked ++ [((a.1 : Int), (a.2 : Int))]) (acc ++ [(nodeG s (asked.length + 1) a.1 a.2).1])
theorem rowC_step (s : Src) (a : Nat × Nat) (r : List (Nat × Nat)) (asked : List (Int × Int)) (acc : List ByteArray) (x : ByteArray) (y : Int) (h : (x, y) = nodeG s (asked.length + 1) a.1 a.2) :
    rowC s (a :: r) asked acc = if y ≠ 0 then ([], y, asked ++ [((a.1 : Int), (a.2 : Int))]) else if x.size ≠ wid s.k then ([], 72, asked ++ [((a.1 : Int), (a.2 : Int))]) else rowC s r (asked ++ [((a.1 : Int), (a.2 : Int))]) (acc ++ [x]) := by
  show (if (nodeG s (asked.length + 1) a.1 a.2).2 ≠ 0 then _ else if (nodeG s (asked.length + 1) a.1 a.2).1.size ≠ wid s.k then _ else rowC s r _ _) = _
  rw [← h]
theorem rowC_len (s : Src) (l : List (Nat × Nat)) : ∀ asked acc, (rowC s l asked acc).2.2.length ≤ asked.length + l.length := by
  induction l with
  | nil => intro asked acc; exact Nat.le_refl _
  | cons a r ih =>
    intro asked acc
    obtain ⟨q, hq⟩ : ∃ q, q = nodeG s (asked.length + 1) a.1 a.2 := ⟨_, rfl⟩
    obtain ⟨x, y⟩ := q
    rw [rowC_step s a r asked acc x y hq]
    split
    · simp
    · split
      · simp
      · have := ih (asked ++ [((a.1 : Int), (a.2 : Int))]) (acc ++ [x])
        rw [List.length_append, List.length_singleton] at this
        rw [List.length_cons]
        omega
/-- The root of the part from a up to b, the refusal, and what was asked. -/
def hashG (s : Src) (a b : Nat) (asked : List (Int × Int)) : ByteArray × Int × List (Int × Int) :=
  if (rowC s (coverN a b) asked []).2.1 ≠ 0 then (⟨#[]⟩, (rowC s (coverN a b) asked []).2.1, (rowC s (coverN a b) asked []).2.2) else (foldS s.k (rowC s (coverN a b) asked []).1, 0, (rowC s (coverN a b) asked []).2.2)
theorem hashG_of (s : Src) (a b : Nat) (asked : List (Int × Int)) (r : List ByteArray × Int × List (Int × Int)) (h : rowC s (coverN a b) asked [] = r) :
    hashG s a b asked = if r.2.1 ≠ 0 then (⟨#[]⟩, r.2.1, r.2.2) else (foldS s.k r.1, 0, r.2.2) := by unfold hashG; rw [h]
theorem hashG_len (s : Src) (a b : Nat) (hb : b ≤ 4611686018427387904) (asked : List (Int × Int)) : (hashG s a b asked).2.2.length ≤ asked.length + 126 := by
  have h1 := rowC_len s (coverN a b) asked []
  have h2 := cover_len a b hb
  unfold hashG
  split <;> simp only <;> omega
theorem wid_w (k : Int) : wid (wid k : Int) = wid k := by
  have := wid_le k
  unfold wid at this ⊢
  split <;> split <;> omega
theorem cutS_w (l : List UInt8) (k : Int) : cutS l (wid k) = cutS l k := by unfold cutS cutL; rw [wid_w]
theorem foldS_wid (k : Int) (l : List ByteArray) : foldS (wid k) l = foldS k l := by
  induction l with
  | nil => exact cutS_w _ _
  | cons x r ih =>
    cases r with
    | nil => rfl
    | cons y r =>
      show nodeS (wid k) x (foldS (wid k) (y :: r)) = nodeS k x (foldS k (y :: r))
      rw [ih]
      exact cutS_w _ _
theorem addrsV_get (l : List (Nat × Nat)) (k : Nat) (hk : k < l.length) : (addrsV l)[2 * k]? = some (.int .i64 l[k].1) ∧ (addrsV l)[2 * k + 1]? = some (.int .i64 l[k].2) := by
  induction l generalizing k with
  | nil => simp at hk
  | cons a l ih =>
    have e : addrsV (a :: l) = .int .i64 a.1 :: .int .i64 a.2 :: addrsV l := rfl
    rw [e]
    cases k with
    | zero => exact ⟨rfl, rfl⟩
    | succ k =>
      have := ih k (by simpa using hk)
      rw [show 2 * (k + 1) = 2 * k + 1 + 1 by omega, show 2 * k + 1 + 1 + 1 = (2 * k + 1) + 1 + 1 by omega]
      simpa using this
/-- A row of addresses, read. -/
theorem addrs_at {W : World} {B : Nat} {v : Value} {l : List (Nat × Nat)} (h : W.ownsRow B 84 2 v l.length (addrsV l)) (i : Nat) (hi : i < l.length) :
    ∃ g cap, v = .slice (some ⟨g, 0, none⟩) l.length cap ∧ W.cell? ⟨g, i * 2, none⟩ = some (.int .i64 l[i].1) ∧ W.cell? ⟨g, i * 2 + 1, none⟩ = some (.int .i64 l[i].2) := by
  obtain ⟨g1, g2⟩ := addrsV_get l i hi
  rcases h.2 with ⟨hv, hn⟩ | ⟨g, cap', cur, hv, _, hg, _⟩
  · omega
  · have hc := fun (j : Nat) (x : Value) (hx : (addrsV l)[j]? = some x) => (show W.cell? ⟨g, j, none⟩ = some x by
      have := h.cells (g := g) (by rw [hv]; rfl) j x hx
      have ha : (⟨g, 0, none⟩ : Addr).add j = ⟨g, j, none⟩ := by unfold Addr.add; split <;> simp_all
      rw [ha] at this
      exact this)
    exact ⟨g, cap', hv, by rw [Nat.mul_comm]; exact hc _ _ g1, by rw [Nat.mul_comm]; exact hc _ _ g2⟩
end Go.Proofs.YtaaldkkfedinpaaDoor
set_option maxRecDepth 100000
namespace Go.Proofs.YtaaldkkfedinpaaDoor
open Go Go.RowKit

theorem ref_Empty (k : Int) (w : World) (hg : GlobR w) :
    Calls Tryd.prog 95 #[.int .i64 k] w fun e w' => e = .returned (.string (emptyS k)) ∧ Below w.heap.size w w' := by
  have HC := hid (ref_Cut ⟨#[]⟩ (by decide) k w hg)
  clear hg
  go_enter Tryd.func95, Tryd.ntmps95
  go_wp2_with fail
  refine (HC.out).mono ?_
  rintro e w1 ⟨rfl, hb1⟩
  go_wp2_with fail
  go_ret
  exact ⟨rfl, hb1⟩
theorem strs_at {W : World} {B : Nat} {v : Value} {xs : List ByteArray} (h : W.ownsRow B 9 1 v xs.length (strs' xs)) (h0 : 0 < xs.length) :
    ∃ g cap, v = .slice (some ⟨g, 0, none⟩) xs.length cap ∧ xs.length ≤ cap ∧ g < W.heap.size ∧ ∀ i (hi : i < xs.length), W.cell? ⟨g, 0 + i, none⟩ = some (.string xs[i]) := by
  rcases h.2 with ⟨hv, hn⟩ | ⟨g, cap, cur, hv, _, hg, hle, _⟩
  · rw [hn] at h0; simp at h0
  · refine ⟨g, cap, hv, hle, (Array.getElem?_eq_some_iff.1 hg).1, fun i hi => ?_⟩
    have hx : (strs' xs)[i]? = some (.string xs[i]) := by simp [strs', hi]
    have := h.cells (g := g) (by rw [hv]; rfl) i _ hx
    have ha : (⟨g, 0, none⟩ : Addr).add i = ⟨g, 0 + i, none⟩ := by unfold Addr.add; split <;> simp_all
    rw [ha] at this
    exact this
theorem last_of {xs : List ByteArray} (h0 : 0 < xs.length) : ∃ ys last, xs = ys ++ [last] := by
  rcases List.eq_nil_or_concat xs with rfl | ⟨l, x, rfl⟩
  · simp at h0
  · exact ⟨l, x, by rw [List.concat_eq_append]⟩
set_option maxHeartbeats 1000000 in
theorem ref5_Fold (k : Int) (B : Nat) (v : Value) (xs : List ByteArray) (w : World) (h : w.ownsRow B 9 1 v xs.length (strs' xs)) (hsz : ∀ x ∈ xs, x.size ≤ 1048576) (hl : xs.length ≤ 1000000) (hg : GlobR w) :
    Calls Tryd.prog 75 #[.int .i64 k, v] w fun e w' => e = .returned (.string (foldS k xs)) ∧ Below w.heap.size w w' := by
  by_cases h0 : 0 < xs.length
  · obtain ⟨g, cap, rfl, hcap, hgl, hc⟩ := strs_at h h0
    obtain ⟨ys, last, rfl⟩ := last_of h0
    have hlen : (ys ++ [last]).length = ys.length + 1 := by simp
    have hlast : w.cell? ⟨g, 0 + ys.length, none⟩ = some (.string last) := by
      have := hc ys.length (by simp)
      rw [List.getElem_append_right (Nat.le_refl _)] at this
      simpa using this
    have hys : ∀ j (h : j < ys.length), w.cell? ⟨g, 0 + j, none⟩ = some (.string ys[j]) := by
      intro j h
      have := hc j (by simp; omega)
      rwa [List.getElem_append_left h] at this
    have hl32 : last.size ≤ 1048576 := hsz last (by simp)
    have HALL := hid (rootL_all k ys (fun x hx => hsz x (List.mem_append_left _ hx)) last)
    have HYS := hid hys
    have HSZ := hid (fun x (hx : x ∈ ys) => hsz x (List.mem_append_left _ hx))
    have HG := hid hg
    rw [hlen]
    rw [hlen] at hl
    obtain ⟨m, hm⟩ : ∃ m, m = ys.length := ⟨_, rfl⟩
    rw [← hm] at hlast hl ⊢
    have e0 : (((m : Int) + 1) == 0) = false := beq_eq_false_iff_ne.2 (by omega)
    have w1 : IntKind.i64.wrap ((m : Int) + 1 - 1) = (m : Int) := by rw [IntKind.wrap_i64]; omega
    have w2 : IntKind.i64.wrap ((m : Int) + 1 - 2) = (m : Int) - 1 := by rw [IntKind.wrap_i64]; omega
    rw [Nat.zero_add] at hlast
    have HM := hid hm
    clear hc hys hsz hg h hlen hm
    go_enter Tryd.func75, Tryd.ntmps75
    go_wp2_with fail
    go_loopw [6, 7] (fun r' i' wr => ∃ j : Nat, j ≤ m ∧ i' = .int .i64 ((m : Int) - 1 - (j : Int)) ∧ r' = .string (rootL k last (backTo ys j)) ∧ Below w.heap.size w wr) (fun _ i' _ => (intOf i' + 1).toNat)
    case atStart => exact ⟨0, by omega, by congr 1; omega, rfl, Below.refl _ _⟩
    case round =>
      obtain ⟨j, hj, rfl, rfl, hbw⟩ := hrel
      have HB := hid hbw
      by_cases hlt : j < m
      · obtain ⟨i, hi⟩ : ∃ i, i = m - 1 - j := ⟨_, rfl⟩
        have hii : (m : Int) - 1 - (j : Int) = (i : Int) := by omega
        have him : i < ys.length := by have := HM.out; omega
        have hcx := (hbw.cell (p := ⟨g, 0 + i, none⟩) hgl).trans (HYS.out i him)
        have hsx := HSZ.out ys[i] (List.getElem_mem him)
        have hba : backAt ys j = (i, (⟨ys[i], hsx⟩ : Sm)) := by
          unfold backAt
          rw [show ys.length - 1 - j = i by have := HM.out; omega, List.getElem?_eq_getElem him]
          exact congrArg (Prod.mk i) (clip_of hsx)
        have hrs := rootL_size k last (backTo ys j)
        have hstep : rootL k last (backTo ys (j + 1)) = nodeS k ys[i] (rootL k last (backTo ys j)) := by rw [backTo_succ, rootL_snoc, hba]
        clear hba
        obtain ⟨x, hx⟩ : ∃ x, x = ys[i] := ⟨_, rfl⟩
        rw [← hx] at hcx hsx hstep
        have HSTEP := hid hstep
        generalize rootL k last (backTo ys j) = root at *
        have HN := hid (ref_Node k x root (by omega) wr (HG.out.below hbw))
        have hiI : (i : Int) < (m : Int) + 1 := by omega
        have w3 : IntKind.i64.wrap ((i : Int) - 1) = (i : Int) - 1 := by rw [IntKind.wrap_i64]; omega
        rw [Nat.zero_add] at hcx
        rw [hii]
        clear hbw hx hstep hrs him hi
        go_wp2_with fail
        refine HN.out.mono ?_
        rintro e w2 ⟨rfl, hb2⟩
        have HB2 := hid (Below.then' HB.out hb2)
        clear hb2 hcx
        go_wp2_with fail
        go_roundw
        case rel => exact ⟨j + 1, by omega, by congr 1; omega, by rw [HSTEP.out], HB2.out⟩
        case measure => first | (simp [intOf]; done) | (simp [intOf]; omega)
      · obtain rfl : j = m := by omega
        have hneg : (j : Int) - 1 - (j : Int) = -1 := by omega
        have HR : Hid (rootL k last (backTo ys j) = foldS k (ys ++ [last])) := by unfold Hid; rw [HM.out]; exact HALL.out
        rw [hneg]
        clear hbw
        go_wp2_with fail
        go_ret
        exact ⟨by rw [← HR.out]; rfl, HB.out⟩
  · obtain rfl : xs = [] := List.eq_nil_of_length_eq_zero (by omega)
    obtain ⟨ao, cap, rfl⟩ := own_val h
    have HE := hid (ref_Empty k w hg)
    clear h hsz hg
    go_enter Tryd.func75, Tryd.ntmps75
    go_wp2_with fail
    refine HE.out.mono ?_
    rintro e w2 ⟨rfl, hb2⟩
    have HB2 := hid hb2
    clear hb2
    go_wp2_with fail
    go_ret
    exact ⟨rfl, HB2.out⟩
theorem tree_Fold (k : Int) (B : Nat) (v : Value) (xs : List ByteArray) (w : World) (h : w.ownsRow B 9 1 v xs.length (strs' xs)) (hsz : ∀ x ∈ xs, x.size ≤ 1048576) (hl : xs.length ≤ 1000000) (hg : GlobP w) :
    Calls Tryd.prog 71 #[.int .i64 k, v] w fun e w' => e = .returned (.string (foldS k xs)) ∧ Below w.heap.size w w' := by
  by_cases h0 : 0 < xs.length
  · obtain ⟨g, cap, rfl, hcap, hgl, hc⟩ := strs_at h h0
    obtain ⟨ys, last, rfl⟩ := last_of h0
    rw [show (ys ++ [last]).length = ys.length + 1 by simp] at hl hcap ⊢
    exact callsIn_wide.1 (fold_in 3 (Nat.le_refl _) k g 0 cap ys last (by omega) hcap w hg hc hsz)
  · obtain rfl : xs = [] := List.eq_nil_of_length_eq_zero (by omega)
    obtain ⟨ao, cap, rfl⟩ := own_val h
    have hb := (Below.refl w.heap.size w).alloc (Nat.le_refl _) (.cells #[.int .i64 k] 3)
    have HE := hid (tree_Empty k (w.alloc (.cells #[.int .i64 k] 3)) (hg.below hb))
    have HB := hid hb
    clear h hsz hg hb
    go_enter Tryd.func71, Tryd.ntmps71
    go_wp2_with fail
    refine HE.out.mono ?_
    rintro e w2 ⟨rfl, hb2⟩
    have HB2 := hid (Below.then' HB.out hb2)
    clear hb2
    go_wp2_with fail
    go_ret
    exact ⟨rfl, HB2.out⟩
end Go.Proofs.YtaaldkkfedinpaaDoor
