/- The root of a part by a source: plain. -/
import Derived.Test.YtaaldkkfedinpaaDoorAsk
import Derived.Test.YtaaldkkfedinpaaDoorFold
import Derived.Test.YtaaldkkfedinpaaDoorCover2
import Derived.Test.YtaaldkkfedinpaaDoorRefCover
set_option maxRecDepth 100000
namespace Go.Proofs.YtaaldkkfedinpaaDoor
open Go Go.RowKit

/-- The hashes at a row of addresses, asked one after the other. -/
def rowC (s : Src) : List (Nat × Nat) → List (Int × Int) → List ByteArray → List ByteArray × Int × List (Int × Int)
  | [], asked, acc => (acc, 0, asked)
  | a :: r, asked, acc =>
    if (nodeG s (asked.length + 1) a.1 a.2).2 ≠ 0 then ([], (nodeG s (asked.length + 1) a.1 a.2).2, asked ++ [((a.1 : Int), (a.2 : Int))]) else
    if (nodeG s (asked.length + 1) a.1 a.2).1.size ≠ wid s.k then ([], 72, asked ++ [((a.1 : Int), (a.2 : Int))]) else
    rowC s r (asked ++ [((a.1 : Int), (a.2 : Int))]) (acc ++ [(nodeG s (asked.length + 1) a.1 a.2).1])
theorem rowC_step (s : Src) (a : Nat × Nat) (r : List (Nat × Nat)) (asked : List (Int × Int)) (acc : List ByteArray) (x : ByteArray) (y : Int) (h : (x, y) = nodeG s (asked.length + 1) a.1 a.2) :
    rowC s (a :: r) asked acc = if y ≠ 0 then ([], y, asked ++ [((a.1 : Int), (a.2 : Int))]) else if x.size ≠ wid s.k then ([], 72, asked ++ [((a.1 : Int), (a.2 : Int))]) else rowC s r (asked ++ [((a.1 : Int), (a.2 : Int))]) (acc ++ [x]) := by
  show (if (nodeG s (asked.length + 1) a.1 a.2).2 ≠ 0 then _ else if (nodeG s (asked.length + 1) a.1 a.2).1.size ≠ wid s.k then _ else rowC s r _ _) = _
  rw [← h]
theorem rowC_len (s : Src) (l : List (Nat × Nat)) : ∀ asked acc, (rowC s l asked acc).2.2.length ≤ asked.length + l.length := by
  induction l with
  | nil => intro asked acc; exact Nat.le_refl _
  | cons a r ih =>
    intro asked acc
    obtain ⟨q, hq⟩ : ∃ q, q = nodeG s (asked.length + 1) a.1 a.2 := ⟨_, rfl⟩
    obtain ⟨x, y⟩ := q
    rw [rowC_step s a r asked acc x y hq]
    split
    · simp
    · split
      · simp
      · have := ih (asked ++ [((a.1 : Int), (a.2 : Int))]) (acc ++ [x])
        rw [List.length_append, List.length_singleton] at this
        rw [List.length_cons]
        omega
/-- The root of the part from a up to b, the refusal, and what was asked. -/
def hashG (s : Src) (a b : Nat) (asked : List (Int × Int)) : ByteArray × Int × List (Int × Int) :=
  if (rowC s (coverN a b) asked []).2.1 ≠ 0 then (⟨#[]⟩, (rowC s (coverN a b) asked []).2.1, (rowC s (coverN a b) asked []).2.2) else (foldS s.k (rowC s (coverN a b) asked []).1, 0, (rowC s (coverN a b) asked []).2.2)
theorem hashG_of (s : Src) (a b : Nat) (asked : List (Int × Int)) (r : List ByteArray × Int × List (Int × Int)) (h : rowC s (coverN a b) asked [] = r) :
    hashG s a b asked = if r.2.1 ≠ 0 then (⟨#[]⟩, r.2.1, r.2.2) else (foldS s.k r.1, 0, r.2.2) := by unfold hashG; rw [h]
theorem hashG_len (s : Src) (a b : Nat) (hb : b ≤ 4611686018427387904) (asked : List (Int × Int)) : (hashG s a b asked).2.2.length ≤ asked.length + 126 := by
  have h1 := rowC_len s (coverN a b) asked []
  have h2 := cover_len a b hb
  unfold hashG
  split <;> simp only <;> omega
theorem wid_w (k : Int) : wid (wid k : Int) = wid k := by
  have := wid_le k
  unfold wid at this ⊢
  split <;> split <;> omega
theorem cutS_w (l : List UInt8) (k : Int) : cutS l (wid k) = cutS l k := by unfold cutS cutL; rw [wid_w]
theorem foldS_wid (k : Int) (l : List ByteArray) : foldS (wid k) l = foldS k l := by
  induction l with
  | nil => exact cutS_w _ _
  | cons x r ih =>
    cases r with
    | nil => rfl
    | cons y r =>
      show nodeS (wid k) x (foldS (wid k) (y :: r)) = nodeS k x (foldS k (y :: r))
      rw [ih]
      exact cutS_w _ _
theorem addrsV_get (l : List (Nat × Nat)) (k : Nat) (hk : k < l.length) : (addrsV l)[2 * k]? = some (.int .i64 l[k].1) ∧ (addrsV l)[2 * k + 1]? = some (.int .i64 l[k].2) := by
  induction l generalizing k with
  | nil => simp at hk
  | cons a l ih =>
    have e : addrsV (a :: l) = .int .i64 a.1 :: .int .i64 a.2 :: addrsV l := rfl
    rw [e]
    cases k with
    | zero => exact ⟨rfl, rfl⟩
    | succ k =>
      have := ih k (by simpa using hk)
      rw [show 2 * (k + 1) = 2 * k + 1 + 1 by omega, show 2 * k + 1 + 1 + 1 = (2 * k + 1) + 1 + 1 by omega]
      simpa using this
/-- A row of addresses, read. -/
theorem addrs_at {W : World} {B : Nat} {v : Value} {l : List (Nat × Nat)} (h : W.ownsRow B 84 2 v l.length (addrsV l)) (i : Nat) (hi : i < l.length) :
    ∃ g cap, v = .slice (some ⟨g, 0, none⟩) l.length cap ∧ W.cell? ⟨g, i * 2, none⟩ = some (.int .i64 l[i].1) ∧ W.cell? ⟨g, i * 2 + 1, none⟩ = some (.int .i64 l[i].2) := by
  obtain ⟨g1, g2⟩ := addrsV_get l i hi
  rcases h.2 with ⟨hv, hn⟩ | ⟨g, cap', cur, hv, _, hg, _⟩
  · omega
  · have hc := fun (j : Nat) (x : Value) (hx : (addrsV l)[j]? = some x) => (show W.cell? ⟨g, j, none⟩ = some x by
      have := h.cells (g := g) (by rw [hv]; rfl) j x hx
      have ha : (⟨g, 0, none⟩ : Addr).add j = ⟨g, j, none⟩ := by unfold Addr.add; split <;> simp_all
      rw [ha] at this
      exact this)
    exact ⟨g, cap', hv, by rw [Nat.mul_comm]; exact hc _ _ g1, by rw [Nat.mul_comm]; exact hc _ _ g2⟩
end Go.Proofs.YtaaldkkfedinpaaDoor
