/- Walk of tiles.Serve over a source. -/
import Derived.Test.YtocjjiacmedjmaaDoorTwin
import Derived.Test.YtocjjiacmedjmaaDoorHashes
import Derived.Test.YtocjjiacmedjmaaDoorTLies
set_option maxRecDepth 100000
namespace Go.Proofs.YtocjjiacmedjmaaDoor
open Go Go.RowKit

/-- A tile's row, hash by hash: m more. -/
def rowG (s : Src) (a0 b0 : Nat) : Nat → List (Int × Int) → List ByteArray → List ByteArray × Int × List (Int × Int)
  | 0, asked, acc => (acc, 0, asked)
  | m + 1, asked, acc =>
    if (nodeG s (asked.length + 1) a0 ((b0 + acc.length : Nat) : Int)).2 ≠ 0 then ([], (nodeG s (asked.length + 1) a0 ((b0 + acc.length : Nat) : Int)).2, asked ++ [((a0 : Int), ((b0 + acc.length : Nat) : Int))])
    else if (nodeG s (asked.length + 1) a0 ((b0 + acc.length : Nat) : Int)).1.size ≠ widthN s.k then ([], 72, asked ++ [((a0 : Int), ((b0 + acc.length : Nat) : Int))])
    else rowG s a0 b0 m (asked ++ [((a0 : Int), ((b0 + acc.length : Nat) : Int))]) (acc ++ [(nodeG s (asked.length + 1) a0 ((b0 + acc.length : Nat) : Int)).1])
theorem rowG_zero (s : Src) (a0 b0 m : Nat) (hm : m = 0) (asked : List (Int × Int)) (acc : List ByteArray) : rowG s a0 b0 m asked acc = (acc, 0, asked) := by subst hm; rfl
theorem rowG_step (s : Src) (a0 b0 m m' : Nat) (hm : m = m' + 1) (asked : List (Int × Int)) (acc : List ByteArray) (x : ByteArray) (y : Int) (h : nodeG s (asked.length + 1) a0 ((b0 + acc.length : Nat) : Int) = (x, y)) :
    rowG s a0 b0 m asked acc = if y ≠ 0 then ([], y, asked ++ [((a0 : Int), ((b0 + acc.length : Nat) : Int))]) else if x.size ≠ widthN s.k then ([], 72, asked ++ [((a0 : Int), ((b0 + acc.length : Nat) : Int))]) else rowG s a0 b0 m' (asked ++ [((a0 : Int), ((b0 + acc.length : Nat) : Int))]) (acc ++ [x]) := by
  subst hm
  rw [rowG, h]
/-- What Serve answers, and what was asked behind it. -/
def serveG (s : Src) (h l i c n : Int) (asked : List (Int × Int)) : ByteArray × Int × List (Int × Int) :=
  if ¬ Lies h l i c 4611686018427387904 then (⟨#[]⟩, 230, asked) else if s.size < 0 ∨ 4611686018427387904 < s.size then (⟨#[]⟩, 10, asked) else
  if n < 0 ∨ s.size < n ∨ ¬ Lies h l i c n.toNat then (⟨#[]⟩, 80, asked) else
  if (rowG s (l * h).toNat (i.toNat * 2 ^ h.toNat) c.toNat asked []).2.1 ≠ 0 then (⟨#[]⟩, (rowG s (l * h).toNat (i.toNat * 2 ^ h.toNat) c.toNat asked []).2.1, (rowG s (l * h).toNat (i.toNat * 2 ^ h.toNat) c.toNat asked []).2.2)
  else (⟨(hashesB (widthN s.k) (rowG s (l * h).toNat (i.toNat * 2 ^ h.toNat) c.toNat asked []).1).toArray⟩, 0, (rowG s (l * h).toNat (i.toNat * 2 ^ h.toNat) c.toNat asked []).2.2)
theorem tiles_widthOf (x : Int) (w : World) : Calls Tryd.prog 32 #[.int .i64 x] w fun e w' => e = .returned (.int .i64 (widthN x)) ∧ w = w' := by
  by_cases h1 : x < 1
  · have HR : Hid (widthN x = 32) := by unfold Hid widthN; rw [if_pos (.inl h1)]
    have d1 : decide (x < 1) = true := by simp; omega
    go_enter Tryd.func32, Tryd.ntmps32
    go_wp2_with fail
    go_ret
    exact ⟨by rw [HR.out]; rfl, rfl⟩
  by_cases h2 : 32 < x
  · have HR : Hid (widthN x = 32) := by unfold Hid widthN; rw [if_pos (.inr h2)]
    have d1 : decide (x < 1) = false := by simp; omega
    have d2 : decide (32 < x) = true := by simp; omega
    go_enter Tryd.func32, Tryd.ntmps32
    go_wp2_with fail
    go_ret
    exact ⟨by rw [HR.out]; rfl, rfl⟩
  · have HR : Hid ((widthN x : Int) = x) := by unfold Hid widthN; rw [if_neg (by omega)]; omega
    have d1 : decide (x < 1) = false := by simp; omega
    have d2 : decide (32 < x) = false := by simp; omega
    go_enter Tryd.func32, Tryd.ntmps32
    go_wp2_with fail
    go_ret
    exact ⟨by rw [HR.out]; rfl, rfl⟩
/-- The reader that the law makes of a source. -/
theorem law_reader (p : Nat) (k size : Int) (w : World) (c0 : w.cell? ⟨p, 0, none⟩ = some (.int .i64 k)) (c1 : w.cell? ⟨p, 1, none⟩ = some (.int .i64 size)) :
    Calls Tryd.prog 14 #[.pointer (some ⟨p, 0, none⟩)] w fun e w' => e = .returned (.agg #[.int .i64 k, .int .i64 size, .func (.func 34) #[.pointer (some ⟨w.heap.size + 1, 0, none⟩)] #[]]) ∧
      w'.cell? ⟨w.heap.size + 1, 0, none⟩ = some (.pointer (some ⟨p, 0, none⟩)) ∧ Below w.heap.size w w' := by
  obtain ⟨W, hW⟩ : ∃ W, (w.alloc (.cells #[.int .i64 0, .int .i64 0, .nilFunc] 45)).alloc (.cells #[.pointer (some ⟨p, 0, none⟩)] 73) = W := ⟨_, rfl⟩
  have bW : Below w.heap.size w W := by rw [← hW]; exact ((Below.refl w.heap.size w).alloc (Nat.le_refl _) _).alloc (by simp) _
  have k0 := (bW.cell (World.block_lt_of_cell? _ _ c0)).trans c0
  have k1 := (bW.cell (World.block_lt_of_cell? _ _ c1)).trans c1
  have d0 : W.cell? ⟨w.heap.size, 0, none⟩ = some (.int .i64 0) := by rw [← hW]; simp [go_sem]
  have d1 : W.cell? ⟨w.heap.size, 1, none⟩ = some (.int .i64 0) := by rw [← hW]; simp [go_sem]
  have d2 : W.cell? ⟨w.heap.size, 2, none⟩ = some .nilFunc := by rw [← hW]; simp [go_sem]
  have f0 : W.frozen? ⟨w.heap.size, 0, none⟩ = false := by rw [← hW]; simp [go_sem]
  have f1 : W.frozen? ⟨w.heap.size, 1, none⟩ = false := by rw [← hW]; simp [go_sem]
  have f2 : W.frozen? ⟨w.heap.size, 2, none⟩ = false := by rw [← hW]; simp [go_sem]
  have ht : W.cell? ⟨w.heap.size + 1, 0, none⟩ = some (.pointer (some ⟨p, 0, none⟩)) := by rw [← hW]; simp [go_sem]
  have HTt := hid ht
  have BW := hid bW
  have HW := hid hW
  clear hW bW ht c0 c1
  go_enter Tryd.func14, Tryd.ntmps14
  go_wp2_with fail
  rw [HW.out]
  clear HW
  go_region
  go_wp2_with fail
  refine bodyPost_ret_by (v := .agg #[.int .i64 k, .int .i64 size, .func (.func 34) #[.pointer (some ⟨w.heap.size + 1, 0, none⟩)] #[]]) (by rw [results_cell1 rfl]; go_simp) rfl ?_
  refine ⟨rfl, ?_, ?_⟩
  · have := set3_far W.drew (B := w.heap.size) (q := w.heap.size + 1) (by omega) 0 (.int .i64 k) (.int .i64 size) (.func (.func 34) #[.pointer (some ⟨w.heap.size + 1, 0, none⟩)] #[])
    exact this.trans HTt.out
  · repeat' (first | exact BW.out | (refine Below.setCell ?_ (by simp) _) | apply Below.drew)
end Go.Proofs.YtocjjiacmedjmaaDoor
