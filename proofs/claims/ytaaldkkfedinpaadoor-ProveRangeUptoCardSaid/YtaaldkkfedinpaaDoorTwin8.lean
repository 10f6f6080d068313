/- Walks of the law's twin, reader and its Node: sources and what reads them. -/
import Derived.Test.YtaaldkkfedinpaaDoorSrcNode
import Derived.Test.YtaaldkkfedinpaaDoorProveOfWalk
set_option maxRecDepth 100000
namespace Go.Proofs.YtaaldkkfedinpaaDoor
open Go Go.RowKit

/-- The source that twin makes. -/
def twinS (k size : Int) (leaves : List ByteArray) (made : Bool) (fails code : Int) : Src := ⟨k, if made then size else leaves.length, leaves, made, fails, code⟩
set_option maxHeartbeats 4000000 in
theorem law_twin (k size : Int) (ao : Option Addr) (hs : List ByteArray) (cap : Nat) (made : Bool) (fails code : Int) (av : Value) (w : World) (hx : RowAt w ao (strs' hs)) (hao : ao = none → hs.length = 0 ∧ cap = 0) (hl : hs.length ≤ 1048576) (hav : ∃ qo qn qc, av = .slice qo qn qc) :
    Calls Tryd.prog 15 #[.agg #[.int .i64 k, .int .i64 size, .slice ao hs.length cap, .bool made, .int .i64 fails, .int .i64 code, av]] w fun e w' => ∃ lv, e = .returned (.pointer (some ⟨w.heap.size + 1, 0, none⟩)) ∧
      SrcM w.heap.size (w.heap.size + 1) (twinS k size hs made fails code) lv (.slice none 0 0) [] w' ∧ Below w.heap.size w w' := by
  obtain ⟨qo, qn, qc, rfl⟩ := hav
  have HX := hid hx
  have HA := hid hao
  have H1 := hid (strs'_one hs)
  clear hx hao
  obtain ⟨W, hW⟩ : ∃ W, ((w.alloc (.cells #[.int .i64 k, .int .i64 size, .slice ao hs.length cap, .bool made, .int .i64 fails, .int .i64 code, .slice qo qn qc] 39)).alloc (.cells #[.int .i64 k, .int .i64 size, .slice ao hs.length cap, .bool made, .int .i64 fails, .int .i64 code, .slice none 0 0] 39)) = W := ⟨_, rfl⟩
  have hsW : W.heap.size = w.heap.size + 2 := by rw [← hW]; simp
  have bW : Below w.heap.size w W := by rw [← hW]; exact ((Below.refl w.heap.size w).alloc (Nat.le_refl _) _).alloc (by simp) _
  have k2 : W.cell? ⟨w.heap.size, 2, none⟩ = some (.slice ao hs.length cap) := by rw [← hW]; simp [go_sem]
  have c0 : W.cell? ⟨w.heap.size + 1, 0, none⟩ = some (.int .i64 k) := by rw [← hW]; simp [go_sem]
  have c1 : W.cell? ⟨w.heap.size + 1, 1, none⟩ = some (.int .i64 size) := by rw [← hW]; simp [go_sem]
  have c2 : W.cell? ⟨w.heap.size + 1, 2, none⟩ = some (.slice ao hs.length cap) := by rw [← hW]; simp [go_sem]
  have c3 : W.cell? ⟨w.heap.size + 1, 3, none⟩ = some (.bool made) := by rw [← hW]; simp [go_sem]
  have c4 : W.cell? ⟨w.heap.size + 1, 4, none⟩ = some (.int .i64 fails) := by rw [← hW]; simp [go_sem]
  have c5 : W.cell? ⟨w.heap.size + 1, 5, none⟩ = some (.int .i64 code) := by rw [← hW]; simp [go_sem]
  have c6 : W.cell? ⟨w.heap.size + 1, 6, none⟩ = some (.slice none 0 0) := by rw [← hW]; simp [go_sem]
  have fz : ∀ j, W.frozen? ⟨w.heap.size + 1, j, none⟩ = false := by intro j; rw [← hW]; simp [go_sem]
  have BW := hid bW
  have HC := hid (And.intro c0 (And.intro c1 (And.intro c2 (And.intro c3 (And.intro c4 (And.intro c5 (And.intro c6 fz)))))))
  have HX2 := hid (HX.out.below bW)
  clear bW c0 c1 c2 c3 c4 c5 c6 fz
  have HW := hid hW
  clear hW
  go_enter Tryd.func15, Tryd.ntmps15
  go_upto_region 3 with fail
  rw [HW.out]
  clear HW
  cases made with
  | true =>
    go_wp2_with (at_builtin; refine wp_append_all (w.heap.size + 2) rfl (.const (.slice none 0 0)) (.tmp 7) 36 9 (.string ⟨#[]⟩) 16 rfl Tryd.underlying36 info_str rfl (by decide) _ [] (strs' hs) ao hs.length cap rfl rfl (strs'_length hs) H1.out HX2.out HA.out (World.ownsRow_nil _ _ _ _) (by omega) (by simp; omega) ?_; intro v1 w1 hown1 hb1; obtain ⟨lo, lcap, rfl, _, _⟩ := own_row hown1; rw [List.nil_append, strs'_length] at hown1 ⊢; obtain ⟨e0, e1, e2, e3, e4, e5, e6, ef⟩ := HC.out; have hk := fun {j : Nat} {u : Value} (hc : W.cell? ⟨w.heap.size + 1, j, none⟩ = some u) => (hb1.cell (show w.heap.size + 1 < w.heap.size + 2 by omega)).trans hc; have hf := fun j => (hb1.frozen (show w.heap.size + 1 < w.heap.size + 2 by omega)).trans (ef j); have d0 := hk e0; have d1 := hk e1; have d2 := hk e2; have d3 := hk e3; have d4 := hk e4; have d5 := hk e5; have d6 := hk e6; have f1 := hf 1; have f2 := hf 2; have HF := hid hf; have HO1 := hid hown1; have HB1 := hid hb1; clear hown1 hb1 hk hf e0 e1 e2 e3 e4 e5 e6 ef)
    go_ret
    have hsz := HB1.out.size
    refine ⟨rfl, ⟨.slice lo hs.length lcap, ?_, ?_, ?_, ?_, ?_, ?_, ?_, ?_, ?_, World.ownsRow_nil _ _ _ _, by omega, ?_, ?_, ?_⟩, ?_⟩
    · rw [World.cell?_setCell_other _ _ _ _ (by simp)]; exact d0
    · rw [World.cell?_setCell_other _ _ _ _ (by simp)]; exact d1
    · exact World.cell?_setCell_same _ _ _ d2
    · rw [World.cell?_setCell_other _ _ _ _ (by simp)]; exact d3
    · rw [World.cell?_setCell_other _ _ _ _ (by simp)]; exact d4
    · rw [World.cell?_setCell_other _ _ _ _ (by simp)]; exact d5
    · rw [World.cell?_setCell_other _ _ _ _ (by simp)]; exact d6
    · intro j; simpa using HF.out j
    · have := RowKit.ownsRow_setCell_below (a := ⟨w.heap.size + 1, 2, none⟩) HO1.out (by show w.heap.size + 1 < w.heap.size + 2; omega) (.slice lo hs.length lcap)
      exact own_base this (by omega)
    · intro q hq; have := (HO1.out.lt q hq).1; omega
    · intro q hq; simp [Value.ownBlock] at hq
    · intro h; simp [twinS] at h
    · exact (BW.out.trans (HB1.out.mono (by omega))).setCell (by simp) _
  | false =>
    go_wp2_with (at_builtin; refine wp_append_all (w.heap.size + 2) rfl (.const (.slice none 0 0)) (.tmp 7) 36 9 (.string ⟨#[]⟩) 16 rfl Tryd.underlying36 info_str rfl (by decide) _ [] (strs' hs) ao hs.length cap rfl rfl (strs'_length hs) H1.out HX2.out HA.out (World.ownsRow_nil _ _ _ _) (by omega) (by simp; omega) ?_; intro v1 w1 hown1 hb1; obtain ⟨lo, lcap, rfl, _, _⟩ := own_row hown1; rw [List.nil_append, strs'_length] at hown1 ⊢; obtain ⟨e0, e1, e2, e3, e4, e5, e6, ef⟩ := HC.out; have hk := fun {j : Nat} {u : Value} (hc : W.cell? ⟨w.heap.size + 1, j, none⟩ = some u) => (hb1.cell (show w.heap.size + 1 < w.heap.size + 2 by omega)).trans hc; have hf := fun j => (hb1.frozen (show w.heap.size + 1 < w.heap.size + 2 by omega)).trans (ef j); have d0 := hk e0; have d1 := hk e1; have d2 := hk e2; have d3 := hk e3; have d4 := hk e4; have d5 := hk e5; have d6 := hk e6; have f1 := hf 1; have f2 := hf 2; have HF := hid hf; have HO1 := hid hown1; have HB1 := hid hb1; clear hown1 hb1 hk hf e0 e1 e2 e3 e4 e5 e6 ef)
    go_ret
    have hsz := HB1.out.size
    refine ⟨rfl, ⟨.slice lo hs.length lcap, ?_, ?_, ?_, ?_, ?_, ?_, ?_, ?_, ?_, World.ownsRow_nil _ _ _ _, by omega, ?_, ?_, ?_⟩, ?_⟩
    · rw [World.cell?_setCell_other _ _ _ _ (by simp), World.cell?_setCell_other _ _ _ _ (by simp)]; exact d0
    · exact World.cell?_setCell_same _ _ _ (by rw [World.cell?_setCell_other _ _ _ _ (by simp)]; exact d1)
    · rw [World.cell?_setCell_other _ _ _ _ (by simp)]; exact World.cell?_setCell_same _ _ _ d2
    · rw [World.cell?_setCell_other _ _ _ _ (by simp), World.cell?_setCell_other _ _ _ _ (by simp)]; exact d3
    · rw [World.cell?_setCell_other _ _ _ _ (by simp), World.cell?_setCell_other _ _ _ _ (by simp)]; exact d4
    · rw [World.cell?_setCell_other _ _ _ _ (by simp), World.cell?_setCell_other _ _ _ _ (by simp)]; exact d5
    · rw [World.cell?_setCell_other _ _ _ _ (by simp), World.cell?_setCell_other _ _ _ _ (by simp)]; exact d6
    · intro j; simpa using HF.out j
    · have h1 := RowKit.ownsRow_setCell_below (a := ⟨w.heap.size + 1, 2, none⟩) HO1.out (by show w.heap.size + 1 < w.heap.size + 2; omega) (.slice lo hs.length lcap)
      have := RowKit.ownsRow_setCell_below (a := ⟨w.heap.size + 1, 1, none⟩) h1 (by show w.heap.size + 1 < w.heap.size + 2; omega) (.int .i64 hs.length)
      exact own_base this (by omega)
    · intro q hq; have := (HO1.out.lt q hq).1; omega
    · intro q hq; simp [Value.ownBlock] at hq
    · intro _; simp [twinS]
    · exact ((BW.out.trans (HB1.out.mono (by omega))).setCell (by simp) _).setCell (by simp) _
theorem teller_Node (B p pt : Nat) (s : Src) (lv v : Value) (asked : List (Int × Int)) (l i : Int) (w w0 : World) (hz : ∀ x ∈ s.leaves, x.size ≤ 1048576) (hl : s.leaves.length ≤ 1048576) (ha : asked.length ≤ 1048576000) (hM : SrcM B p s lv v asked w)
    (hg : GlobR w0) (ht : TabP w0) (hb : Below w0.heap.size w0 w) (hB : w0.heap.size ≤ B) (hpt : w.cell? ⟨pt, 0, none⟩ = some (.pointer (some ⟨p, 0, none⟩))) :
    Calls Tryd.prog 41 #[.pointer (some ⟨pt, 0, none⟩), .agg #[.int .i64 l, .int .i64 i]] w fun e w' => ∃ v', e = .returned (saidV (nodeG s (asked.length + 1) l i)) ∧ SrcM B p s lv v' (asked ++ [(l, i)]) w' ∧ SStep p v w v' w' := by
  have b0 := (Below.refl w.heap.size w).alloc (Nat.le_refl _) (.cells #[.int .i64 l, .int .i64 i] 84)
  have q0 : (w.alloc (.cells #[.int .i64 l, .int .i64 i] 84)).cell? ⟨w.heap.size, 0, none⟩ = some (.int .i64 l) := by simp [go_sem]
  have q1 : (w.alloc (.cells #[.int .i64 l, .int .i64 i] 84)).cell? ⟨w.heap.size, 1, none⟩ = some (.int .i64 i) := by simp [go_sem]
  have kp : (w.alloc (.cells #[.int .i64 l, .int .i64 i] 84)).cell? ⟨pt, 0, none⟩ = some (.pointer (some ⟨p, 0, none⟩)) := (b0.cell (World.block_lt_of_cell? _ _ hpt)).trans hpt
  have HN : Hid (∀ W, Below (w.alloc (.cells #[.int .i64 l, .int .i64 i] 84)).heap.size (w.alloc (.cells #[.int .i64 l, .int .i64 i] 84)) W →
      Calls Tryd.prog 72 #[.pointer (some ⟨p, 0, none⟩), .agg #[.int .i64 l, .int .i64 i]] W fun e w' => ∃ v', e = Ending.returned (saidV (nodeG s (asked.length + 1) l i)) ∧ SrcM B p s lv v' (asked ++ [(l, i)]) w' ∧ SStep p v w v' w') := by
    intro W h
    refine (src_Node B p s lv v asked l i W w0 hz hl ha ((hM.below b0).below h) hg ht (Below.then' (Below.then' hb b0) h) hB).mono ?_
    rintro e w' ⟨v', h1, h2, h3⟩
    exact ⟨v', h1, h2, ((SStep.of b0).trans (SStep.of h)).trans h3⟩
  generalize nodeG s (asked.length + 1) l i = r at *
  have BD := hid ((Below.refl (w.alloc (.cells #[.int .i64 l, .int .i64 i] 84)).heap.size (w.alloc (.cells #[.int .i64 l, .int .i64 i] 84))).drew)
  clear hM hg ht hb hB hpt hz hl ha b0
  go_enter Tryd.func41, Tryd.ntmps41
  go_wp2_with fail
  go_region_law (first
    | (go_simp; go_at_call 72; (with_reducible refine Calls.mono (HN.out _ ?hb) ?_); (case hb => exact BD.out); rintro e w1 ⟨v', rfl, hM, hS⟩; have HM := hid hM; have HS := hid hS; clear hM hS; unfold saidV))
  all_goals
    go_wp2_with fail
    go_ret2
    exact ⟨v', rfl, HM.out, HS.out⟩
/-- The reader that the law makes of a source. -/
theorem law_reader (p : Nat) (k size : Int) (w : World) (c0 : w.cell? ⟨p, 0, none⟩ = some (.int .i64 k)) (c1 : w.cell? ⟨p, 1, none⟩ = some (.int .i64 size)) :
    Calls Tryd.prog 17 #[.pointer (some ⟨p, 0, none⟩)] w fun e w' => e = .returned (.agg #[.int .i64 k, .int .i64 size, .func (.func 41) #[.pointer (some ⟨w.heap.size + 1, 0, none⟩)] #[]]) ∧
      w'.cell? ⟨w.heap.size + 1, 0, none⟩ = some (.pointer (some ⟨p, 0, none⟩)) ∧ Below w.heap.size w w' := by
  obtain ⟨W, hW⟩ : ∃ W, (w.alloc (.cells #[.int .i64 0, .int .i64 0, .nilFunc] 45)).alloc (.cells #[.pointer (some ⟨p, 0, none⟩)] 80) = W := ⟨_, rfl⟩
  have bW : Below w.heap.size w W := by rw [← hW]; exact ((Below.refl w.heap.size w).alloc (Nat.le_refl _) _).alloc (by simp) _
  have k0 := (bW.cell (World.block_lt_of_cell? _ _ c0)).trans c0
  have k1 := (bW.cell (World.block_lt_of_cell? _ _ c1)).trans c1
  have d0 : W.cell? ⟨w.heap.size, 0, none⟩ = some (.int .i64 0) := by rw [← hW]; simp [go_sem]
  have d1 : W.cell? ⟨w.heap.size, 1, none⟩ = some (.int .i64 0) := by rw [← hW]; simp [go_sem]
  have d2 : W.cell? ⟨w.heap.size, 2, none⟩ = some .nilFunc := by rw [← hW]; simp [go_sem]
  have f0 : W.frozen? ⟨w.heap.size, 0, none⟩ = false := by rw [← hW]; simp [go_sem]
  have f1 : W.frozen? ⟨w.heap.size, 1, none⟩ = false := by rw [← hW]; simp [go_sem]
  have f2 : W.frozen? ⟨w.heap.size, 2, none⟩ = false := by rw [← hW]; simp [go_sem]
  have ht : W.cell? ⟨w.heap.size + 1, 0, none⟩ = some (.pointer (some ⟨p, 0, none⟩)) := by rw [← hW]; simp [go_sem]
  have HTt := hid ht
  have BW := hid bW
  have HW := hid hW
  clear hW bW ht c0 c1
  go_enter Tryd.func17, Tryd.ntmps17
  go_wp2_with fail
  rw [HW.out]
  clear HW
  go_region
  go_wp2_with fail
  refine bodyPost_ret_by (v := .agg #[.int .i64 k, .int .i64 size, .func (.func 41) #[.pointer (some ⟨w.heap.size + 1, 0, none⟩)] #[]]) (by rw [results_cell1 rfl]; go_simp) rfl ?_
  refine ⟨rfl, ?_, ?_⟩
  · have := set3_far W.drew (B := w.heap.size) (q := w.heap.size + 1) (by omega) 0 (.int .i64 k) (.int .i64 size) (.func (.func 41) #[.pointer (some ⟨w.heap.size + 1, 0, none⟩)] #[])
    exact this.trans HTt.out
  · repeat' (first | exact BW.out | (refine Below.setCell ?_ (by simp) _) | apply Below.drew)
end Go.Proofs.YtaaldkkfedinpaaDoor
