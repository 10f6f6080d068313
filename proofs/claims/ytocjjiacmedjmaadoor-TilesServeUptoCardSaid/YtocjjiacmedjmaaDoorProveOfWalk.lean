/- Walk of the law ProveOf. -/
import Derived.Test.YtocjjiacmedjmaaDoorRefOf
import Derived.Laws.EntriesVeiled
import Derived.Laws.ResultCell
set_option maxRecDepth 100000
namespace Go.Proofs.YtocjjiacmedjmaaDoor
open Go Go.RowKit

theorem info_str : (Tryd.prog.info? 9).map (fun i => (i.zero, i.size, i.bytes)) = some (some (.string ⟨#[]⟩), 1, 16) := by kernel_rfl
theorem strs'_one (xs : List ByteArray) : ∀ u ∈ strs' xs, u.oneCell' = true := by
  intro u hu
  unfold strs' at hu
  obtain ⟨x, _, rfl⟩ := List.mem_map.1 hu
  rfl
theorem nil_yes (w : World) : Sem.run Tryd.prog (binOp BinOp.eql 36 (.slice none 0 0) (.slice none 0 0)) w = .ok (.bool true) w := by kernel_rfl
theorem nil_no (p : Addr) (n c : Nat) (w : World) : Sem.run Tryd.prog (binOp BinOp.eql 36 (.slice (some p) n c) (.slice none 0 0)) w = .ok (.bool false) w := by
  rfl
theorem slices_Clone (ao : Option Addr) (hs : List ByteArray) (cap : Nat) (w : World) (hx : RowAt w ao (strs' hs)) (hao : ao = none → hs.length = 0 ∧ cap = 0) (hl : hs.length * 16 ≤ 140737488351232) :
    Calls Tryd.prog 40 #[.slice ao hs.length cap] w fun e w' => ∃ v, e = .returned v ∧ w'.ownsRow w.heap.size 9 1 v hs.length (strs' hs) ∧ Below w.heap.size w w' := by
  cases ao with
  | none =>
    obtain ⟨h0, rfl⟩ := hao rfl
    obtain rfl := List.length_eq_zero_iff.1 h0
    clear hx hao
    have hn := nil_yes
    go_enter Tryd.func40, Tryd.ntmps40
    go_wp2_with fail
    go_ret
    exact ⟨_, rfl, World.ownsRow_nil _ _ _ _, Below.refl _ _⟩
  | some p =>
    have HX := hid hx
    clear hx hao
    have hn := nil_no p hs.length cap
    go_enter Tryd.func40, Tryd.ntmps40
    have hown : (w.alloc (.cells #[] 9)).ownsRow w.heap.size 9 1 (.slice (some ⟨w.heap.size, 0, none⟩) 0 0) ([] : List Value).length [] :=
      ⟨rfl, .inr ⟨w.heap.size, 0, #[], rfl, Nat.le_refl _, heap_alloc_new w _, Nat.le_refl _, by unfold maxLen; omega, rfl, rfl⟩⟩
    have HO := hid hown
    have B0 := hid ((Below.refl w.heap.size w).alloc (Nat.le_refl _) (.cells #[] 9))
    clear hown
    go_wp2_with (at_builtin; refine wp_append_all w.heap.size rfl (.tmp 5) (.tmp 6) 36 9 (.string ⟨#[]⟩) 16 rfl Tryd.underlying36 info_str rfl (by decide) _ [] (strs' hs) (some p) hs.length cap rfl rfl (strs'_length hs) (strs'_one hs) (HX.out.below B0.out) (by intro h; cases h) HO.out (by simp) (by simp; omega) ?_; intro v1 w1 hown1 hb1; have HO1 := hid hown1; have HB1 := hid (B0.out.trans hb1); clear hown1 hb1)
    go_ret
    refine ⟨_, rfl, ?_, HB1.out⟩
    have := HO1.out
    rwa [List.nil_append, strs'_length] at this
theorem results_cell1 {fn : Func} {p : Tmp} {ty : TypeId} (h : fn.results = #[.cell p ty]) (tmps : Array Value) (P : Program) (w : World) :
    (results fn tmps).run P w = ((asAddr (tmps.getD p undef)).run P w).andThen fun a w₁ => (loadVar ty a).run P w₁ := by
  simp only [results, h]
  simp [Sem.run_bind, Result.andThen]
theorem set3_far (W : World) {B q : Nat} (h : q ≠ B) (i : Nat) (a b c : Value) : (((W.setCell ⟨B, 0, none⟩ a).setCell ⟨B, 1, none⟩ b).setCell ⟨B, 2, none⟩ c).cell? ⟨q, i, none⟩ = W.cell? ⟨q, i, none⟩ := by
  have hn : ∀ j, (⟨B, j, none⟩ : Addr) ≠ ⟨q, i, none⟩ := fun j e => h (by cases e; rfl)
  rw [World.cell?_setCell_other _ _ _ _ (hn 2), World.cell?_setCell_other _ _ _ _ (hn 1), World.cell?_setCell_other _ _ _ _ (hn 0)]
theorem own_base {B B' : Nat} {e : TypeId} {v : Value} {n : Nat} {xs : List Value} {w : World} (h : w.ownsRow B e 1 v n xs) (hB : B' ≤ B) : w.ownsRow B' e 1 v n xs := by
  refine ⟨h.1, ?_⟩
  rcases h.2 with h | ⟨g, cap, cur, h1, h2, h3⟩
  · exact .inl h
  · exact .inr ⟨g, cap, cur, h1, by omega, h3⟩
set_option maxHeartbeats 2000000 in
theorem prove_Of (k : Int) (ao : Option Addr) (hs : List ByteArray) (cap : Nat) (w : World) (hx : RowAt w ao (strs' hs)) (hao : ao = none → hs.length = 0 ∧ cap = 0) (hl : hs.length * 16 ≤ 140737488351232) (hg : GlobP w) :
    Calls Tryd.prog 17 #[.int .i64 k, .slice ao hs.length cap] w fun e w' => ∃ (ao' : Option Addr) (cap' p5 p2 p6 : Nat), e = .returned (.agg #[.int .i64 k, .int .i64 hs.length, .func (.func 43) #[] #[.pointer (some ⟨p5, 0, none⟩), .pointer (some ⟨p6, 0, none⟩)]]) ∧
      OfBox k ao' hs cap' p5 p2 p6 w' ∧ w.heap.size ≤ p5 ∧ w.heap.size ≤ p2 ∧ w.heap.size ≤ p6 ∧ w'.ownsRow w.heap.size 9 1 (.slice ao' hs.length cap') hs.length (strs' hs) ∧ Below w.heap.size w w' := by
  have b0 := ((Below.refl w.heap.size w).alloc (Nat.le_refl _) (.cells #[.int .i64 k] 3)).alloc (by simp) (.cells #[.int .i64 0, .int .i64 0, .nilFunc] 45)
  have HC := hid (slices_Clone ao hs cap _ (hx.below b0) hao hl)
  have B0 := hid b0
  have HG := hid hg
  clear hx hao hg b0
  go_enter Tryd.func17, Tryd.ntmps17
  go_wp2_with fail
  refine HC.out.mono ?_
  rintro e w1 ⟨v, rfl, ow, hb⟩
  obtain ⟨vo, vcap, rfl, _, hrow⟩ := own_row ow
  have hsz : w.heap.size + 2 ≤ w1.heap.size := by have := hb.size; simp at this; omega
  have lt0 : w.heap.size < ((w.alloc (.cells #[.int .i64 k] 3)).alloc (.cells #[.int .i64 0, .int .i64 0, .nilFunc] 45)).heap.size := by simp; omega
  have lt1 : w.heap.size + 1 < ((w.alloc (.cells #[.int .i64 k] 3)).alloc (.cells #[.int .i64 0, .int .i64 0, .nilFunc] 45)).heap.size := by simp
  have c0 : w1.cell? ⟨w.heap.size, 0, none⟩ = some (.int .i64 k) := (hb.cell lt0).trans (by simp [go_sem])
  have d0 : w1.cell? ⟨w.heap.size + 1, 0, none⟩ = some (.int .i64 0) := (hb.cell lt1).trans (by simp [go_sem])
  have d1 : w1.cell? ⟨w.heap.size + 1, 1, none⟩ = some (.int .i64 0) := (hb.cell lt1).trans (by simp [go_sem])
  have d2 : w1.cell? ⟨w.heap.size + 1, 2, none⟩ = some .nilFunc := (hb.cell lt1).trans (by simp [go_sem])
  have f0 : w1.frozen? ⟨w.heap.size + 1, 0, none⟩ = false := (hb.frozen lt1).trans (by simp [go_sem])
  have f1 : w1.frozen? ⟨w.heap.size + 1, 1, none⟩ = false := (hb.frozen lt1).trans (by simp [go_sem])
  have f2 : w1.frozen? ⟨w.heap.size + 1, 2, none⟩ = false := (hb.frozen lt1).trans (by simp [go_sem])
  have HR := hid hrow
  have HO := hid ow
  have HB := hid (Below.then' B0.out hb)
  have HG1 := hid ((HG.out.below B0.out).below hb)
  have aa : ∀ o o', Below w1.heap.size w1 ((w1.alloc o).alloc o') := fun o o' => ((Below.refl w1.heap.size w1).alloc (Nat.le_refl _) o).alloc (by simp) o'
  have C0 : ∀ o o', ((w1.alloc o).alloc o').cell? ⟨w.heap.size, 0, none⟩ = some (.int .i64 k) := fun o o' => ((aa o o').cell (by simp; omega)).trans c0
  have D0 : ∀ o o', ((w1.alloc o).alloc o').cell? ⟨w.heap.size + 1, 0, none⟩ = some (.int .i64 0) := fun o o' => ((aa o o').cell (by simp; omega)).trans d0
  have D1 : ∀ o o', ((w1.alloc o).alloc o').cell? ⟨w.heap.size + 1, 1, none⟩ = some (.int .i64 0) := fun o o' => ((aa o o').cell (by simp; omega)).trans d1
  have D2 : ∀ o o', ((w1.alloc o).alloc o').cell? ⟨w.heap.size + 1, 2, none⟩ = some .nilFunc := fun o o' => ((aa o o').cell (by simp; omega)).trans d2
  have F0 : ∀ o o', ((w1.alloc o).alloc o').frozen? ⟨w.heap.size + 1, 0, none⟩ = false := fun o o' => ((aa o o').frozen (by simp; omega)).trans f0
  have F1 : ∀ o o', ((w1.alloc o).alloc o').frozen? ⟨w.heap.size + 1, 1, none⟩ = false := fun o o' => ((aa o o').frozen (by simp; omega)).trans f1
  have F2 : ∀ o o', ((w1.alloc o).alloc o').frozen? ⟨w.heap.size + 1, 2, none⟩ = false := fun o o' => ((aa o o').frozen (by simp; omega)).trans f2
  clear hrow ow hb lt0 lt1 aa c0 d0 d1 d2 f0 f1 f2
  go_wp2_with fail
  refine bodyPost_ret_by (v := .agg #[.int .i64 k, .int .i64 hs.length, .func (.func 43) #[] #[.pointer (some ⟨w1.heap.size, 0, none⟩), .pointer (some ⟨w1.heap.size + 1, 0, none⟩)]]) (by rw [results_cell1 rfl]; go_simp) rfl ?_
  have hb2 : ∀ o o', Below w.heap.size w ((w1.alloc o).alloc o') := fun o o' => (HB.out.alloc HB.out.size o).alloc (by simp; omega) o'
  have hB : ∀ o o' a b c, Below w.heap.size w (((((w1.alloc o).alloc o').setCell ⟨w.heap.size + 1, 0, none⟩ a).setCell ⟨w.heap.size + 1, 1, none⟩ b).setCell ⟨w.heap.size + 1, 2, none⟩ c) := fun o o' a b c =>
    (((hb2 o o').setCell (by simp) _).setCell (by simp) _).setCell (by simp) _
  have hO : ∀ o o' a b c, (((((w1.alloc o).alloc o').setCell ⟨w.heap.size + 1, 0, none⟩ a).setCell ⟨w.heap.size + 1, 1, none⟩ b).setCell ⟨w.heap.size + 1, 2, none⟩ c).ownsRow w.heap.size 9 1 (.slice vo hs.length vcap) hs.length (strs' hs) := fun o o' a b c => by
    have h1 := (HO.out.alloc o).alloc o'
    have h2 := RowKit.ownsRow_setCell_below (a := ⟨w.heap.size + 1, 0, none⟩) h1 (by simp) a
    have h3 := RowKit.ownsRow_setCell_below (a := ⟨w.heap.size + 1, 1, none⟩) h2 (by simp) b
    exact own_base (RowKit.ownsRow_setCell_below (a := ⟨w.heap.size + 1, 2, none⟩) h3 (by simp) c) (by simp; omega)
  refine ⟨vo, vcap, w1.heap.size, w.heap.size, w1.heap.size + 1, rfl, ⟨?_, ?_, ?_, ?_, ?_⟩, by omega, by omega, by omega, hO _ _ _ _ _, hB _ _ _ _ _⟩
  · rw [set3_far _ (by omega)]; simp [go_sem]
  · obtain ⟨ao2, cap2, e, _, hr⟩ := own_row (hO (.cells #[.slice vo hs.length vcap] 36) (.cells #[.func (.func 41) #[] #[.pointer (some ⟨w1.heap.size, 0, none⟩), .pointer (some ⟨w.heap.size, 0, none⟩), .pointer (some ⟨w1.heap.size + 1, 0, none⟩)]] 76) (.int .i64 k) (.int .i64 hs.length) (.func (.func 43) #[] #[.pointer (some ⟨w1.heap.size, 0, none⟩), .pointer (some ⟨w1.heap.size + 1, 0, none⟩)]))
    cases e
    exact hr
  · rw [set3_far _ (by omega)]; exact C0 _ _
  · rw [set3_far _ (by omega)]; simp [go_sem]
  · exact HG.out.below (hB _ _ _ _ _)
end Go.Proofs.YtocjjiacmedjmaaDoor
