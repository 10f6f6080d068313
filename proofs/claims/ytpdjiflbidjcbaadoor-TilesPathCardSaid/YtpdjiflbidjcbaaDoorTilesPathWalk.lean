/- The walk of annalslaw23.TilesPath. -/
import Derived.Test.YtpdjiflbidjcbaaDoorRefTPath
set_option maxRecDepth 100000
namespace Go.Proofs.YtpdjiflbidjcbaaDoor
open Go Go.RowKit

theorem law_num (n : Int) (w : World) : Calls Tryd.prog 6 #[.int .i64 n] w fun e w' => e = .returned (.int .i64 n) ∧ w = w' := by
  go_enter Tryd.func6, Tryd.ntmps6
  go_wp2
  go_ret
  exact ⟨rfl, rfl⟩
/-- The tile's box. -/
def TileAt (w : World) (h l i c : Int) (W : World) : Prop := Below w.heap.size w W ∧ W.cell? ⟨w.heap.size, 0, none⟩ = some (.int .i64 h) ∧ W.cell? ⟨w.heap.size, 1, none⟩ = some (.int .i64 l) ∧ W.cell? ⟨w.heap.size, 2, none⟩ = some (.int .i64 i) ∧ W.cell? ⟨w.heap.size, 3, none⟩ = some (.int .i64 c)
theorem TileAt.start (w : World) (h l i c : Int) : TileAt w h l i c (w.alloc (.cells #[.int .i64 h, .int .i64 l, .int .i64 i, .int .i64 c] 23)) := by
  refine ⟨(Below.refl _ _).alloc (Nat.le_refl _) _, ?_, ?_, ?_, ?_⟩ <;> simp
theorem TileAt.step {w : World} {h l i c : Int} {w' w'' : World} (k : TileAt w h l i c w') (hb : Below w'.heap.size w' w'') : TileAt w h l i c w'' := by
  obtain ⟨k1, k3, k4, k5, k6⟩ := k
  have hk := fun {p : Addr} {v : Value} (hc : w'.cell? p = some v) => (hb.cell (World.block_lt_of_cell? _ _ hc)).trans hc
  exact ⟨Below.then' k1 hb, hk k3, hk k4, hk k5, hk k6⟩
theorem law_TilesPath (h l i c : Int) (w : World) (bh : -9223372036854775808 ≤ h ∧ h ≤ 9223372036854775807) (bl : -9223372036854775808 ≤ l ∧ l ≤ 9223372036854775807) (bi : -9223372036854775808 ≤ i ∧ i ≤ 9223372036854775807) (bc : -9223372036854775808 ≤ c ∧ c ≤ 9223372036854775807) (ht : TabP w) :
    Calls Tryd.prog 3 #[.agg #[.int .i64 h, .int .i64 l, .int .i64 i, .int .i64 c]] w fun e w' => e = .returned (.bool true) ∧ Below w.heap.size w w' := by
  have H1 := hid (fun (W : World) (hW : Below w.heap.size w W) => tiles_Path h l i c bh bl bi bc W (ht.below hW))
  have H2 := hid (fun (W : World) (hW : Below w.heap.size w W) => ref23_Path h l i c bh bl bi bc W (ht.below hW))
  generalize pathS h l i c = s at *
  generalize pathE h l i c = z at *
  have hss : (s.toList == s.toList) = true := by simp
  clear bh bl bi bc ht
  go_enter Tryd.func3, Tryd.ntmps3
  go_wp2_with fail
  refine (H1.out _ (TileAt.start w h l i c).1).mono ?_
  rintro e w1 ⟨rfl, hb⟩
  have K1 := hid ((TileAt.start w h l i c).step hb)
  obtain ⟨_, q1, q2, q3, q4⟩ := K1.out
  clear hb
  go_wp2_with fail
  refine (H2.out _ K1.out.1).mono ?_
  rintro e w2 ⟨rfl, hb⟩
  have HB := hid (K1.out.step hb).1
  clear hb q1 q2 q3 q4
  go_wp2_with (go_at_call 6; refine (law_num _ _).mono ?_; rintro e w' ⟨rfl, rfl⟩)
  go_ret
  exact ⟨rfl, HB.out⟩
end Go.Proofs.YtpdjiflbidjcbaaDoor
