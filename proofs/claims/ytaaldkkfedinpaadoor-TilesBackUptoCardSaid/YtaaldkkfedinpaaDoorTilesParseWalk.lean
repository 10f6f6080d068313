/- The walk of annalslaw23.TilesParse. -/
import Derived.Test.YtaaldkkfedinpaaDoorParseRW
set_option maxRecDepth 100000
namespace Go.Proofs.YtaaldkkfedinpaaDoor
open Go Go.RowKit

theorem law_num (n : Int) (w : World) : Calls Tryd.prog 12 #[.int .i64 n] w fun e w' => e = .returned (.int .i64 n) ∧ w = w' := by
  go_enter Tryd.func12, Tryd.ntmps12
  go_wp2
  go_ret
  exact ⟨rfl, rfl⟩
theorem law_TilesParse (s : ByteArray) (w : World) (hs : s.size ≤ 1048576) (ht : TabP w) (he : ErrV w) (hm : MaxV w) :
    Calls Tryd.prog 3 #[.string s] w fun e w' => e = .returned (.bool true) ∧ Below w.heap.size w w' := by
  have H1 := hid (tiles_Parse s hs w ht he hm)
  have H2 := hid (fun (W : World) (hW : Below w.heap.size w W) => ref23_Parse s hs W (ht.below hW))
  generalize hp : parT s = p at *
  obtain ⟨a, b, c, d⟩ := p
  generalize parE s = z at *
  unfold tileV at H1 H2
  clear hp ht he hm
  go_enter Tryd.func3, Tryd.ntmps3
  go_wp2_with fail
  refine H1.out.mono ?_
  rintro e w1 ⟨rfl, hb⟩
  have B1 := (Below.then' hb ((Below.refl w1.heap.size w1).alloc (Nat.le_refl _) (.cells #[.int .i64 a, .int .i64 b, .int .i64 c, .int .i64 d] 23)))
  have HB1 := hid B1
  have HT1 := hid (TB.new w1 a b c d)
  clear hb B1
  go_wp2_with fail
  refine (H2.out _ HB1.out).mono ?_
  rintro e w2 ⟨rfl, hb⟩
  have HB2 := hid (Below.then' HB1.out hb)
  obtain ⟨q0, q1, q2, q3, q4⟩ := HT1.out.below hb
  have hlt : w1.heap.size < w2.heap.size := World.block_lt_of_cell? _ _ q0
  have HB3 := hid (Below.then' HB2.out ((Below.refl w2.heap.size w2).alloc (Nat.le_refl _) (.cells #[.int .i64 a, .int .i64 b, .int .i64 c, .int .i64 d] 23)))
  obtain ⟨k0, k1, k2, k3, k4⟩ := (HT1.out.below hb).below ((Below.refl w2.heap.size w2).alloc (Nat.le_refl _) (.cells #[.int .i64 a, .int .i64 b, .int .i64 c, .int .i64 d] 23))
  clear hb q4 k4 q0 q1 q2 q3
  go_wp2_with (go_at_call 12; refine (law_num _ _).mono ?_; rintro e w' ⟨rfl, rfl⟩)
  go_ret
  exact ⟨rfl, HB3.out⟩
end Go.Proofs.YtaaldkkfedinpaaDoor
