/- annalslaw8's num and asked. -/
import Derived.Test.YtaaldkkfedinpaaDoorRoot
import Derived.Handy
set_option maxRecDepth 100000
namespace Go.Proofs.YtaaldkkfedinpaaDoor
open Go Go.RowKit

theorem law8_num (n : Int) (w : World) : Calls Tryd.prog 19 #[.int .i64 n] w fun e w' => e = .returned (.int .i64 n) ∧ w = w' := by
  go_enter Tryd.func19, Tryd.ntmps19
  go_wp2
  go_ret
  exact ⟨rfl, rfl⟩
theorem askV_get (l : List (Int × Int)) (k : Nat) (hk : k < l.length) : (askV l)[2 * k]? = some (.int .i64 l[k].1) ∧ (askV l)[2 * k + 1]? = some (.int .i64 l[k].2) := by
  induction l generalizing k with
  | nil => simp at hk
  | cons a l ih =>
    have e : askV (a :: l) = .int .i64 a.1 :: .int .i64 a.2 :: askV l := rfl
    rw [e]
    cases k with
    | zero => exact ⟨rfl, rfl⟩
    | succ k =>
      have := ih k (by simpa using hk)
      rw [show 2 * (k + 1) = 2 * k + 1 + 1 by omega, show 2 * k + 1 + 1 + 1 = (2 * k + 1) + 1 + 1 by omega]
      simpa using this
/-- Two sources that were asked the same. -/
theorem law_asked (p1 p2 B B2 : Nat) (u u2 : Value) (l : List (Int × Int)) (w : World) (hl : l.length ≤ 4611686018427387904) (c1 : w.cell? ⟨p1, 6, none⟩ = some u) (c2 : w.cell? ⟨p2, 6, none⟩ = some u2) (h1 : w.ownsRow B 84 2 u l.length (askV l)) (h2 : w.ownsRow B2 84 2 u2 l.length (askV l)) :
    Calls Tryd.prog 20 #[.pointer (some ⟨p1, 0, none⟩), .pointer (some ⟨p2, 0, none⟩)] w fun e w' => e = .returned (.bool true) ∧ Below w.heap.size w w' := by
  obtain ⟨ao, cap, rfl⟩ := own_val h1
  obtain ⟨bo, cap2, rfl⟩ := own_val h2
  have H1 := hid h1
  have H2 := hid h2
  have C1 := hid c1
  have C2 := hid c2
  clear h1 h2
  go_enter Tryd.func20, Tryd.ntmps20
  go_wp2_with fail
  go_quiet (fail)
  go_wp2_with fail
  go_loopw [5] (fun i' wr => ∃ i : Nat, i' = .int .i64 i ∧ i ≤ l.length ∧ Below w.heap.size w wr) (fun i' _ => (l.length - intOf i').toNat)
  case atStart => exact ⟨0, rfl, by omega, below_drewN (Below.refl _ _) _⟩
  case round =>
    clear c1 c2
    obtain ⟨i, rfl, hi, hbw⟩ := hrel
    have HB := hid hbw
    have c1 := (hbw.cell (World.block_lt_of_cell? _ _ C1.out)).trans C1.out
    have c2 := (hbw.cell (World.block_lt_of_cell? _ _ C2.out)).trans C2.out
    by_cases hlt : i < l.length
    · obtain ⟨g1, g2⟩ := askV_get l i hlt
      have cells := fun {B3 : Nat} {ao : Option Addr} {cap : Nat} (h : w.ownsRow B3 84 2 (.slice ao l.length cap) l.length (askV l)) => (show ∃ g, ao = some ⟨g, 0, none⟩ ∧ wr.cell? ⟨g, i * 2, none⟩ = some (.int .i64 l[i].1) ∧ wr.cell? ⟨g, i * 2 + 1, none⟩ = some (.int .i64 l[i].2) by
        rcases h.2 with ⟨hv, hn⟩ | ⟨g, cap', cur, hv, _, hg, _⟩
        · omega
        · cases hv
          have hc := fun (j : Nat) (x : Value) (hx : (askV l)[j]? = some x) => (show wr.cell? ⟨g, j, none⟩ = some x by
            have := h.cells (g := g) rfl j x hx
            have ha : (⟨g, 0, none⟩ : Addr).add j = ⟨g, j, none⟩ := by unfold Addr.add; split <;> simp_all
            rw [ha] at this
            exact (hbw.cell (World.block_lt_of_cell? _ _ this)).trans this)
          exact ⟨g, rfl, by rw [Nat.mul_comm]; exact hc _ _ g1, by rw [Nat.mul_comm]; exact hc _ _ g2⟩)
      obtain ⟨ga, rfl, a0, a1⟩ := cells H1.out
      obtain ⟨gb, rfl, b0, b1⟩ := cells H2.out
      clear cells g1 g2 hbw
      generalize l[i].1 = x at *
      generalize l[i].2 = y at *
      go_wp2_with fail
      go_quiet (fail)
      go_wp2_with fail
      go_roundw
      case rel => exact ⟨i + 1, by go_num, by omega, below_drewN HB.out _⟩
      case measure => simp [intOf]; omega
    · clear hbw
      go_wp2_with fail
      go_ret
      exact ⟨rfl, HB.out⟩
end Go.Proofs.YtaaldkkfedinpaaDoor
