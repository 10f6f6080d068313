/- Walk of tiles.number: a number of a few digits, or -1. -/
import Derived.Test.YtaaldkkfedinpaaDoorShelfParse
import Derived.Test.YtaaldkkfedinpaaDoorKit
set_option maxRecDepth 100000
namespace Go.Proofs.YtaaldkkfedinpaaDoor
open Go Go.RowKit

/-- The library's two sentinels lie. -/
def ErrV (w : World) : Prop := (∃ ev, w.cell? ⟨1, 0, none⟩ = some ev ∧ (ev = .nilIface ∨ ∃ te pe, ev = .iface te pe)) ∧ (∃ ev, w.cell? ⟨2, 0, none⟩ = some ev ∧ (ev = .nilIface ∨ ∃ te pe, ev = .iface te pe))
theorem ErrV.below {w w' : World} (h : ErrV w) (hb : Below w.heap.size w w') : ErrV w' := by
  obtain ⟨⟨a, h1, h2⟩, b, h3, h4⟩ := h
  exact ⟨⟨a, (hb.cell (World.block_lt_of_cell? _ _ h1)).trans h1, h2⟩, b, (hb.cell (World.block_lt_of_cell? _ _ h3)).trans h3, h4⟩
def numR (s : ByteArray) : Int := match Lib.atoiAll s.data.toList with | .ok v => if v < 0 then -1 else v | _ => -1
theorem err_no (a : Value) (t : TypeId) (w : World) : Sem.run Tryd.prog (binOp BinOp.neq 104 (.iface t a) .nilIface) w = .ok (.bool true) w := by rfl
theorem err_yes (w : World) : Sem.run Tryd.prog (binOp BinOp.neq 104 .nilIface .nilIface) w = .ok (.bool false) w := by rfl
theorem tiles_number (s : ByteArray) (hs : s.size ≤ 140737488355328) (w : World) (he : ErrV w) : Calls Tryd.prog 32 #[.string s] w fun e w' => e = .returned (.int .i64 (numR s)) ∧ Below w.heap.size w w' := by
  obtain ⟨⟨a, h1, h2⟩, b, h3, h4⟩ := he
  have n1 := err_no
  have n2 := err_yes
  rcases hr : Lib.atoiAll s.data.toList with v | _ | _
  case ok =>
    have hc := hid (Tryd.strconv_Atoi_ok s (by omega) v hr w)
    have hb0 : ∀ w', (w' = w ∨ ∃ t, w' = Lib.bytesWorld w 5 t) → Below w.heap.size w w' := by
      rintro w' (rfl | ⟨t, rfl⟩)
      · exact Below.refl _ _
      · exact Lib.bytesWorld_below _ _ _
    have HB0 := hid hb0
    clear hb0
    by_cases hv : v < 0
    · have HR : Hid (numR s = -1) := by unfold Hid numR; rw [hr]; simp only; rw [if_pos hv]
      clear h1 h2 h3 h4 hr
      go_enter Tryd.func32, Tryd.ntmps32
      go_wp2_with fail
      refine hc.out.mono ?_
      rintro e w' ⟨rfl, hw⟩
      have hb := hid (HB0.out w' hw)
      clear hw
      go_wp2_with fail
      go_ret
      exact ⟨by rw [HR.out]; rfl, hb.out⟩
    · have HR : Hid (numR s = v) := by unfold Hid numR; rw [hr]; simp only; rw [if_neg hv]
      clear h1 h2 h3 h4 hr
      go_enter Tryd.func32, Tryd.ntmps32
      go_wp2_with fail
      refine hc.out.mono ?_
      rintro e w' ⟨rfl, hw⟩
      have hb := hid (HB0.out w' hw)
      clear hw
      go_wp2_with fail
      go_ret
      exact ⟨by rw [HR.out]; rfl, hb.out⟩
  rotate_left
  · have hc := hid (Tryd.strconv_Atoi_range s (by omega) hr b w h3 h4)
    have HR : Hid (numR s = -1) := by unfold Hid numR; rw [hr]
    clear h1 h2 h3 h4 hr
    go_enter Tryd.func32, Tryd.ntmps32
    go_wp2_with fail
    refine hc.out.mono ?_
    rintro e w' ⟨N, rfl, _, _, hw⟩
    have hb := hid hw
    clear hw
    go_wp2_with fail
    go_ret
    exact ⟨by rw [HR.out]; rfl, hb.out⟩
  · have hc := hid (Tryd.strconv_Atoi_none s (by omega) hr a w h1 h2)
    have HR : Hid (numR s = -1) := by unfold Hid numR; rw [hr]
    clear h1 h2 h3 h4 hr
    go_enter Tryd.func32, Tryd.ntmps32
    go_wp2_with fail
    refine hc.out.mono ?_
    rintro e w' ⟨N, rfl, _, _, hw⟩
    have hb := hid hw
    clear hw
    go_wp2_with fail
    go_ret
    exact ⟨by rw [HR.out]; rfl, hb.out⟩
end Go.Proofs.YtaaldkkfedinpaaDoor
