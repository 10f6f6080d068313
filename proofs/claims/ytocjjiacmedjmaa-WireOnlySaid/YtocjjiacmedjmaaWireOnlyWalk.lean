/- Walk of the law WireOnly. -/
import Derived.Test.YtocjjiacmedjmaaAgain
import Derived.Test.YtocjjiacmedjmaaFitted
set_option maxRecDepth 100000
namespace Go.Proofs.Ytocjjiacmedjmaa
open Go Go.RowKit

theorem un_empty : unLeaves ⟨#[76, 0]⟩ = ([], 0) := list_write (hs := []) ⟨by simp, by simp⟩ (by unfold leavesB; rw [List.length_nil, putVar_small 0 (by omega)]; rfl)
theorem Took.full {b : ByteArray} {l : Nat} (h : Took b l) : b.toList.isEmpty = false ∧ 0 < b.size := by
  obtain ⟨r, hr⟩ := h.lead
  have hs := tl_len b
  rw [hr] at hs
  refine ⟨?_, by rw [← hs]; simp⟩
  rw [ByteArray.toList_eq, hr]
  simp

set_option maxHeartbeats 4000000 in
theorem law_WireOnly (b : ByteArray) (c : Int) (w : World) (hb : b.size ≤ 140737488351232) :
    Calls Try.prog 5 #[.string b, .int .i64 c] w fun e w' => e = .returned (.bool true) ∧ Below w.heap.size w w' := by
  have HA := hid (law_again b (by omega) w)
  rcases again_one b with ⟨l, h⟩ | h
  · obtain ⟨hne, hsz⟩ := h.full
    have hpb := pick_bounds c b.size (by omega)
    have HPK := hid (law_pick c b.size (by omega) (by omega))
    obtain ⟨k, hk⟩ := Int.eq_ofNat_of_zero_le hpb.1
    rw [hk] at hpb
    simp only [hk] at HPK
    have hkl : k < b.size := by omega
    rw [again_yes h] at HA
    have HC := hid (fun W => law_again (b.extract 0 k) (by rw [ByteArray.size_extract]; omega) W)
    rw [again_cut h k hkl] at HC
    have HM := hid (fun x (hx : x.size = 1) W => law_again (b ++ x) (by rw [ByteArray.size_append]; omega) W)
    have HM2 := hid (fun x (hx : x.size = 1) => again_more h x (by omega))
    clear hk h hpb
    go_enter Try.func5, Try.ntmps5
    go_wp2_with fail
    refine Calls.mono HA.out ?_
    rintro e w1 ⟨rfl, b1⟩
    have B1 := hid b1
    clear b1
    simp only
    go_wp2_with ((go_at_call 13; refine (HPK.out _).mono ?_; rintro e w' ⟨rfl, rfl⟩))
    refine (HC.out _).mono ?_
    rintro e w2 ⟨rfl, b2⟩
    have B2 := hid (Below.then' B1.out b2)
    clear b2 B1
    simp only
    have hc := conv_one (P := Try.prog) 57 9 5 Try.underlying57 Try.underlying5 Try.underlying9 (c % 256) w2
    obtain ⟨y, hy⟩ : ∃ y : ByteArray, y = ⟨#[UInt8.ofNat (c % 256).toNat]⟩ := ⟨_, rfl⟩
    have hy1 : y.size = 1 := by rw [hy]; rfl
    rw [← hy] at hc
    have HY := hid hy1
    have hbig : ¬ 9223372036854775807 < b.size + y.size := by omega
    clear hy
    have hm := HM.out y hy1 (w2.alloc (.cells #[.int .u8 (c % 256)] 5))
    rw [HM2.out y hy1] at hm
    have HMM := hid hm
    clear hm
    go_wp2_with fail
    refine Calls.mono HMM.out ?_
    rintro e w3 ⟨rfl, b3⟩
    have B3 := hid (Below.then' (B2.out.alloc B2.out.size _) b3)
    simp only
    go_wp2_with fail
    go_ret
    exact ⟨rfl, B3.out⟩
  · rw [again_no h] at HA
    have HL := hid (fun W => wire_UnLeaves ⟨#[76, 0]⟩ (by decide) W)
    rw [un_empty] at HL
    have hnum := hid law_num
    clear h
    go_enter Try.func5, Try.ntmps5
    go_wp2_with fail
    refine Calls.mono HA.out ?_
    rintro e w1 ⟨rfl, b1⟩
    have B1 := hid b1
    clear b1
    simp only
    go_wp2_with fail
    refine (HL.out _).mono ?_
    rintro e w2 ⟨v, rfl, ow, b2⟩
    obtain ⟨lo, lcap, rfl⟩ := own_val ow
    have B2 := hid (Below.then' B1.out b2)
    clear ow b2 B1
    go_wp2_with ((go_at_call 9; refine (hnum.out _ _).mono ?_; rintro e w' ⟨rfl, rfl⟩))
    go_ret
    exact ⟨rfl, B2.out⟩
theorem law_WireOnly' (b : ByteArray) (c : Int) (w : World) (hb : b.size ≤ 140737488351232) (_hc : -9223372036854775808 ≤ c ∧ c ≤ 9223372036854775807) :
    Calls Try.prog 5 #[.string b, .int .i64 c] w fun e w' => e = .returned (.bool true) ∧ Below w.heap.size w w' := law_WireOnly b c w hb
end Go.Proofs.Ytocjjiacmedjmaa
