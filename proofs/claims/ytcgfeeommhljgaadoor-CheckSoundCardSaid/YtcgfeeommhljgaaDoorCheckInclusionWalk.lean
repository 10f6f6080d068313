/- The walk of annalslaw9.CheckInclusion. -/
import Derived.Test.YtcgfeeommhljgaaDoorIncl2
set_option maxRecDepth 100000
namespace Go.Proofs.YtcgfeeommhljgaaDoor
open Go Go.RowKit

theorem TwinS.row {w wt : World} {v : Value} {xs : List ByteArray} (h : TwinS w wt v xs) : ∃ g cap, v = .slice (some ⟨g, 0, none⟩) xs.length cap ∧ xs.length ≤ cap ∧ RowAt wt (some ⟨g, 0, none⟩) (strs' xs) := by
  obtain ⟨g, cap, hv, hc0, _, hc, _⟩ := h
  refine ⟨g, cap, hv, by omega, .inr ⟨g, 0, rfl, fun i hi => ?_⟩⟩
  rw [strs'_length] at hi
  rw [strsG xs i hi, Nat.zero_add, hc i (by simp; omega), List.getElem_append_left hi]
theorem TwinS.below {w wt : World} {v : Value} {xs : List ByteArray} (h : TwinS w wt v xs) : Below w.heap.size w wt := by
  obtain ⟨_, _, _, _, _, _, hb⟩ := h
  exact hb

theorem law_CheckInclusion (k i n : Int) (hash : ByteArray) (ao : Option Addr) (xs : List ByteArray) (cap : Nat) (root : ByteArray) (w : World) (_bk : -9223372036854775808 ≤ k ∧ k ≤ 9223372036854775807) (_bi : -9223372036854775808 ≤ i ∧ i ≤ 9223372036854775807) (_bn : -9223372036854775808 ≤ n ∧ n ≤ 9223372036854775807) (_sh : hash.data.toList.length ≤ 140737488351232)
    (hx : RowAt w ao (strs' xs)) (hao : ao = none → xs.length = 0 ∧ cap = 0) (hl : xs.length * 16 ≤ 140737488351232) (hcap : xs.length ≤ cap) (_sr : root.data.toList.length ≤ 140737488351232) (hg : GlobP w ∧ GlobR w) :
    Calls Tryd.prog 3 #[.int .i64 k, .int .i64 i, .int .i64 n, .string hash, .slice ao xs.length cap, .string root] w fun e w' => e = .returned (.bool true) ∧ Below w.heap.size w w' := by
  have hp := hid (law_twin ao xs cap w hx hao hl)
  have r1 := hid (fun W (hb : Below w.heap.size w W) => ref_Leads k i n hash ao xs cap hao hcap hl W (hx.below hb) (hg.2.below hb))
  have r2 := hid (fun W (hb : Below w.heap.size w W) => ref_Inclusion k i n hash ao xs cap root hao hcap hl W (hx.below hb) (hg.2.below hb))
  have hs := hid (fun v w0 W wt (hv : TwinS w0 wt v xs) (hbt : Below wt.heap.size wt W) (hb : Below w.heap.size w W) => law_kept v w0 W ao xs cap wt hv hbt (hx.below hb) hl)
  have HG := hid hg.1
  obtain ⟨L, hL⟩ : ∃ L, L = leadsN k i n hash xs := ⟨_, rfl⟩
  obtain ⟨I, hI⟩ : ∃ I, I = inclN k i n hash xs root := ⟨_, rfl⟩
  rw [← hL] at r1
  rw [← hI] at r2
  have HL := hid hL
  have HI := hid hI
  obtain ⟨L1, L2⟩ := L
  simp only at r1
  clear hx hao hcap hg hL hI
  go_enter Tryd.func3, Tryd.ntmps3
  go_wp2_with fail
  refine (hp.out).mono ?_
  rintro e w1 ⟨v, rfl, ht⟩
  have HT := hid ht
  obtain ⟨g, cap1, hv, hcap1, hrow⟩ := ht.row
  have c1 := hid (fun W (hb : Below w1.heap.size w1 W) => check_Leads k i n hash (some ⟨g, 0, none⟩) xs cap1 (fun h => by cases h) hcap1 hl W (hrow.below hb) ((HG.out.below HT.out.below).below hb))
  have c2 := hid (fun W (hb : Below w1.heap.size w1 W) => check_Inclusion k i n hash (some ⟨g, 0, none⟩) xs cap1 root (fun h => by cases h) hcap1 hl W (hrow.below hb) ((HG.out.below HT.out.below).below hb))
  rw [← HL.out] at c1
  rw [← HI.out] at c2
  simp only at c1
  clear hrow ht
  subst hv
  go_wp2_with fail
  refine (c1.out _ (Below.refl _ _)).mono ?_
  rintro e w2 ⟨rfl, hb2⟩
  have B2 := hid hb2; clear hb2
  go_wp2_with fail
  refine (r1.out _ (Below.then' HT.out.below B2.out)).mono ?_
  rintro e w3 ⟨rfl, hb3⟩
  have B3 := hid (Below.then' B2.out hb3); clear hb3
  go_wp2_with fail
  refine (c2.out _ B3.out).mono ?_
  rintro e w4 ⟨rfl, hb4⟩
  have B4 := hid (Below.then' B3.out hb4); clear hb4
  go_wp2_with fail
  refine (r2.out _ (Below.then' HT.out.below B4.out)).mono ?_
  rintro e w5 ⟨rfl, hb5⟩
  have B5 := hid (Below.then' B4.out hb5); clear hb5
  go_wp2_with fail
  refine (hs.out _ _ _ _ HT.out B5.out (Below.then' HT.out.below B5.out)).mono ?_
  rintro e w6 ⟨rfl, hb6⟩
  have B6 := hid (Below.then' HT.out.below (Below.then' B5.out hb6)); clear hb6
  go_wp2_with fail
  go_ret
  exact ⟨rfl, B6.out⟩
end Go.Proofs.YtcgfeeommhljgaaDoor
