/- The walk of annalslaw9.CheckConsistency. -/
import Derived.Test.YtcgfeeommhljgaaDoorCons
import Derived.Test.YtcgfeeommhljgaaDoorCheckInclusionWalk
set_option maxRecDepth 100000
namespace Go.Proofs.YtcgfeeommhljgaaDoor
open Go Go.RowKit

theorem law_CheckConsistency (k m n : Int) (old root : ByteArray) (ao : Option Addr) (xs : List ByteArray) (cap : Nat) (w : World) (_bk : -9223372036854775808 ≤ k ∧ k ≤ 9223372036854775807) (_bi : -9223372036854775808 ≤ m ∧ m ≤ 9223372036854775807) (_bn : -9223372036854775808 ≤ n ∧ n ≤ 9223372036854775807)
    (_so : old.data.toList.length ≤ 140737488351232) (_sr : root.data.toList.length ≤ 140737488351232) (hx : RowAt w ao (strs' xs)) (hao : ao = none → xs.length = 0 ∧ cap = 0) (hl : xs.length * 16 ≤ 140737488351232) (hcap : xs.length ≤ cap) (hg : GlobP w ∧ GlobR w) :
    Calls Tryd.prog 8 #[.int .i64 k, .int .i64 m, .int .i64 n, .string old, .string root, .slice ao xs.length cap] w fun e w' => e = .returned (.bool true) ∧ Below w.heap.size w w' := by
  have hp := hid (law_twin ao xs cap w hx hao hl)
  have r2 := hid (fun W (hb : Below w.heap.size w W) => ref_Consistency k m n old root ao xs cap hao hcap hl W (hx.below hb) (hg.2.below hb))
  have hs := hid (fun v w0 W wt (hv : TwinS w0 wt v xs) (hbt : Below wt.heap.size wt W) (hb : Below w.heap.size w W) => law_kept v w0 W ao xs cap wt hv hbt (hx.below hb) hl)
  have HG := hid hg.1
  obtain ⟨I, hI⟩ : ∃ I, I = consN k m n old root xs := ⟨_, rfl⟩
  rw [← hI] at r2
  have HI := hid hI
  clear hx hao hcap hg hI
  go_enter Tryd.func8, Tryd.ntmps8
  go_wp2_with fail
  refine (hp.out).mono ?_
  rintro e w1 ⟨v, rfl, ht⟩
  have HT := hid ht
  obtain ⟨g, cap1, hv, hcap1, hrow⟩ := ht.row
  have c2 := hid (fun W (hb : Below w1.heap.size w1 W) => check_Consistency k m n old root (some ⟨g, 0, none⟩) xs cap1 (fun h => by cases h) hcap1 hl W (hrow.below hb) ((HG.out.below HT.out.below).below hb))
  rw [← HI.out] at c2
  clear hrow ht
  subst hv
  go_wp2_with fail
  refine (c2.out _ (Below.refl _ _)).mono ?_
  rintro e w4 ⟨rfl, hb4⟩
  have B4 := hid hb4; clear hb4
  go_wp2_with fail
  refine (r2.out _ (Below.then' HT.out.below B4.out)).mono ?_
  rintro e w5 ⟨rfl, hb5⟩
  have B5 := hid (Below.then' B4.out hb5); clear hb5
  go_wp2_with fail
  refine (hs.out _ _ _ _ HT.out B5.out (Below.then' HT.out.below B5.out)).mono ?_
  rintro e w6 ⟨rfl, hb6⟩
  have B6 := hid (Below.then' HT.out.below (Below.then' B5.out hb6)); clear hb6
  go_wp2_with fail
  go_ret
  exact ⟨rfl, B6.out⟩
end Go.Proofs.YtcgfeeommhljgaaDoor
