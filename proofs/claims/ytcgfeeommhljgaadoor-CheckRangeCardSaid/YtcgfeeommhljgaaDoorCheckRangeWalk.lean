/- The walk of annalslaw9.CheckRange. -/
import Derived.Test.YtcgfeeommhljgaaDoorRange
import Derived.Test.YtcgfeeommhljgaaDoorCheckInclusionWalk
set_option maxRecDepth 100000
namespace Go.Proofs.YtcgfeeommhljgaaDoor
open Go Go.RowKit

theorem law_CheckRange (k lo n : Int) (a1 : Option Addr) (hs : List ByteArray) (d1 : Nat) (a2 : Option Addr) (xs : List ByteArray) (d2 : Nat) (root : ByteArray) (w : World) (_bk : -9223372036854775808 ≤ k ∧ k ≤ 9223372036854775807) (bl : -9223372036854775808 ≤ lo ∧ lo ≤ 9223372036854775807) (_bn : -9223372036854775808 ≤ n ∧ n ≤ 9223372036854775807)
    (hx1 : RowAt w a1 (strs' hs)) (hao1 : a1 = none → hs.length = 0 ∧ d1 = 0) (hl1 : hs.length * 16 ≤ 140737488351232) (_hcap1 : hs.length ≤ d1) (hx2 : RowAt w a2 (strs' xs)) (hao2 : a2 = none → xs.length = 0 ∧ d2 = 0) (hl2 : xs.length * 16 ≤ 140737488351232) (_hcap2 : xs.length ≤ d2) (_sr : root.data.toList.length ≤ 140737488351232) (hg : GlobP w ∧ GlobR w) :
    Calls Tryd.prog 7 #[.int .i64 k, .int .i64 lo, .int .i64 n, .slice a1 hs.length d1, .slice a2 xs.length d2, .string root] w fun e w' => e = .returned (.bool true) ∧ Below w.heap.size w w' := by
  have p1 := hid (law_twin a1 hs d1 w hx1 hao1 hl1)
  have p2 := hid (fun W (hb : Below w.heap.size w W) => law_twin a2 xs d2 W (hx2.below hb) hao2 hl2)
  have r2 := hid (fun W (hb : Below w.heap.size w W) => ref_Range k lo n a1 hs d1 a2 xs d2 root hao1 hl1 hl2 W (hx1.below hb) (hx2.below hb) (hg.2.below hb))
  have s1 := hid (fun v w0 W wt (hv : TwinS w0 wt v hs) (hbt : Below wt.heap.size wt W) (hb : Below w.heap.size w W) => law_kept v w0 W a1 hs d1 wt hv hbt (hx1.below hb) hl1)
  have s2 := hid (fun v w0 W wt (hv : TwinS w0 wt v xs) (hbt : Below wt.heap.size wt W) (hb : Below w.heap.size w W) => law_kept v w0 W a2 xs d2 wt hv hbt (hx2.below hb) hl2)
  have HG := hid hg.1
  obtain ⟨I, hI⟩ : ∃ I, I = rangeN k lo n hs xs root := ⟨_, rfl⟩
  rw [← hI] at r2
  have HI := hid hI
  clear hx1 hx2 hao1 hao2 hg hI
  go_enter Tryd.func7, Tryd.ntmps7
  go_wp2_with fail
  refine (p1.out).mono ?_
  rintro e w1 ⟨v1, rfl, ht1⟩
  have HT1 := hid ht1
  obtain ⟨g1, e1, hv1, hcap1, hrow1⟩ := ht1.row
  have HR1 := hid hrow1
  clear hrow1 ht1
  subst hv1
  go_wp2_with fail
  refine (p2.out _ HT1.out.below).mono ?_
  rintro e w2 ⟨v2, rfl, ht2⟩
  have HT2 := hid ht2
  obtain ⟨g2, e2, hv2, hcap2, hrow2⟩ := ht2.row
  have hB2 := Below.then' HT1.out.below ht2.below
  have c2 := hid (check_Range k lo n bl (some ⟨g1, 0, none⟩) hs e1 (some ⟨g2, 0, none⟩) xs e2 root (fun h => by cases h) (fun h => by cases h) hcap1 hcap2 hl1 hl2 w2 (HR1.out.below ht2.below) hrow2 (HG.out.below hB2))
  rw [← HI.out] at c2
  have HB2 := hid hB2
  clear hrow2 ht2 hB2
  subst hv2
  go_wp2_with fail
  refine (c2.out).mono ?_
  rintro e w4 ⟨rfl, hb4⟩
  have B4 := hid hb4; clear hb4
  go_wp2_with fail
  refine (r2.out _ (Below.then' HB2.out B4.out)).mono ?_
  rintro e w5 ⟨rfl, hb5⟩
  have B5 := hid (Below.then' B4.out hb5); clear hb5
  go_wp2_with fail
  refine (s1.out _ _ _ _ HT1.out (Below.then' HT2.out.below B5.out) (Below.then' HB2.out B5.out)).mono ?_
  rintro e w6 ⟨rfl, hb6⟩
  have B6 := hid (Below.then' B5.out hb6); clear hb6
  go_wp2_with fail
  refine (s2.out _ _ _ _ HT2.out B6.out (Below.then' HB2.out B6.out)).mono ?_
  rintro e w7 ⟨rfl, hb7⟩
  have B7 := hid (Below.then' HB2.out (Below.then' B6.out hb7)); clear hb7
  go_wp2_with fail
  go_ret
  exact ⟨rfl, B7.out⟩
end Go.Proofs.YtcgfeeommhljgaaDoor
