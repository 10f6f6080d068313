/- check.gathered: the walk. -/
import Derived.Test.YtcgfeeommhljgaaDoorReck
set_option maxRecDepth 100000
namespace Go.Proofs.YtcgfeeommhljgaaDoor
open Go Go.RowKit

theorem taken_at (B : Nat) (w : World) (ao : Option Addr) (xs : List ByteArray) (cap : Nat) (hB : B ≤ w.heap.size) (hc : xs.length ≤ cap) (hr : RowU B w ao (strs' xs)) (ty : TypeId) : TakenAt B w.heap.size xs 0 (w.alloc (.cells #[.slice ao xs.length cap] ty)) := by
  refine ⟨hB, by simp, by omega, (Arr.new w ty [.slice ao xs.length cap]).frozen 0, ao, cap, ?_, by omega, ?_⟩
  · rw [cell_of_row _ _ 0 _ _ _ (heap_alloc_new w _)]; simp
  · exact hr.below ((Below.refl _ _).alloc (Nat.le_refl _) _)
/-- What gathered answers. -/
def gathN (k : Int) (h : Nat → Nat → Nat) (n : Nat) (count : Int) (hashes proof : List ByteArray) (root : ByteArray) : Int :=
  if sizedN k count proof (hashes ++ [root]) ≠ 0 then sizedN k count proof (hashes ++ [root]) else if reckS k h hashes proof 0 n 0 0 = root then 0 else 90

set_option maxHeartbeats 400000 in
theorem check_gathered (k : Int) (n : Nat) (hn0 : 0 < n) (hn : n ≤ 4611686018427387904) (F : Nat) (caps : Array Value) (h : Nat → Nat → Nat) (count : Int)
    (a1 : Option Addr) (hashes : List ByteArray) (c1 : Nat) (a2 : Option Addr) (proof : List ByteArray) (c2 : Nat) (root : ByteArray)
    (n1 : a1 = none → hashes.length = 0 ∧ c1 = 0) (n2 : a2 = none → proof.length = 0 ∧ c2 = 0) (hc1 : hashes.length ≤ c1) (hc2 : proof.length ≤ c2) (hl1 : hashes.length * 16 ≤ 140737488351232) (hl2 : proof.length * 16 ≤ 140737488351232)
    (hlf : leafN h 0 n = hashes.length) (hsd : (sideN h 0 n : Int) = count) (w : World) (hr1 : RowAt w a1 (strs' hashes)) (hr2 : RowAt w a2 (strs' proof)) (hg : GlobP w)
    (hrun : ∀ (a b : Value) (W : World), (callFunc F (#[a, b] ++ caps)).run Tryd.prog W = .ok (.enter F (#[a, b] ++ caps)) W)
    (hcl : ∀ (W : World) (_ : Below w.heap.size w W) (a b : Int), 0 ≤ a → a < b → b ≤ 4611686018427387904 → Calls Tryd.prog F (#[.int .i64 a, .int .i64 b] ++ caps) W fun e w' => e = .returned (.int .i64 (h a.toNat b.toNat)) ∧ W = w') :
    Calls Tryd.prog 54 #[.int .i64 k, .int .i64 n, .func (.func F) #[] caps, .int .i64 count, .slice a1 hashes.length c1, .slice a2 proof.length c2, .string root] w
      fun e w' => e = .returned (.int .i64 (gathN k h n count hashes proof root)) ∧ Below w.heap.size w w' := by
  have hB1 := (Below.refl w.heap.size w).alloc (Nat.le_refl _) (.cells #[.string root] 9)
  have hB := hB1.alloc (by simp) (.cells #[.slice a1 hashes.length c1, .slice (some ⟨w.heap.size, 0, none⟩) 1 1] 22)
  have hpc : pcs [⟨a1, hashes, c1⟩, ⟨some ⟨w.heap.size, 0, none⟩, [root], 1⟩] = hashes ++ [root] := by simp [pcs]
  have hcc := slices_Concat (w.heap.size + 1) [⟨a1, hashes, c1⟩, ⟨some ⟨w.heap.size, 0, none⟩, [root], 1⟩] 2 (by simp) (by rw [hpc, List.length_append]; simp; omega) ((w.alloc (.cells #[.string root] 9)).alloc (.cells #[.slice a1 hashes.length c1, .slice (some ⟨w.heap.size, 0, none⟩) 1 1] 22))
    ⟨fun j hj => by
      have hn := heap_alloc_new (w.alloc (.cells #[.string root] 9)) (.cells #[.slice a1 hashes.length c1, .slice (some ⟨w.heap.size, 0, none⟩) 1 1] 22)
      rw [show (w.alloc (.cells #[.string root] 9)).heap.size = w.heap.size + 1 by simp] at hn
      rw [cell_of_row _ (w.heap.size + 1) j _ _ _ hn]
      match j, hj with
      | 0, _ => rfl
      | 1, _ => rfl,
     fun j hj => by
      match j, hj with
      | 0, _ => exact hr1.below hB
      | 1, _ => exact (row_new w [root]).below ((Below.refl _ _).alloc (Nat.le_refl _) _),
     fun j hj => by
      match j, hj with
      | 0, _ => exact n1
      | 1, _ => simp⟩
  rw [hpc] at hcc
  have HC := hid hcc
  have HB := hid hB
  have HSZ := hid (fun (W : World) (hW : Below w.heap.size w W) (g cap : Nat) (hrow : RowAt W (some ⟨g, 0, none⟩) (strs' (hashes ++ [root]))) => check_sized k count a2 proof c2 (some ⟨g, 0, none⟩) (hashes ++ [root]) cap W (hr2.below hW) n2 hrow (by simp) (by simp; omega))
  have HL : Hid (gathN k h n count hashes proof root = if sizedN k count proof (hashes ++ [root]) ≠ 0 then sizedN k count proof (hashes ++ [root]) else if reckS k h hashes proof 0 n 0 0 = root then 0 else 90) := rfl
  obtain ⟨r, hre⟩ : ∃ r, r = gathN k h n count hashes proof root := ⟨_, rfl⟩
  rw [← hre] at HL ⊢
  have hlen : (hashes ++ [root]).length = hashes.length + 1 := by simp
  have hpos : 0 < (strs' (hashes ++ [root])).length := by rw [strs'_length, hlen]; omega
  clear hcc hB hB1 hpc n1 n2 hre
  obtain ⟨oth, ho⟩ : ∃ o, o = hashes ++ [root] := ⟨_, rfl⟩
  rw [← ho] at HC HSZ HL hpos
  clear hlen
  by_cases hsz : sizedN k count proof oth = 0
  · obtain ⟨hf1, hf2, hpl⟩ := sized_zero hsz
    have hw := (wid_le k).1
    rw [hsz] at HSZ
    have hL1 := HL.out
    rw [hsz, if_neg (by simp)] at hL1
    have hf3 : fits (wid k) hashes := by rw [ho] at hf1; exact ((fits_app _ _ _).1 hf1).1
    have HR := hid (fun (W : World) (hW : Below w.heap.size w W) (H H1 : Nat) (e : W.heap.size = H) (e1 : W.heap.size + 1 = H1) =>
      show Calls Tryd.prog 89 #[.int .i64 k, .int .i64 0, .int .i64 n, .func (.func F) #[] caps, .func (.func 63) #[.pointer (some ⟨H, 0, none⟩)] #[], .func (.func 63) #[.pointer (some ⟨H1, 0, none⟩)] #[]] ((W.alloc (.cells #[.slice a1 hashes.length c1] 91)).alloc (.cells #[.slice a2 proof.length c2] 91)) fun e w' => e = .returned (.string (reckS k h hashes proof 0 n 0 0)) ∧ Below w.heap.size w w' by
        subst e; subst e1
        have hal := (Below.refl W.heap.size W).alloc (Nat.le_refl _) (.cells #[.slice a1 hashes.length c1] 91)
        have hal2 := hal.alloc (by simp) (.cells #[.slice a2 proof.length c2] 91)
        have ht1 := (taken_at W.heap.size W a1 hashes c1 (Nat.le_refl _) hc1 (RowU.of (hr1.below hW)) 91).below ((Below.refl _ _).alloc (Nat.le_refl _) (.cells #[.slice a2 proof.length c2] 91))
        have ht2 := taken_at W.heap.size (W.alloc (.cells #[.slice a1 hashes.length c1] 91)) a2 proof c2 (by simp) hc2 ((RowU.of (hr2.below hW)).below hal) 91
        rw [show (W.alloc (.cells #[.slice a1 hashes.length c1] 91)).heap.size = W.heap.size + 1 by simp] at ht2
        have := check_reckoned k F caps h hashes proof (fun x hx => by rw [hf3 x hx]; exact hw) (fun x hx => by rw [hf2 x hx]; exact hw) (by omega) (by omega) W.heap.size W.heap.size (W.heap.size + 1) (by omega) W (hg.below hW) rfl hrun (fun W2 h2 a b p1 p2 p3 => hcl W2 (Below.then' hW h2) a b p1 p2 p3) n 0 n 0 0 (by omega) (by omega) hn (by omega) (by omega) _ hal2 ht1 ht2
        exact this.mono fun _ _ ⟨h1, _, _, h4⟩ => ⟨h1, Below.then' hW h4⟩)
    clear HL hsz hf1 hf2 hf3 hr1 hr2 hg hcl hrun hlf hsd ho hpl
    obtain ⟨q, hq⟩ : ∃ q, q = reckS k h hashes proof 0 n 0 0 := ⟨_, rfl⟩
    rw [← hq] at HR hL1
    have HL1 := hid hL1
    clear hq hL1 h
    go_enter Tryd.func54, Tryd.ntmps54
    go_wp2_with fail
    refine (HC.out).mono ?_
    rintro e w1 ⟨v, rfl, hown, hb1⟩
    obtain ⟨g, cap, rfl, _, _, _, _, _, hcell⟩ := own_form hown hpos
    have hrow : RowAt w1 (some ⟨g, 0, none⟩) (strs' oth) := .inr ⟨g, 0, rfl, fun i hi => by rw [Nat.zero_add]; exact hcell i hi⟩
    have HRow := hid hrow
    have B1 := hid (HB.out.trans (hb1.mono HB.out.size))
    rw [strs'_length]
    clear hown hb1 hcell hrow
    go_wp2_with fail
    refine (HSZ.out _ B1.out _ _ HRow.out).mono ?_
    rintro e w2 ⟨rfl, hb2⟩
    have B2 := hid (Below.then' B1.out hb2)
    clear hb2
    go_wp2_with fail
    refine (HR.out _ B2.out _ _ rfl rfl).mono ?_
    rintro e w3 ⟨rfl, hb3⟩
    have B3 := hid hb3
    clear hb3
    go_wp2_with fail
    refine (check_same q root _).mono ?_
    rintro e w' ⟨rfl, rfl⟩
    rw [← HL1.out]
    go_wp2_with fail
    go_ret
    exact ⟨rfl, B3.out⟩
  · have hL1 := HL.out
    rw [if_pos hsz] at hL1
    have HR := hid hL1
    clear HL hL1 hr1 hr2 hg hcl hrun hlf hsd ho
    obtain ⟨z, hz⟩ : ∃ z, z = sizedN k count proof oth := ⟨_, rfl⟩
    rw [← hz] at HSZ HR hsz
    have hzb : (z == 0) = false := by simpa using hsz
    have hzb2 : (z != 0) = true := by simpa using hsz
    clear hz hsz h
    go_enter Tryd.func54, Tryd.ntmps54
    go_wp2_with fail
    refine (HC.out).mono ?_
    rintro e w1 ⟨v, rfl, hown, hb1⟩
    obtain ⟨g, cap, rfl, _, _, _, _, _, hcell⟩ := own_form hown hpos
    have hrow : RowAt w1 (some ⟨g, 0, none⟩) (strs' oth) := .inr ⟨g, 0, rfl, fun i hi => by rw [Nat.zero_add]; exact hcell i hi⟩
    have HRow := hid hrow
    have B1 := hid (HB.out.trans (hb1.mono HB.out.size))
    rw [strs'_length]
    clear hown hb1 hcell hrow
    go_wp2_with fail
    refine (HSZ.out _ B1.out _ _ HRow.out).mono ?_
    rintro e w2 ⟨rfl, hb2⟩
    have B2 := hid (Below.then' B1.out hb2)
    clear hb2
    go_wp2_with fail
    go_ret
    exact ⟨ret_int (by rw [HR.out]), B2.out⟩
end Go.Proofs.YtcgfeeommhljgaaDoor
