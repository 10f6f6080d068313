/- What is written of a compact range: both sides. -/
import Derived.Test.YtocjjiacmedjmaaHashes
import Derived.Test.YtocjjiacmedjmaaRefCover
import Derived.Deep.RegionHeld3
set_option maxRecDepth 100000
namespace Go.Proofs.Ytocjjiacmedjmaa
open Go Go.RowKit

def frontB (n lo hi : Nat) (xs : List ByteArray) : List UInt8 := [70, UInt8.ofNat n] ++ putVar lo ++ putVar hi ++ flatS xs
def frontBad (lo hi : Int) : Prop := lo < 0 ∨ hi < lo ∨ 4611686018427387904 < hi
instance (lo hi : Int) : Decidable (frontBad lo hi) := by unfold frontBad; infer_instance
def frontR (x lo hi : Int) (xs : List ByteArray) : ByteArray × Int :=
  if frontBad lo hi then (⟨#[]⟩, 10) else if xs.length ≠ (coverN lo.toNat hi.toNat).length then (⟨#[]⟩, 71) else
  if sizedB (widthN x) xs then (⟨(frontB (widthN x) lo.toNat hi.toNat xs).toArray⟩, 0) else (⟨#[]⟩, 72)
/-- The range's box. -/
def FrK (w : World) (lo hi : Int) (ao : Option Addr) (n cap : Nat) (W : World) : Prop := Below w.heap.size w W ∧ W.cell? ⟨w.heap.size, 0, none⟩ = some (.int .i64 lo) ∧ W.cell? ⟨w.heap.size, 1, none⟩ = some (.int .i64 hi) ∧ W.cell? ⟨w.heap.size, 2, none⟩ = some (.slice ao n cap)
theorem FrK.start (w : World) (lo hi : Int) (ao : Option Addr) (n cap : Nat) : FrK w lo hi ao n cap (w.alloc (.cells #[.int .i64 lo, .int .i64 hi, .slice ao n cap] 44)) := by
  refine ⟨(Below.refl _ _).alloc (Nat.le_refl _) _, ?_, ?_, ?_⟩ <;> simp
theorem FrK.step {w : World} {lo hi : Int} {ao : Option Addr} {n cap : Nat} {W W' : World} (k : FrK w lo hi ao n cap W) (hb : Below W.heap.size W W') : FrK w lo hi ao n cap W' := by
  obtain ⟨k1, k3, k4, k5⟩ := k
  have hk := fun {p : Addr} {v : Value} (hc : W.cell? p = some v) => (hb.cell (World.block_lt_of_cell? _ _ hc)).trans hc
  exact ⟨Below.then' k1 hb, hk k3, hk k4, hk k5⟩
theorem FrK.bel {w : World} {lo hi : Int} {ao : Option Addr} {n cap : Nat} {W : World} (k : Hid (FrK w lo hi ao n cap W)) : Below w.heap.size w W := k.out.1
theorem owned_len {w : World} {base e n : Nat} {v : Value} {xs : List Value} (h : w.ownsRow base e 2 v n xs) : ∃ ao cap, v = .slice ao n cap := own_val h
set_option maxHeartbeats 1000000 in
theorem wire_Frontier (x lo hi : Int) (ao : Option Addr) (xs : List ByteArray) (cap : Nat) (w : World) (hcap : xs.length ≤ cap) (hl : xs.length ≤ 4611686018427387904) (hx : RowAt w ao (strs' xs)) :
    Calls Try.prog 16 #[.int .i64 x, .agg #[.int .i64 lo, .int .i64 hi, .slice ao xs.length cap]] w fun e w' => e = .returned (strErr (frontR x lo hi xs)) ∧ Below w.heap.size w w' := by
  have hwd := hid (fun W => wire_widthOf x W)
  have hw32 := widthN_le x
  obtain ⟨n, hn⟩ : ∃ n, n = widthN x := ⟨_, rfl⟩
  rw [← hn] at hwd hw32
  by_cases hbad : frontBad lo hi
  · have HR : Hid (frontR x lo hi xs = (⟨#[]⟩, 10)) := by unfold Hid frontR; rw [if_pos hbad]
    have hc := hid (tree_Cover_bad lo hi hbad)
    clear hn hx hbad
    go_enter Try.func16, Try.ntmps16
    go_wp2_with fail
    refine (hwd.out _).mono ?_
    rintro e w' ⟨rfl, rfl⟩
    go_wp2_with fail
    refine (hc.out _).mono ?_
    rintro e w' ⟨rfl, rfl⟩
    go_wp2_with fail
    go_ret2
    exact ⟨by rw [HR.out]; rfl, (FrK.start w lo hi ao xs.length cap).1⟩
  · have hnb := hbad
    unfold frontBad at hnb
    obtain ⟨lo, rfl⟩ := Int.eq_ofNat_of_zero_le (show 0 ≤ lo by omega)
    obtain ⟨hi, rfl⟩ := Int.eq_ofNat_of_zero_le (show 0 ≤ hi by omega)
    have hc := hid (tree_Cover_good lo hi (by omega) (by omega))
    have hcl := cover_len lo hi (by omega)
    have HRR : Hid (frontR x lo hi xs = if xs.length ≠ (coverN lo hi).length then (⟨#[]⟩, 71) else if sizedB n xs then (⟨(frontB n lo hi xs).toArray⟩, 0) else (⟨#[]⟩, 72)) := by
      unfold Hid frontR; rw [if_neg hbad, Int.toNat_natCast, Int.toNat_natCast, ← hn]
    obtain ⟨m, hm⟩ : ∃ m, m = (coverN lo hi).length := ⟨_, rfl⟩
    rw [← hm] at hc hcl HRR
    have hlo : lo ≤ 4611686018427387904 := by omega
    have hhi : hi ≤ 4611686018427387904 := by omega
    clear hm hbad hnb hn
    have K0 := hid (FrK.start w lo hi ao xs.length cap)
    by_cases hlen : xs.length = m
    · have hlenI : ((xs.length : Int) != (m : Int)) = false := by rw [hlen]; simp
      have hxl : xs.length ≤ 126 := by omega
      have hR2 : frontR x lo hi xs = if sizedB n xs then (⟨(frontB n lo hi xs).toArray⟩, 0) else (⟨#[]⟩, 72) := by rw [HRR.out, if_neg (by omega)]
      have HR2 := hid hR2
      have HX := hid hx
      clear hlen hR2 HRR
      have hsz := hid (fun (W : World) (hW : Below w.heap.size w W) => wire_sized n ao xs cap W hl (hx.below hW))
      clear hx
      cases hb : sizedB n xs
      · have HR : Hid (frontR x lo hi xs = (⟨#[]⟩, 72)) := by unfold Hid; rw [HR2.out, hb]; rfl
        rw [hb] at hsz
        clear hb HR2
        go_enter Try.func16, Try.ntmps16
        go_wp2_with fail
        refine (hwd.out _).mono ?_
        rintro e w' ⟨rfl, rfl⟩
        go_wp2_with fail
        refine (hc.out _).mono ?_
        rintro e w1 ⟨v, rfl, ho, hb1⟩
        obtain ⟨ao2, cap2, rfl⟩ := own_val ho
        have K1 := hid (K0.out.step hb1)
        obtain ⟨_, q0, q1, q2⟩ := K1.out
        clear ho hb1
        go_wp2_with fail
        refine (hsz.out _ K1.out.1).mono ?_
        rintro e w' ⟨rfl, rfl⟩
        go_wp2_with fail
        go_ret2
        exact ⟨by rw [HR.out]; rfl, K1.out.1⟩
      · have HR : Hid (frontR x lo hi xs = (⟨(frontB n lo hi xs).toArray⟩, 0)) := by unfold Hid; rw [HR2.out, hb]; rfl
        have hs : ∀ i (hi : i < xs.length), xs[i].size ≤ 4096 := fun i hi => by have := sized_at hb i hi; omega
        rw [hb] at hsz
        have hfl := flatS_all xs hs
        have p1 := putVar_len 9 lo (by omega)
        have p2 := putVar_len 9 hi (by omega)
        have HHd := hid (fun W => wire_head 70 n (by decide) (by omega) W)
        have HN1 := hid (fun W => wire_number lo (by omega) W)
        have HN2 := hid (fun W => wire_number hi (by omega) W)
        have HJ := hid (fun (W : World) (hW : Below w.heap.size w W) => str_Join ao xs cap W (by omega) hcap hs (HX.out.below hW))
        obtain ⟨A, hA⟩ : ∃ A : ByteArray, A = ⟨[UInt8.ofNat 70, UInt8.ofNat n].toArray⟩ := ⟨_, rfl⟩
        obtain ⟨B, hB⟩ : ∃ B : ByteArray, B = ⟨(putVar lo).toArray⟩ := ⟨_, rfl⟩
        obtain ⟨C, hC⟩ : ∃ C : ByteArray, C = ⟨(putVar hi).toArray⟩ := ⟨_, rfl⟩
        obtain ⟨D, hD⟩ : ∃ D : ByteArray, D = ⟨(flatS xs).toArray⟩ := ⟨_, rfl⟩
        have zA : A.size = 2 := by rw [hA]; rfl
        have zB : B.size ≤ 10 := by rw [hB, str_size]; exact p1
        have zC : C.size ≤ 10 := by rw [hC, str_size]; exact p2
        have zD : D.size ≤ 600000 := by rw [hD, str_size]; omega
        obtain ⟨X1, hX1⟩ : ∃ X : ByteArray, A ++ B = X := ⟨_, rfl⟩
        have zX1 : X1.size ≤ 12 := by rw [← hX1, ByteArray.size_append]; omega
        obtain ⟨X2, hX2⟩ : ∃ X : ByteArray, X1 ++ C = X := ⟨_, rfl⟩
        have zX2 : X2.size ≤ 22 := by rw [← hX2, ByteArray.size_append]; omega
        obtain ⟨T, hT⟩ : ∃ X : ByteArray, X2 ++ D = X := ⟨_, rfl⟩
        have n1 : ¬ 9223372036854775807 < A.size + B.size := by omega
        have n2 : ¬ 9223372036854775807 < X1.size + C.size := by omega
        have n3 : ¬ 9223372036854775807 < X2.size + D.size := by omega
        have HT : Hid (frontR x lo hi xs = (T, 0)) := by
          unfold Hid; rw [HR.out, ← hT, ← hX2, ← hX1, hA, hB, hC, hD, str_app, str_app, str_app]; rfl
        rw [← hA] at HHd
        rw [← hB] at HN1
        rw [← hC] at HN2
        rw [← hD] at HJ
        clear hb HR2 HR hs hfl p1 p2 hA hB hC hD zA
        go_enter Try.func16, Try.ntmps16
        go_wp2_with fail
        refine (hwd.out _).mono ?_
        rintro e w' ⟨rfl, rfl⟩
        go_wp2_with fail
        refine (hc.out _).mono ?_
        rintro e w1 ⟨v, rfl, ho, hb1⟩
        obtain ⟨ao2, cap2, rfl⟩ := own_val ho
        have K1 := hid (K0.out.step hb1)
        obtain ⟨_, q0, q1, q2⟩ := K1.out
        clear ho hb1
        go_wp2_with fail
        refine (hsz.out _ K1.out.1).mono ?_
        rintro e w' ⟨rfl, rfl⟩
        have K1d := hid (K1.out.step (Below.refl _ _).drew)
        go_wp2_with fail
        go_region_held3 (fun W => W.cell? ⟨w.heap.size, 0, none⟩ = some (.int .i64 lo) ∧ W.cell? ⟨w.heap.size, 1, none⟩ = some (.int .i64 hi) ∧ W.cell? ⟨w.heap.size, 2, none⟩ = some (.slice ao xs.length cap)) (go_keep) (first
          | (go_at_call 27; (with_reducible refine Calls.mono (HHd.out _) ?_); rintro e w2 ⟨rfl, hb⟩; have K2 := hid (FrK.step (Hid.out (show Hid (FrK w lo hi ao xs.length cap _) by assumption)) hb); obtain ⟨_, q20, q21, q22⟩ := K2.out; clear hb)
          | (go_at_call 28; (with_reducible refine Calls.mono (HN1.out _) ?_); rintro e w3 ⟨rfl, hb⟩; have K3 := hid (FrK.step (Hid.out (show Hid (FrK w lo hi ao xs.length cap _) by assumption)) hb); obtain ⟨_, q30, q31, q32⟩ := K3.out; clear hb)
          | (go_at_call 28; (with_reducible refine Calls.mono (HN2.out _) ?_); rintro e w4 ⟨rfl, hb⟩; have K4 := hid (FrK.step (Hid.out (show Hid (FrK w lo hi ao xs.length cap _) by assumption)) hb); obtain ⟨_, q40, q41, q42⟩ := K4.out; clear hb)
          | (go_at_call 30; (with_reducible refine Calls.mono (HJ.out _ ?hbel) ?_); (case hbel => exact FrK.bel (show Hid (FrK w lo hi ao xs.length cap _) by assumption)); rintro e w5 ⟨rfl, hb⟩; have K5 := hid (FrK.step (Hid.out (show Hid (FrK w lo hi ao xs.length cap _) by assumption)) hb); obtain ⟨_, q50, q51, q52⟩ := K5.out; clear hb))
        go_wp2_with fail
        go_ret2
        exact ⟨by rw [HT.out]; rfl, K5.out.1⟩
    · have hlenI : ((xs.length : Int) != (m : Int)) = true := by simp; omega
      have HR : Hid (frontR x lo hi xs = (⟨#[]⟩, 71)) := by unfold Hid; rw [HRR.out, if_pos hlen]
      clear hlen HRR hx
      go_enter Try.func16, Try.ntmps16
      go_wp2_with fail
      refine (hwd.out _).mono ?_
      rintro e w' ⟨rfl, rfl⟩
      go_wp2_with fail
      refine (hc.out _).mono ?_
      rintro e w1 ⟨v, rfl, ho, hb1⟩
      obtain ⟨ao2, cap2, rfl⟩ := own_val ho
      have K1 := hid (K0.out.step hb1)
      obtain ⟨_, q0, q1, q2⟩ := K1.out
      clear ho hb1
      go_wp2_with fail
      go_ret2
      exact ⟨by rw [HR.out]; rfl, K1.out.1⟩
end Go.Proofs.Ytocjjiacmedjmaa
