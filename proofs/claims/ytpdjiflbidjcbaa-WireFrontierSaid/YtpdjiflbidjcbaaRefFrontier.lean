/- What is written of a compact range: the reference. -/
import Derived.Test.YtpdjiflbidjcbaaFrontier
set_option maxRecDepth 100000
namespace Go.Proofs.Ytpdjiflbidjcbaa
open Go Go.RowKit
theorem FrK.alloc {w : World} {lo hi : Int} {ao : Option Addr} {n cap : Nat} {W : World} (k : FrK w lo hi ao n cap W) (o : Obj) : FrK w lo hi ao n cap (W.alloc o) := k.step ((Below.refl _ _).alloc (Nat.le_refl _) _)
theorem FrK.drew {w : World} {lo hi : Int} {ao : Option Addr} {n cap : Nat} {W : World} (k : FrK w lo hi ao n cap W) : FrK w lo hi ao n cap W.drew := k.step (Below.refl _ _).drew

set_option maxHeartbeats 1000000 in
theorem ref11_Frontier (x lo hi : Int) (ao : Option Addr) (xs : List ByteArray) (cap : Nat) (w : World) (hl : xs.length ≤ 4611686018427387904) (hx : RowAt w ao (strs' xs)) :
    Calls Try.prog 6 #[.int .i64 x, .agg #[.int .i64 lo, .int .i64 hi, .slice ao xs.length cap]] w fun e w' => e = .returned (strErr (frontR x lo hi xs)) ∧ Below w.heap.size w w' := by
  have hwd := hid (fun W => ref2_Width x W)
  have hw32 := widthN_le x
  obtain ⟨n, hn⟩ : ∃ n, n = widthN x := ⟨_, rfl⟩
  rw [← hn] at hwd hw32
  by_cases hbad : frontBad lo hi
  · have HR : Hid (frontR x lo hi xs = (⟨#[]⟩, 10)) := by unfold Hid frontR; rw [if_pos hbad]
    have hc := hid (ref5_Cover_bad lo hi hbad)
    clear hn hx hbad
    go_enter Try.func6, Try.ntmps6
    go_wp2_with fail
    refine (hwd.out _).mono ?_
    rintro e w' ⟨rfl, rfl⟩
    go_wp2_with fail
    refine (hc.out _).mono ?_
    rintro e w' ⟨rfl, rfl⟩
    go_wp2_with fail
    go_ret2
    exact ⟨by rw [HR.out]; rfl, (FrK.start w lo hi ao xs.length cap).1⟩
  · have hnb := hbad
    unfold frontBad at hnb
    obtain ⟨lo, rfl⟩ := Int.eq_ofNat_of_zero_le (show 0 ≤ lo by omega)
    obtain ⟨hi, rfl⟩ := Int.eq_ofNat_of_zero_le (show 0 ≤ hi by omega)
    have hc := hid (ref5_Cover_good lo hi (by omega) (by omega))
    have hcl := cover_len lo hi (by omega)
    have HRR : Hid (frontR x lo hi xs = if xs.length ≠ (coverN lo hi).length then (⟨#[]⟩, 71) else if sizedB n xs then (⟨(frontB n lo hi xs).toArray⟩, 0) else (⟨#[]⟩, 72)) := by
      unfold Hid frontR; rw [if_neg hbad, Int.toNat_natCast, Int.toNat_natCast, ← hn]
    obtain ⟨m, hm⟩ : ∃ m, m = (coverN lo hi).length := ⟨_, rfl⟩
    rw [← hm] at hc hcl HRR
    have hlo : lo ≤ 4611686018427387904 := by omega
    have hhi : hi ≤ 4611686018427387904 := by omega
    clear hm hbad hnb hn
    have K0 := hid (FrK.start w lo hi ao xs.length cap)
    by_cases hlen : xs.length = m
    · have hlenI : ((m : Int) != (xs.length : Int)) = false := by rw [hlen]; simp
      have hxl : xs.length ≤ 126 := by omega
      have hR2 : frontR x lo hi xs = if sizedB n xs then (⟨(frontB n lo hi xs).toArray⟩, 0) else (⟨#[]⟩, 72) := by rw [HRR.out, if_neg (by omega)]
      have HR2 := hid hR2
      have HX := hid hx
      clear hlen hR2 HRR
      have hsz := hid (fun (W : World) (hW : Below w.heap.size w W) => ref11_sized n ao xs cap W hl (hx.below hW))
      clear hx
      cases hb : sizedB n xs
      · have HR : Hid (frontR x lo hi xs = (⟨#[]⟩, 72)) := by unfold Hid; rw [HR2.out, hb]; rfl
        rw [hb] at hsz
        clear hb HR2
        go_enter Try.func6, Try.ntmps6
        go_wp2_with fail
        refine (hwd.out _).mono ?_
        rintro e w' ⟨rfl, rfl⟩
        go_wp2_with fail
        refine (hc.out _).mono ?_
        rintro e w1 ⟨v, rfl, ho, hb1⟩
        obtain ⟨ao2, cap2, rfl⟩ := own_val ho
        have K1 := hid (K0.out.step hb1)
        obtain ⟨_, q0, q1, q2⟩ := K1.out
        clear ho hb1
        go_wp2_with fail
        refine (hsz.out _ K1.out.1).mono ?_
        rintro e w' ⟨rfl, rfl⟩
        go_wp2_with fail
        go_ret2
        exact ⟨by rw [HR.out]; rfl, K1.out.1⟩
      · have HR : Hid (frontR x lo hi xs = (⟨(frontB n lo hi xs).toArray⟩, 0)) := by unfold Hid; rw [HR2.out, hb]; rfl
        have hs : ∀ i (hi : i < xs.length), xs[i].size ≤ 4096 := fun i hi => by have := sized_at hb i hi; omega
        rw [hb] at hsz
        have hfl := flatS_all xs hs
        have p1 := putVar_len 9 lo (by omega)
        have p2 := putVar_len 9 hi (by omega)
        have hwn : IntKind.u8.wrap (n : Int) = n := by simp [IntKind.wrap, IntKind.bits, IntKind.signed]; omega
        have hconv : ∀ (W : World) (k : Nat), W.cell? ⟨k, 0, none⟩ = some (.int .u8 n) → (convert 51 9 (.slice (some ⟨k, 0, none⟩) 1 1)).run Try.prog W = .ok (.string ⟨[UInt8.ofNat n].toArray⟩) W := fun W k hc => by
          refine run_convert_bytes_arg _ 51 5 Try.underlying51 Try.underlying5 k 0 1 1 [(n : Int)] rfl (fun i hi => ?_) 9 Try.underlying9
          obtain rfl : i = 0 := by omega
          simpa using hc
        obtain ⟨A1, hA1⟩ : ∃ A : ByteArray, A = ⟨[UInt8.ofNat n].toArray⟩ := ⟨_, rfl⟩
        have zA1 : A1.size = 1 := by rw [hA1]; rfl
        rw [← hA1] at hconv
        have HN1 := hid (fun W => ref11_number lo (by omega) W)
        have HN2 := hid (fun W => ref11_number hi (by omega) W)
        have HJ := hid (fun (W : World) (hW : Below w.heap.size w W) => ref11_joined ao xs cap W (by omega) hs (HX.out.below hW))
        obtain ⟨A, hA⟩ : ∃ A : ByteArray, (⟨#[70]⟩ : ByteArray) ++ A1 = A := ⟨_, rfl⟩
        obtain ⟨B, hB⟩ : ∃ B : ByteArray, B = ⟨(putVar lo).toArray⟩ := ⟨_, rfl⟩
        obtain ⟨C, hC⟩ : ∃ C : ByteArray, C = ⟨(putVar hi).toArray⟩ := ⟨_, rfl⟩
        obtain ⟨D, hD⟩ : ∃ D : ByteArray, D = ⟨(flatS xs).toArray⟩ := ⟨_, rfl⟩
        have zA : A.size = 2 := by rw [← hA, ByteArray.size_append, zA1]; rfl
        have zB : B.size ≤ 10 := by rw [hB, str_size]; exact p1
        have zC : C.size ≤ 10 := by rw [hC, str_size]; exact p2
        have zD : D.size ≤ 600000 := by rw [hD, str_size]; omega
        obtain ⟨X1, hX1⟩ : ∃ X : ByteArray, A ++ B = X := ⟨_, rfl⟩
        have zX1 : X1.size ≤ 12 := by rw [← hX1, ByteArray.size_append]; omega
        obtain ⟨X2, hX2⟩ : ∃ X : ByteArray, X1 ++ C = X := ⟨_, rfl⟩
        have zX2 : X2.size ≤ 22 := by rw [← hX2, ByteArray.size_append]; omega
        obtain ⟨T, hT⟩ : ∃ X : ByteArray, X2 ++ D = X := ⟨_, rfl⟩
        have n0 : ¬ 9223372036854775807 < 1 + A1.size := by omega
        have n1 : ¬ 9223372036854775807 < A.size + B.size := by omega
        have n2 : ¬ 9223372036854775807 < X1.size + C.size := by omega
        have n3 : ¬ 9223372036854775807 < X2.size + D.size := by omega
        have HT : Hid (frontR x lo hi xs = (T, 0)) := by
          unfold Hid; rw [HR.out, ← hT, ← hX2, ← hX1, ← hA, hA1, hB, hC, hD, show (⟨#[70]⟩ : ByteArray) = ⟨[70].toArray⟩ from rfl, str_app, str_app, str_app, str_app]; rfl
        rw [← hB] at HN1
        rw [← hC] at HN2
        rw [← hD] at HJ
        clear hb HR2 HR hs hfl p1 p2 hA1 hB hC hD zA zA1
        go_enter Try.func6, Try.ntmps6
        go_wp2_with fail
        refine (hwd.out _).mono ?_
        rintro e w' ⟨rfl, rfl⟩
        go_wp2_with fail
        refine (hc.out _).mono ?_
        rintro e w1 ⟨v, rfl, ho, hb1⟩
        obtain ⟨ao2, cap2, rfl⟩ := own_val ho
        have K1 := hid (K0.out.step hb1)
        obtain ⟨_, q0, q1, q2⟩ := K1.out
        clear ho hb1
        go_wp2_with fail
        refine (hsz.out _ K1.out.1).mono ?_
        rintro e w' ⟨rfl, rfl⟩
        have K1d := hid (K1.out.step (Below.refl _ _).drew)
        go_wp2_with fail
        refine wp_region_held_drew (S := fun W => W.cell? ⟨w.heap.size, 0, none⟩ = some (.int .i64 lo) ∧ W.cell? ⟨w.heap.size, 1, none⟩ = some (.int .i64 hi) ∧ W.cell? ⟨w.heap.size, 2, none⟩ = some (.slice ao xs.length cap)) (by kernel_rfl) ?_ (fun hHeld => ?_)
        · (try dsimp only); go_keep
        refine wpAnyH_take (i := 0) (oi := (⟨some 32, _, _, _, _, _⟩)) (v := ?_) rfl (by kernel_rfl) (by kernel_rfl) (by kernel_rfl) (fun _ _ _ h => h) (Or.inl ⟨by rfl, ?_⟩) (by assumption) ?_
        rotate_left
        · (intro w hSw; (try dsimp only at hSw); go_simp); try with_reducible rfl
        (try simp only [Act.put, List.setIfInBounds_toArray, List.set_cons_zero, List.set_cons_succ])
        refine wpAnyH_take (i := 1) (oi := (⟨some 33, _, _, _, _, _⟩)) (v := ?_) rfl (by kernel_rfl) (by kernel_rfl) (by kernel_rfl) (fun _ _ _ h => h) (Or.inl ⟨by rfl, ?_⟩) (by assumption) ?_
        rotate_left
        · (intro w hSw; (try dsimp only at hSw); go_simp); try with_reducible rfl
        (try simp only [Act.put, List.setIfInBounds_toArray, List.set_cons_zero, List.set_cons_succ])
        refine wpAnyH_take (i := 5) (oi := (⟨some 37, _, _, _, _, _⟩)) (v := ?_) rfl (by kernel_rfl) (by kernel_rfl) (by kernel_rfl) (fun _ _ _ h => h) (Or.inl ⟨by rfl, ?_⟩) (by assumption) ?_
        rotate_left
        · (intro w hSw; (try dsimp only at hSw); go_simp); try with_reducible rfl
        (try simp only [Act.put, List.setIfInBounds_toArray, List.set_cons_zero, List.set_cons_succ])
        refine wpAnyH_take (i := 6) (oi := (⟨some 38, _, _, _, _, _⟩)) (v := ?_) rfl (by kernel_rfl) (by kernel_rfl) (by kernel_rfl) (fun _ _ _ h => h) (Or.inl ⟨by rfl, ?_⟩) (by assumption) ?_
        rotate_left
        · (intro w hSw; (try dsimp only at hSw); go_simp); try with_reducible rfl
        (try simp only [Act.put, List.setIfInBounds_toArray, List.set_cons_zero, List.set_cons_succ])
        refine wpAnyH_take (i := 9) (oi := (⟨some 41, _, _, _, _, _⟩)) (v := ?_) rfl (by kernel_rfl) (by kernel_rfl) (by kernel_rfl) (fun _ _ _ h => h) (Or.inl ⟨by rfl, ?_⟩) (by assumption) ?_
        rotate_left
        · (intro w hSw; (try dsimp only at hSw); go_simp); try with_reducible rfl
        (try simp only [Act.put, List.setIfInBounds_toArray, List.set_cons_zero, List.set_cons_succ])
        refine wpAnyH_take (i := 10) (oi := (⟨some 42, _, _, _, _, _⟩)) (v := ?_) rfl (by kernel_rfl) (by kernel_rfl) (by kernel_rfl) (fun _ _ _ h => h) (Or.inl ⟨by rfl, ?_⟩) (by assumption) ?_
        rotate_left
        · (intro w hSw; (try dsimp only at hSw); go_simp); try with_reducible rfl
        (try simp only [Act.put, List.setIfInBounds_toArray, List.set_cons_zero, List.set_cons_succ])
        refine wpAnyH_take (i := 13) (oi := (⟨some 45, _, _, _, _, _⟩)) (v := ?_) rfl (by kernel_rfl) (by kernel_rfl) (by kernel_rfl) (fun _ _ _ h => h) (Or.inl ⟨by rfl, ?_⟩) (by assumption) ?_
        rotate_left
        · (intro w hSw; (try dsimp only at hSw); go_simp); try with_reducible rfl
        (try simp only [Act.put, List.setIfInBounds_toArray, List.set_cons_zero, List.set_cons_succ])
        refine wpAnyH_take (i := 14) (oi := (⟨some 46, _, _, _, _, _⟩)) (v := ?_) rfl (by kernel_rfl) (by kernel_rfl) (by kernel_rfl) (fun _ _ _ h => h) (Or.inl ⟨by rfl, ?_⟩) (by assumption) ?_
        rotate_left
        · (intro w hSw; (try dsimp only at hSw); go_simp); try with_reducible rfl
        (try simp only [Act.put, List.setIfInBounds_toArray, List.set_cons_zero, List.set_cons_succ])
        refine wpAnyH_ready (rs := [2, 7]) (by kernel_rfl) (by simp) ?_
        refine AllReadyH.cons (o := (⟨some 34, _, _, _, _, _⟩)) rfl (fun K hK => ?_) ?_
        · go_simp
          refine hK.out _ _ ?_ (fun hHeld => ?_)
          · (try dsimp only); go_keep
          clear hK K
          (try simp only [Act.put, List.setIfInBounds_toArray, List.set_cons_zero, List.set_cons_succ])
          refine wpAnyH_ready (rs := [3, 7]) (by kernel_rfl) (by simp) ?_
          refine AllReadyH.cons (o := (⟨some 35, _, _, _, _, _⟩)) rfl (fun K hK => ?_) ?_
          · go_simp
            refine hK.out _ _ ?_ (fun hHeld => ?_)
            · (try dsimp only); go_keep
            clear hK K
            (try simp only [Act.put, List.setIfInBounds_toArray, List.set_cons_zero, List.set_cons_succ])
            refine wpAnyH_take (i := 4) (oi := (⟨some 36, _, _, _, _, _⟩)) (v := ?_) rfl (by kernel_rfl) (by kernel_rfl) (by kernel_rfl) (fun _ _ _ h => h) (Or.inl ⟨by rfl, ?_⟩) (by assumption) ?_
            rotate_left
            · (intro w hSw; (try dsimp only at hSw); go_simp); try with_reducible rfl
            (try simp only [Act.put, List.setIfInBounds_toArray, List.set_cons_zero, List.set_cons_succ])
            refine wpAnyH_ready (rs := [7]) (by kernel_rfl) (by simp) ?_
            refine AllReadyH.cons (o := (⟨some 39, _, _, _, _, _⟩)) rfl (fun K hK => ?_) ?_
            · go_simp
              (go_at_call 24; (with_reducible refine Calls.mono (HN1.out _) ?_); rintro e w3 ⟨rfl, hb⟩; have K3 := hid (FrK.step (by first | exact K1.out.drew | exact (K1.out.alloc _).drew) hb); obtain ⟨_, q30, q31, q32⟩ := K3.out; obtain ⟨hc3, hf3⟩ := bcell hb; have hz3 := hb.size; (try simp at hz3); (try (have hl31 : w1.heap.size < w3.heap.size := (by omega))); clear hb; go_wp2_with fail)
              refine hK.out _ _ ?_ (fun hHeld => ?_)
              · (try dsimp only); go_keep
              clear hK K
              (try simp only [Act.put, List.setIfInBounds_toArray, List.set_cons_zero, List.set_cons_succ])
              refine wpAnyH_take (i := 8) (oi := (⟨some 40, _, _, _, _, _⟩)) (v := ?_) rfl (by kernel_rfl) (by kernel_rfl) (by kernel_rfl) (fun _ _ _ h => h) (Or.inl ⟨by rfl, ?_⟩) (by assumption) ?_
              rotate_left
              · (intro w hSw; (try dsimp only at hSw); go_simp); try with_reducible rfl
              (try simp only [Act.put, List.setIfInBounds_toArray, List.set_cons_zero, List.set_cons_succ])
              refine wpAnyH_ready (rs := [11]) (by kernel_rfl) (by simp) ?_
              refine AllReadyH.cons (o := (⟨some 43, _, _, _, _, _⟩)) rfl (fun K hK => ?_) ?_
              · go_simp
                (go_at_call 24; (with_reducible refine Calls.mono (HN2.out _) ?_); rintro e w4 ⟨rfl, hb⟩; have K4 := hid (FrK.step (by first | exact K3.out | exact K3.out.alloc _) hb); obtain ⟨_, q40, q41, q42⟩ := K4.out; obtain ⟨hc4, hf4⟩ := bcell hb; have hz4 := hb.size; (try simp at hz4); (try (have hl41 : w1.heap.size < w4.heap.size := (by omega))); (try (have hl43 : w3.heap.size < w4.heap.size := (by omega))); clear hb; go_wp2_with fail)
                refine hK.out _ _ ?_ (fun hHeld => ?_)
                · (try dsimp only); go_keep
                clear hK K
                (try simp only [Act.put, List.setIfInBounds_toArray, List.set_cons_zero, List.set_cons_succ])
                refine wpAnyH_take (i := 12) (oi := (⟨some 44, _, _, _, _, _⟩)) (v := ?_) rfl (by kernel_rfl) (by kernel_rfl) (by kernel_rfl) (fun _ _ _ h => h) (Or.inl ⟨by rfl, ?_⟩) (by assumption) ?_
                rotate_left
                · (intro w hSw; (try dsimp only at hSw); go_simp); try with_reducible rfl
                (try simp only [Act.put, List.setIfInBounds_toArray, List.set_cons_zero, List.set_cons_succ])
                refine wpAnyH_ready (rs := [15]) (by kernel_rfl) (by simp) ?_
                refine AllReadyH.cons (o := (⟨some 47, _, _, _, _, _⟩)) rfl (fun K hK => ?_) ?_
                · go_simp
                  (go_at_call 25; (with_reducible refine Calls.mono (HJ.out _ ?hbel) ?_); (case hbel => first | exact K4.out.1 | exact (K4.out.alloc _).1); rintro e w5 ⟨rfl, hb⟩; have K5 := hid (FrK.step (by first | exact K4.out | exact K4.out.alloc _) hb); obtain ⟨_, q50, q51, q52⟩ := K5.out; obtain ⟨hc5, hf5⟩ := bcell hb; have hz5 := hb.size; (try simp at hz5); (try (have hl51 : w1.heap.size < w5.heap.size := (by omega))); (try (have hl53 : w3.heap.size < w5.heap.size := (by omega))); (try (have hl54 : w4.heap.size < w5.heap.size := (by omega))); clear hb; go_wp2_with fail)
                  refine hK.out _ _ ?_ (fun hHeld => ?_)
                  · (try dsimp only); go_keep
                  clear hK K
                  (try simp only [Act.put, List.setIfInBounds_toArray, List.set_cons_zero, List.set_cons_succ])
                  refine wpAnyH_take (i := 16) (oi := (⟨some 48, _, _, _, _, _⟩)) (v := ?_) rfl (by kernel_rfl) (by kernel_rfl) (by kernel_rfl) (fun _ _ _ h => h) (Or.inl ⟨by rfl, ?_⟩) (by assumption) ?_
                  rotate_left
                  · (intro w hSw; (try dsimp only at hSw); go_simp); try with_reducible rfl
                  (try simp only [Act.put, List.setIfInBounds_toArray, List.set_cons_zero, List.set_cons_succ])
                  refine wpAnyH_take (i := 17) (oi := (⟨some 4, _, _, _, _, _⟩)) (v := ?_) rfl (by kernel_rfl) (by kernel_rfl) (by kernel_rfl) (fun _ _ _ h => h) (Or.inl ⟨by rfl, ?_⟩) (by assumption) ?_
                  rotate_left
                  · (intro w hSw; (try dsimp only at hSw); go_simp); try with_reducible rfl
                  (try simp only [Act.put, List.setIfInBounds_toArray, List.set_cons_zero, List.set_cons_succ])
                  refine wpAnyH_take (i := 18) (oi := (⟨some 5, _, _, _, _, _⟩)) (v := ?_) rfl (by kernel_rfl) (by kernel_rfl) (by kernel_rfl) (fun _ _ _ h => h) (Or.inl ⟨by rfl, ?_⟩) (by assumption) ?_
                  rotate_left
                  · (intro w hSw; (try dsimp only at hSw); go_simp); try with_reducible rfl
                  (try simp only [Act.put, List.setIfInBounds_toArray, List.set_cons_zero, List.set_cons_succ])
                  refine wpAnyH_done (by kernel_rfl) ?_ _
                  go_wp2_with fail
                  go_ret2
                  exact ⟨by rw [HT.out]; rfl, by first | exact K5.out.1 | exact (K5.out.alloc _).1⟩
                exact AllReadyH.nil
              exact AllReadyH.nil
            exact AllReadyH.nil
          refine AllReadyH.cons (o := (⟨some 39, _, _, _, _, _⟩)) rfl (fun K hK => ?_) ?_
          · go_simp
            (go_at_call 24; (with_reducible refine Calls.mono (HN1.out _) ?_); rintro e w3 ⟨rfl, hb⟩; have K3 := hid (FrK.step (by first | exact K1.out.drew | exact (K1.out.alloc _).drew) hb); obtain ⟨_, q30, q31, q32⟩ := K3.out; obtain ⟨hc3, hf3⟩ := bcell hb; have hz3 := hb.size; (try simp at hz3); (try (have hl31 : w1.heap.size < w3.heap.size := (by omega))); clear hb; go_wp2_with fail)
            refine hK.out _ _ ?_ (fun hHeld => ?_)
            · (try dsimp only); go_keep
            clear hK K
            (try simp only [Act.put, List.setIfInBounds_toArray, List.set_cons_zero, List.set_cons_succ])
            refine wpAnyH_ready (rs := [3, 11]) (by kernel_rfl) (by simp) ?_
            refine AllReadyH.cons (o := (⟨some 35, _, _, _, _, _⟩)) rfl (fun K hK => ?_) ?_
            · go_simp
              refine hK.out _ _ ?_ (fun hHeld => ?_)
              · (try dsimp only); go_keep
              clear hK K
              (try simp only [Act.put, List.setIfInBounds_toArray, List.set_cons_zero, List.set_cons_succ])
              refine wpAnyH_take (i := 4) (oi := (⟨some 36, _, _, _, _, _⟩)) (v := ?_) rfl (by kernel_rfl) (by kernel_rfl) (by kernel_rfl) (fun _ _ _ h => h) (Or.inl ⟨by rfl, ?_⟩) (by assumption) ?_
              rotate_left
              · (intro w hSw; (try dsimp only at hSw); go_simp); try with_reducible rfl
              (try simp only [Act.put, List.setIfInBounds_toArray, List.set_cons_zero, List.set_cons_succ])
              refine wpAnyH_take (i := 8) (oi := (⟨some 40, _, _, _, _, _⟩)) (v := ?_) rfl (by kernel_rfl) (by kernel_rfl) (by kernel_rfl) (fun _ _ _ h => h) (Or.inl ⟨by rfl, ?_⟩) (by assumption) ?_
              rotate_left
              · (intro w hSw; (try dsimp only at hSw); go_simp); try with_reducible rfl
              (try simp only [Act.put, List.setIfInBounds_toArray, List.set_cons_zero, List.set_cons_succ])
              refine wpAnyH_ready (rs := [11]) (by kernel_rfl) (by simp) ?_
              refine AllReadyH.cons (o := (⟨some 43, _, _, _, _, _⟩)) rfl (fun K hK => ?_) ?_
              · go_simp
                (go_at_call 24; (with_reducible refine Calls.mono (HN2.out _) ?_); rintro e w4 ⟨rfl, hb⟩; have K4 := hid (FrK.step (by first | exact K3.out | exact K3.out.alloc _) hb); obtain ⟨_, q40, q41, q42⟩ := K4.out; obtain ⟨hc4, hf4⟩ := bcell hb; have hz4 := hb.size; (try simp at hz4); (try (have hl41 : w1.heap.size < w4.heap.size := (by omega))); (try (have hl43 : w3.heap.size < w4.heap.size := (by omega))); clear hb; go_wp2_with fail)
                refine hK.out _ _ ?_ (fun hHeld => ?_)
                · (try dsimp only); go_keep
                clear hK K
                (try simp only [Act.put, List.setIfInBounds_toArray, List.set_cons_zero, List.set_cons_succ])
                refine wpAnyH_take (i := 12) (oi := (⟨some 44, _, _, _, _, _⟩)) (v := ?_) rfl (by kernel_rfl) (by kernel_rfl) (by kernel_rfl) (fun _ _ _ h => h) (Or.inl ⟨by rfl, ?_⟩) (by assumption) ?_
                rotate_left
                · (intro w hSw; (try dsimp only at hSw); go_simp); try with_reducible rfl
                (try simp only [Act.put, List.setIfInBounds_toArray, List.set_cons_zero, List.set_cons_succ])
                refine wpAnyH_ready (rs := [15]) (by kernel_rfl) (by simp) ?_
                refine AllReadyH.cons (o := (⟨some 47, _, _, _, _, _⟩)) rfl (fun K hK => ?_) ?_
                · go_simp
                  (go_at_call 25; (with_reducible refine Calls.mono (HJ.out _ ?hbel) ?_); (case hbel => first | exact K4.out.1 | exact (K4.out.alloc _).1); rintro e w5 ⟨rfl, hb⟩; have K5 := hid (FrK.step (by first | exact K4.out | exact K4.out.alloc _) hb); obtain ⟨_, q50, q51, q52⟩ := K5.out; obtain ⟨hc5, hf5⟩ := bcell hb; have hz5 := hb.size; (try simp at hz5); (try (have hl51 : w1.heap.size < w5.heap.size := (by omega))); (try (have hl53 : w3.heap.size < w5.heap.size := (by omega))); (try (have hl54 : w4.heap.size < w5.heap.size := (by omega))); clear hb; go_wp2_with fail)
                  refine hK.out _ _ ?_ (fun hHeld => ?_)
                  · (try dsimp only); go_keep
                  clear hK K
                  (try simp only [Act.put, List.setIfInBounds_toArray, List.set_cons_zero, List.set_cons_succ])
                  refine wpAnyH_take (i := 16) (oi := (⟨some 48, _, _, _, _, _⟩)) (v := ?_) rfl (by kernel_rfl) (by kernel_rfl) (by kernel_rfl) (fun _ _ _ h => h) (Or.inl ⟨by rfl, ?_⟩) (by assumption) ?_
                  rotate_left
                  · (intro w hSw; (try dsimp only at hSw); go_simp); try with_reducible rfl
                  (try simp only [Act.put, List.setIfInBounds_toArray, List.set_cons_zero, List.set_cons_succ])
                  refine wpAnyH_take (i := 17) (oi := (⟨some 4, _, _, _, _, _⟩)) (v := ?_) rfl (by kernel_rfl) (by kernel_rfl) (by kernel_rfl) (fun _ _ _ h => h) (Or.inl ⟨by rfl, ?_⟩) (by assumption) ?_
                  rotate_left
                  · (intro w hSw; (try dsimp only at hSw); go_simp); try with_reducible rfl
                  (try simp only [Act.put, List.setIfInBounds_toArray, List.set_cons_zero, List.set_cons_succ])
                  refine wpAnyH_take (i := 18) (oi := (⟨some 5, _, _, _, _, _⟩)) (v := ?_) rfl (by kernel_rfl) (by kernel_rfl) (by kernel_rfl) (fun _ _ _ h => h) (Or.inl ⟨by rfl, ?_⟩) (by assumption) ?_
                  rotate_left
                  · (intro w hSw; (try dsimp only at hSw); go_simp); try with_reducible rfl
                  (try simp only [Act.put, List.setIfInBounds_toArray, List.set_cons_zero, List.set_cons_succ])
                  refine wpAnyH_done (by kernel_rfl) ?_ _
                  go_wp2_with fail
                  go_ret2
                  exact ⟨by rw [HT.out]; rfl, by first | exact K5.out.1 | exact (K5.out.alloc _).1⟩
                exact AllReadyH.nil
              exact AllReadyH.nil
            refine AllReadyH.cons (o := (⟨some 43, _, _, _, _, _⟩)) rfl (fun K hK => ?_) ?_
            · go_simp
              (go_at_call 24; (with_reducible refine Calls.mono (HN2.out _) ?_); rintro e w4 ⟨rfl, hb⟩; have K4 := hid (FrK.step (by first | exact K3.out | exact K3.out.alloc _) hb); obtain ⟨_, q40, q41, q42⟩ := K4.out; obtain ⟨hc4, hf4⟩ := bcell hb; have hz4 := hb.size; (try simp at hz4); (try (have hl41 : w1.heap.size < w4.heap.size := (by omega))); (try (have hl43 : w3.heap.size < w4.heap.size := (by omega))); clear hb; go_wp2_with fail)
              refine hK.out _ _ ?_ (fun hHeld => ?_)
              · (try dsimp only); go_keep
              clear hK K
              (try simp only [Act.put, List.setIfInBounds_toArray, List.set_cons_zero, List.set_cons_succ])
              refine wpAnyH_ready (rs := [3, 15]) (by kernel_rfl) (by simp) ?_
              refine AllReadyH.cons (o := (⟨some 35, _, _, _, _, _⟩)) rfl (fun K hK => ?_) ?_
              · go_simp
                refine hK.out _ _ ?_ (fun hHeld => ?_)
                · (try dsimp only); go_keep
                clear hK K
                (try simp only [Act.put, List.setIfInBounds_toArray, List.set_cons_zero, List.set_cons_succ])
                refine wpAnyH_take (i := 4) (oi := (⟨some 36, _, _, _, _, _⟩)) (v := ?_) rfl (by kernel_rfl) (by kernel_rfl) (by kernel_rfl) (fun _ _ _ h => h) (Or.inl ⟨by rfl, ?_⟩) (by assumption) ?_
                rotate_left
                · (intro w hSw; (try dsimp only at hSw); go_simp); try with_reducible rfl
                (try simp only [Act.put, List.setIfInBounds_toArray, List.set_cons_zero, List.set_cons_succ])
                refine wpAnyH_take (i := 8) (oi := (⟨some 40, _, _, _, _, _⟩)) (v := ?_) rfl (by kernel_rfl) (by kernel_rfl) (by kernel_rfl) (fun _ _ _ h => h) (Or.inl ⟨by rfl, ?_⟩) (by assumption) ?_
                rotate_left
                · (intro w hSw; (try dsimp only at hSw); go_simp); try with_reducible rfl
                (try simp only [Act.put, List.setIfInBounds_toArray, List.set_cons_zero, List.set_cons_succ])
                refine wpAnyH_take (i := 12) (oi := (⟨some 44, _, _, _, _, _⟩)) (v := ?_) rfl (by kernel_rfl) (by kernel_rfl) (by kernel_rfl) (fun _ _ _ h => h) (Or.inl ⟨by rfl, ?_⟩) (by assumption) ?_
                rotate_left
                · (intro w hSw; (try dsimp only at hSw); go_simp); try with_reducible rfl
                (try simp only [Act.put, List.setIfInBounds_toArray, List.set_cons_zero, List.set_cons_succ])
                refine wpAnyH_ready (rs := [15]) (by kernel_rfl) (by simp) ?_
                refine AllReadyH.cons (o := (⟨some 47, _, _, _, _, _⟩)) rfl (fun K hK => ?_) ?_
                · go_simp
                  (go_at_call 25; (with_reducible refine Calls.mono (HJ.out _ ?hbel) ?_); (case hbel => first | exact K4.out.1 | exact (K4.out.alloc _).1); rintro e w5 ⟨rfl, hb⟩; have K5 := hid (FrK.step (by first | exact K4.out | exact K4.out.alloc _) hb); obtain ⟨_, q50, q51, q52⟩ := K5.out; obtain ⟨hc5, hf5⟩ := bcell hb; have hz5 := hb.size; (try simp at hz5); (try (have hl51 : w1.heap.size < w5.heap.size := (by omega))); (try (have hl53 : w3.heap.size < w5.heap.size := (by omega))); (try (have hl54 : w4.heap.size < w5.heap.size := (by omega))); clear hb; go_wp2_with fail)
                  refine hK.out _ _ ?_ (fun hHeld => ?_)
                  · (try dsimp only); go_keep
                  clear hK K
                  (try simp only [Act.put, List.setIfInBounds_toArray, List.set_cons_zero, List.set_cons_succ])
                  refine wpAnyH_take (i := 16) (oi := (⟨some 48, _, _, _, _, _⟩)) (v := ?_) rfl (by kernel_rfl) (by kernel_rfl) (by kernel_rfl) (fun _ _ _ h => h) (Or.inl ⟨by rfl, ?_⟩) (by assumption) ?_
                  rotate_left
                  · (intro w hSw; (try dsimp only at hSw); go_simp); try with_reducible rfl
                  (try simp only [Act.put, List.setIfInBounds_toArray, List.set_cons_zero, List.set_cons_succ])
                  refine wpAnyH_take (i := 17) (oi := (⟨some 4, _, _, _, _, _⟩)) (v := ?_) rfl (by kernel_rfl) (by kernel_rfl) (by kernel_rfl) (fun _ _ _ h => h) (Or.inl ⟨by rfl, ?_⟩) (by assumption) ?_
                  rotate_left
                  · (intro w hSw; (try dsimp only at hSw); go_simp); try with_reducible rfl
                  (try simp only [Act.put, List.setIfInBounds_toArray, List.set_cons_zero, List.set_cons_succ])
                  refine wpAnyH_take (i := 18) (oi := (⟨some 5, _, _, _, _, _⟩)) (v := ?_) rfl (by kernel_rfl) (by kernel_rfl) (by kernel_rfl) (fun _ _ _ h => h) (Or.inl ⟨by rfl, ?_⟩) (by assumption) ?_
                  rotate_left
                  · (intro w hSw; (try dsimp only at hSw); go_simp); try with_reducible rfl
                  (try simp only [Act.put, List.setIfInBounds_toArray, List.set_cons_zero, List.set_cons_succ])
                  refine wpAnyH_done (by kernel_rfl) ?_ _
                  go_wp2_with fail
                  go_ret2
                  exact ⟨by rw [HT.out]; rfl, by first | exact K5.out.1 | exact (K5.out.alloc _).1⟩
                exact AllReadyH.nil
              refine AllReadyH.cons (o := (⟨some 47, _, _, _, _, _⟩)) rfl (fun K hK => ?_) ?_
              · go_simp
                (go_at_call 25; (with_reducible refine Calls.mono (HJ.out _ ?hbel) ?_); (case hbel => first | exact K4.out.1 | exact (K4.out.alloc _).1); rintro e w5 ⟨rfl, hb⟩; have K5 := hid (FrK.step (by first | exact K4.out | exact K4.out.alloc _) hb); obtain ⟨_, q50, q51, q52⟩ := K5.out; obtain ⟨hc5, hf5⟩ := bcell hb; have hz5 := hb.size; (try simp at hz5); (try (have hl51 : w1.heap.size < w5.heap.size := (by omega))); (try (have hl53 : w3.heap.size < w5.heap.size := (by omega))); (try (have hl54 : w4.heap.size < w5.heap.size := (by omega))); clear hb; go_wp2_with fail)
                refine hK.out _ _ ?_ (fun hHeld => ?_)
                · (try dsimp only); go_keep
                clear hK K
                (try simp only [Act.put, List.setIfInBounds_toArray, List.set_cons_zero, List.set_cons_succ])
                refine wpAnyH_ready (rs := [3]) (by kernel_rfl) (by simp) ?_
                refine AllReadyH.cons (o := (⟨some 35, _, _, _, _, _⟩)) rfl (fun K hK => ?_) ?_
                · go_simp
                  refine hK.out _ _ ?_ (fun hHeld => ?_)
                  · (try dsimp only); go_keep
                  clear hK K
                  (try simp only [Act.put, List.setIfInBounds_toArray, List.set_cons_zero, List.set_cons_succ])
                  refine wpAnyH_take (i := 4) (oi := (⟨some 36, _, _, _, _, _⟩)) (v := ?_) rfl (by kernel_rfl) (by kernel_rfl) (by kernel_rfl) (fun _ _ _ h => h) (Or.inl ⟨by rfl, ?_⟩) (by assumption) ?_
                  rotate_left
                  · (intro w hSw; (try dsimp only at hSw); go_simp); try with_reducible rfl
                  (try simp only [Act.put, List.setIfInBounds_toArray, List.set_cons_zero, List.set_cons_succ])
                  refine wpAnyH_take (i := 8) (oi := (⟨some 40, _, _, _, _, _⟩)) (v := ?_) rfl (by kernel_rfl) (by kernel_rfl) (by kernel_rfl) (fun _ _ _ h => h) (Or.inl ⟨by rfl, ?_⟩) (by assumption) ?_
                  rotate_left
                  · (intro w hSw; (try dsimp only at hSw); go_simp); try with_reducible rfl
                  (try simp only [Act.put, List.setIfInBounds_toArray, List.set_cons_zero, List.set_cons_succ])
                  refine wpAnyH_take (i := 12) (oi := (⟨some 44, _, _, _, _, _⟩)) (v := ?_) rfl (by kernel_rfl) (by kernel_rfl) (by kernel_rfl) (fun _ _ _ h => h) (Or.inl ⟨by rfl, ?_⟩) (by assumption) ?_
                  rotate_left
                  · (intro w hSw; (try dsimp only at hSw); go_simp); try with_reducible rfl
                  (try simp only [Act.put, List.setIfInBounds_toArray, List.set_cons_zero, List.set_cons_succ])
                  refine wpAnyH_take (i := 16) (oi := (⟨some 48, _, _, _, _, _⟩)) (v := ?_) rfl (by kernel_rfl) (by kernel_rfl) (by kernel_rfl) (fun _ _ _ h => h) (Or.inl ⟨by rfl, ?_⟩) (by assumption) ?_
                  rotate_left
                  · (intro w hSw; (try dsimp only at hSw); go_simp); try with_reducible rfl
                  (try simp only [Act.put, List.setIfInBounds_toArray, List.set_cons_zero, List.set_cons_succ])
                  refine wpAnyH_take (i := 17) (oi := (⟨some 4, _, _, _, _, _⟩)) (v := ?_) rfl (by kernel_rfl) (by kernel_rfl) (by kernel_rfl) (fun _ _ _ h => h) (Or.inl ⟨by rfl, ?_⟩) (by assumption) ?_
                  rotate_left
                  · (intro w hSw; (try dsimp only at hSw); go_simp); try with_reducible rfl
                  (try simp only [Act.put, List.setIfInBounds_toArray, List.set_cons_zero, List.set_cons_succ])
                  refine wpAnyH_take (i := 18) (oi := (⟨some 5, _, _, _, _, _⟩)) (v := ?_) rfl (by kernel_rfl) (by kernel_rfl) (by kernel_rfl) (fun _ _ _ h => h) (Or.inl ⟨by rfl, ?_⟩) (by assumption) ?_
                  rotate_left
                  · (intro w hSw; (try dsimp only at hSw); go_simp); try with_reducible rfl
                  (try simp only [Act.put, List.setIfInBounds_toArray, List.set_cons_zero, List.set_cons_succ])
                  refine wpAnyH_done (by kernel_rfl) ?_ _
                  go_wp2_with fail
                  go_ret2
                  exact ⟨by rw [HT.out]; rfl, by first | exact K5.out.1 | exact (K5.out.alloc _).1⟩
                exact AllReadyH.nil
              exact AllReadyH.nil
            exact AllReadyH.nil
          exact AllReadyH.nil
        refine AllReadyH.cons (o := (⟨some 39, _, _, _, _, _⟩)) rfl (fun K hK => ?_) ?_
        · go_simp
          (go_at_call 24; (with_reducible refine Calls.mono (HN1.out _) ?_); rintro e w3 ⟨rfl, hb⟩; have K3 := hid (FrK.step (by first | exact K1.out.drew | exact (K1.out.alloc _).drew) hb); obtain ⟨_, q30, q31, q32⟩ := K3.out; obtain ⟨hc3, hf3⟩ := bcell hb; have hz3 := hb.size; (try simp at hz3); (try (have hl31 : w1.heap.size < w3.heap.size := (by omega))); clear hb; go_wp2_with fail)
          refine hK.out _ _ ?_ (fun hHeld => ?_)
          · (try dsimp only); go_keep
          clear hK K
          (try simp only [Act.put, List.setIfInBounds_toArray, List.set_cons_zero, List.set_cons_succ])
          refine wpAnyH_ready (rs := [2, 11]) (by kernel_rfl) (by simp) ?_
          refine AllReadyH.cons (o := (⟨some 34, _, _, _, _, _⟩)) rfl (fun K hK => ?_) ?_
          · go_simp
            refine hK.out _ _ ?_ (fun hHeld => ?_)
            · (try dsimp only); go_keep
            clear hK K
            (try simp only [Act.put, List.setIfInBounds_toArray, List.set_cons_zero, List.set_cons_succ])
            refine wpAnyH_ready (rs := [3, 11]) (by kernel_rfl) (by simp) ?_
            refine AllReadyH.cons (o := (⟨some 35, _, _, _, _, _⟩)) rfl (fun K hK => ?_) ?_
            · go_simp
              refine hK.out _ _ ?_ (fun hHeld => ?_)
              · (try dsimp only); go_keep
              clear hK K
              (try simp only [Act.put, List.setIfInBounds_toArray, List.set_cons_zero, List.set_cons_succ])
              refine wpAnyH_take (i := 4) (oi := (⟨some 36, _, _, _, _, _⟩)) (v := ?_) rfl (by kernel_rfl) (by kernel_rfl) (by kernel_rfl) (fun _ _ _ h => h) (Or.inl ⟨by rfl, ?_⟩) (by assumption) ?_
              rotate_left
              · (intro w hSw; (try dsimp only at hSw); go_simp); try with_reducible rfl
              (try simp only [Act.put, List.setIfInBounds_toArray, List.set_cons_zero, List.set_cons_succ])
              refine wpAnyH_take (i := 8) (oi := (⟨some 40, _, _, _, _, _⟩)) (v := ?_) rfl (by kernel_rfl) (by kernel_rfl) (by kernel_rfl) (fun _ _ _ h => h) (Or.inl ⟨by rfl, ?_⟩) (by assumption) ?_
              rotate_left
              · (intro w hSw; (try dsimp only at hSw); go_simp); try with_reducible rfl
              (try simp only [Act.put, List.setIfInBounds_toArray, List.set_cons_zero, List.set_cons_succ])
              refine wpAnyH_ready (rs := [11]) (by kernel_rfl) (by simp) ?_
              refine AllReadyH.cons (o := (⟨some 43, _, _, _, _, _⟩)) rfl (fun K hK => ?_) ?_
              · go_simp
                (go_at_call 24; (with_reducible refine Calls.mono (HN2.out _) ?_); rintro e w4 ⟨rfl, hb⟩; have K4 := hid (FrK.step (by first | exact K3.out | exact K3.out.alloc _) hb); obtain ⟨_, q40, q41, q42⟩ := K4.out; obtain ⟨hc4, hf4⟩ := bcell hb; have hz4 := hb.size; (try simp at hz4); (try (have hl41 : w1.heap.size < w4.heap.size := (by omega))); (try (have hl43 : w3.heap.size < w4.heap.size := (by omega))); clear hb; go_wp2_with fail)
                refine hK.out _ _ ?_ (fun hHeld => ?_)
                · (try dsimp only); go_keep
                clear hK K
                (try simp only [Act.put, List.setIfInBounds_toArray, List.set_cons_zero, List.set_cons_succ])
                refine wpAnyH_take (i := 12) (oi := (⟨some 44, _, _, _, _, _⟩)) (v := ?_) rfl (by kernel_rfl) (by kernel_rfl) (by kernel_rfl) (fun _ _ _ h => h) (Or.inl ⟨by rfl, ?_⟩) (by assumption) ?_
                rotate_left
                · (intro w hSw; (try dsimp only at hSw); go_simp); try with_reducible rfl
                (try simp only [Act.put, List.setIfInBounds_toArray, List.set_cons_zero, List.set_cons_succ])
                refine wpAnyH_ready (rs := [15]) (by kernel_rfl) (by simp) ?_
                refine AllReadyH.cons (o := (⟨some 47, _, _, _, _, _⟩)) rfl (fun K hK => ?_) ?_
                · go_simp
                  (go_at_call 25; (with_reducible refine Calls.mono (HJ.out _ ?hbel) ?_); (case hbel => first | exact K4.out.1 | exact (K4.out.alloc _).1); rintro e w5 ⟨rfl, hb⟩; have K5 := hid (FrK.step (by first | exact K4.out | exact K4.out.alloc _) hb); obtain ⟨_, q50, q51, q52⟩ := K5.out; obtain ⟨hc5, hf5⟩ := bcell hb; have hz5 := hb.size; (try simp at hz5); (try (have hl51 : w1.heap.size < w5.heap.size := (by omega))); (try (have hl53 : w3.heap.size < w5.heap.size := (by omega))); (try (have hl54 : w4.heap.size < w5.heap.size := (by omega))); clear hb; go_wp2_with fail)
                  refine hK.out _ _ ?_ (fun hHeld => ?_)
                  · (try dsimp only); go_keep
                  clear hK K
                  (try simp only [Act.put, List.setIfInBounds_toArray, List.set_cons_zero, List.set_cons_succ])
                  refine wpAnyH_take (i := 16) (oi := (⟨some 48, _, _, _, _, _⟩)) (v := ?_) rfl (by kernel_rfl) (by kernel_rfl) (by kernel_rfl) (fun _ _ _ h => h) (Or.inl ⟨by rfl, ?_⟩) (by assumption) ?_
                  rotate_left
                  · (intro w hSw; (try dsimp only at hSw); go_simp); try with_reducible rfl
                  (try simp only [Act.put, List.setIfInBounds_toArray, List.set_cons_zero, List.set_cons_succ])
                  refine wpAnyH_take (i := 17) (oi := (⟨some 4, _, _, _, _, _⟩)) (v := ?_) rfl (by kernel_rfl) (by kernel_rfl) (by kernel_rfl) (fun _ _ _ h => h) (Or.inl ⟨by rfl, ?_⟩) (by assumption) ?_
                  rotate_left
                  · (intro w hSw; (try dsimp only at hSw); go_simp); try with_reducible rfl
                  (try simp only [Act.put, List.setIfInBounds_toArray, List.set_cons_zero, List.set_cons_succ])
                  refine wpAnyH_take (i := 18) (oi := (⟨some 5, _, _, _, _, _⟩)) (v := ?_) rfl (by kernel_rfl) (by kernel_rfl) (by kernel_rfl) (fun _ _ _ h => h) (Or.inl ⟨by rfl, ?_⟩) (by assumption) ?_
                  rotate_left
                  · (intro w hSw; (try dsimp only at hSw); go_simp); try with_reducible rfl
                  (try simp only [Act.put, List.setIfInBounds_toArray, List.set_cons_zero, List.set_cons_succ])
                  refine wpAnyH_done (by kernel_rfl) ?_ _
                  go_wp2_with fail
                  go_ret2
                  exact ⟨by rw [HT.out]; rfl, by first | exact K5.out.1 | exact (K5.out.alloc _).1⟩
                exact AllReadyH.nil
              exact AllReadyH.nil
            refine AllReadyH.cons (o := (⟨some 43, _, _, _, _, _⟩)) rfl (fun K hK => ?_) ?_
            · go_simp
              (go_at_call 24; (with_reducible refine Calls.mono (HN2.out _) ?_); rintro e w4 ⟨rfl, hb⟩; have K4 := hid (FrK.step (by first | exact K3.out | exact K3.out.alloc _) hb); obtain ⟨_, q40, q41, q42⟩ := K4.out; obtain ⟨hc4, hf4⟩ := bcell hb; have hz4 := hb.size; (try simp at hz4); (try (have hl41 : w1.heap.size < w4.heap.size := (by omega))); (try (have hl43 : w3.heap.size < w4.heap.size := (by omega))); clear hb; go_wp2_with fail)
              refine hK.out _ _ ?_ (fun hHeld => ?_)
              · (try dsimp only); go_keep
              clear hK K
              (try simp only [Act.put, List.setIfInBounds_toArray, List.set_cons_zero, List.set_cons_succ])
              refine wpAnyH_ready (rs := [3, 15]) (by kernel_rfl) (by simp) ?_
              refine AllReadyH.cons (o := (⟨some 35, _, _, _, _, _⟩)) rfl (fun K hK => ?_) ?_
              · go_simp
                refine hK.out _ _ ?_ (fun hHeld => ?_)
                · (try dsimp only); go_keep
                clear hK K
                (try simp only [Act.put, List.setIfInBounds_toArray, List.set_cons_zero, List.set_cons_succ])
                refine wpAnyH_take (i := 4) (oi := (⟨some 36, _, _, _, _, _⟩)) (v := ?_) rfl (by kernel_rfl) (by kernel_rfl) (by kernel_rfl) (fun _ _ _ h => h) (Or.inl ⟨by rfl, ?_⟩) (by assumption) ?_
                rotate_left
                · (intro w hSw; (try dsimp only at hSw); go_simp); try with_reducible rfl
                (try simp only [Act.put, List.setIfInBounds_toArray, List.set_cons_zero, List.set_cons_succ])
                refine wpAnyH_take (i := 8) (oi := (⟨some 40, _, _, _, _, _⟩)) (v := ?_) rfl (by kernel_rfl) (by kernel_rfl) (by kernel_rfl) (fun _ _ _ h => h) (Or.inl ⟨by rfl, ?_⟩) (by assumption) ?_
                rotate_left
                · (intro w hSw; (try dsimp only at hSw); go_simp); try with_reducible rfl
                (try simp only [Act.put, List.setIfInBounds_toArray, List.set_cons_zero, List.set_cons_succ])
                refine wpAnyH_take (i := 12) (oi := (⟨some 44, _, _, _, _, _⟩)) (v := ?_) rfl (by kernel_rfl) (by kernel_rfl) (by kernel_rfl) (fun _ _ _ h => h) (Or.inl ⟨by rfl, ?_⟩) (by assumption) ?_
                rotate_left
                · (intro w hSw; (try dsimp only at hSw); go_simp); try with_reducible rfl
                (try simp only [Act.put, List.setIfInBounds_toArray, List.set_cons_zero, List.set_cons_succ])
                refine wpAnyH_ready (rs := [15]) (by kernel_rfl) (by simp) ?_
                refine AllReadyH.cons (o := (⟨some 47, _, _, _, _, _⟩)) rfl (fun K hK => ?_) ?_
                · go_simp
                  (go_at_call 25; (with_reducible refine Calls.mono (HJ.out _ ?hbel) ?_); (case hbel => first | exact K4.out.1 | exact (K4.out.alloc _).1); rintro e w5 ⟨rfl, hb⟩; have K5 := hid (FrK.step (by first | exact K4.out | exact K4.out.alloc _) hb); obtain ⟨_, q50, q51, q52⟩ := K5.out; obtain ⟨hc5, hf5⟩ := bcell hb; have hz5 := hb.size; (try simp at hz5); (try (have hl51 : w1.heap.size < w5.heap.size := (by omega))); (try (have hl53 : w3.heap.size < w5.heap.size := (by omega))); (try (have hl54 : w4.heap.size < w5.heap.size := (by omega))); clear hb; go_wp2_with fail)
                  refine hK.out _ _ ?_ (fun hHeld => ?_)
                  · (try dsimp only); go_keep
                  clear hK K
                  (try simp only [Act.put, List.setIfInBounds_toArray, List.set_cons_zero, List.set_cons_succ])
                  refine wpAnyH_take (i := 16) (oi := (⟨some 48, _, _, _, _, _⟩)) (v := ?_) rfl (by kernel_rfl) (by kernel_rfl) (by kernel_rfl) (fun _ _ _ h => h) (Or.inl ⟨by rfl, ?_⟩) (by assumption) ?_
                  rotate_left
                  · (intro w hSw; (try dsimp only at hSw); go_simp); try with_reducible rfl
                  (try simp only [Act.put, List.setIfInBounds_toArray, List.set_cons_zero, List.set_cons_succ])
                  refine wpAnyH_take (i := 17) (oi := (⟨some 4, _, _, _, _, _⟩)) (v := ?_) rfl (by kernel_rfl) (by kernel_rfl) (by kernel_rfl) (fun _ _ _ h => h) (Or.inl ⟨by rfl, ?_⟩) (by assumption) ?_
                  rotate_left
                  · (intro w hSw; (try dsimp only at hSw); go_simp); try with_reducible rfl
                  (try simp only [Act.put, List.setIfInBounds_toArray, List.set_cons_zero, List.set_cons_succ])
                  refine wpAnyH_take (i := 18) (oi := (⟨some 5, _, _, _, _, _⟩)) (v := ?_) rfl (by kernel_rfl) (by kernel_rfl) (by kernel_rfl) (fun _ _ _ h => h) (Or.inl ⟨by rfl, ?_⟩) (by assumption) ?_
                  rotate_left
                  · (intro w hSw; (try dsimp only at hSw); go_simp); try with_reducible rfl
                  (try simp only [Act.put, List.setIfInBounds_toArray, List.set_cons_zero, List.set_cons_succ])
                  refine wpAnyH_done (by kernel_rfl) ?_ _
                  go_wp2_with fail
                  go_ret2
                  exact ⟨by rw [HT.out]; rfl, by first | exact K5.out.1 | exact (K5.out.alloc _).1⟩
                exact AllReadyH.nil
              refine AllReadyH.cons (o := (⟨some 47, _, _, _, _, _⟩)) rfl (fun K hK => ?_) ?_
              · go_simp
                (go_at_call 25; (with_reducible refine Calls.mono (HJ.out _ ?hbel) ?_); (case hbel => first | exact K4.out.1 | exact (K4.out.alloc _).1); rintro e w5 ⟨rfl, hb⟩; have K5 := hid (FrK.step (by first | exact K4.out | exact K4.out.alloc _) hb); obtain ⟨_, q50, q51, q52⟩ := K5.out; obtain ⟨hc5, hf5⟩ := bcell hb; have hz5 := hb.size; (try simp at hz5); (try (have hl51 : w1.heap.size < w5.heap.size := (by omega))); (try (have hl53 : w3.heap.size < w5.heap.size := (by omega))); (try (have hl54 : w4.heap.size < w5.heap.size := (by omega))); clear hb; go_wp2_with fail)
                refine hK.out _ _ ?_ (fun hHeld => ?_)
                · (try dsimp only); go_keep
                clear hK K
                (try simp only [Act.put, List.setIfInBounds_toArray, List.set_cons_zero, List.set_cons_succ])
                refine wpAnyH_ready (rs := [3]) (by kernel_rfl) (by simp) ?_
                refine AllReadyH.cons (o := (⟨some 35, _, _, _, _, _⟩)) rfl (fun K hK => ?_) ?_
                · go_simp
                  refine hK.out _ _ ?_ (fun hHeld => ?_)
                  · (try dsimp only); go_keep
                  clear hK K
                  (try simp only [Act.put, List.setIfInBounds_toArray, List.set_cons_zero, List.set_cons_succ])
                  refine wpAnyH_take (i := 4) (oi := (⟨some 36, _, _, _, _, _⟩)) (v := ?_) rfl (by kernel_rfl) (by kernel_rfl) (by kernel_rfl) (fun _ _ _ h => h) (Or.inl ⟨by rfl, ?_⟩) (by assumption) ?_
                  rotate_left
                  · (intro w hSw; (try dsimp only at hSw); go_simp); try with_reducible rfl
                  (try simp only [Act.put, List.setIfInBounds_toArray, List.set_cons_zero, List.set_cons_succ])
                  refine wpAnyH_take (i := 8) (oi := (⟨some 40, _, _, _, _, _⟩)) (v := ?_) rfl (by kernel_rfl) (by kernel_rfl) (by kernel_rfl) (fun _ _ _ h => h) (Or.inl ⟨by rfl, ?_⟩) (by assumption) ?_
                  rotate_left
                  · (intro w hSw; (try dsimp only at hSw); go_simp); try with_reducible rfl
                  (try simp only [Act.put, List.setIfInBounds_toArray, List.set_cons_zero, List.set_cons_succ])
                  refine wpAnyH_take (i := 12) (oi := (⟨some 44, _, _, _, _, _⟩)) (v := ?_) rfl (by kernel_rfl) (by kernel_rfl) (by kernel_rfl) (fun _ _ _ h => h) (Or.inl ⟨by rfl, ?_⟩) (by assumption) ?_
                  rotate_left
                  · (intro w hSw; (try dsimp only at hSw); go_simp); try with_reducible rfl
                  (try simp only [Act.put, List.setIfInBounds_toArray, List.set_cons_zero, List.set_cons_succ])
                  refine wpAnyH_take (i := 16) (oi := (⟨some 48, _, _, _, _, _⟩)) (v := ?_) rfl (by kernel_rfl) (by kernel_rfl) (by kernel_rfl) (fun _ _ _ h => h) (Or.inl ⟨by rfl, ?_⟩) (by assumption) ?_
                  rotate_left
                  · (intro w hSw; (try dsimp only at hSw); go_simp); try with_reducible rfl
                  (try simp only [Act.put, List.setIfInBounds_toArray, List.set_cons_zero, List.set_cons_succ])
                  refine wpAnyH_take (i := 17) (oi := (⟨some 4, _, _, _, _, _⟩)) (v := ?_) rfl (by kernel_rfl) (by kernel_rfl) (by kernel_rfl) (fun _ _ _ h => h) (Or.inl ⟨by rfl, ?_⟩) (by assumption) ?_
                  rotate_left
                  · (intro w hSw; (try dsimp only at hSw); go_simp); try with_reducible rfl
                  (try simp only [Act.put, List.setIfInBounds_toArray, List.set_cons_zero, List.set_cons_succ])
                  refine wpAnyH_take (i := 18) (oi := (⟨some 5, _, _, _, _, _⟩)) (v := ?_) rfl (by kernel_rfl) (by kernel_rfl) (by kernel_rfl) (fun _ _ _ h => h) (Or.inl ⟨by rfl, ?_⟩) (by assumption) ?_
                  rotate_left
                  · (intro w hSw; (try dsimp only at hSw); go_simp); try with_reducible rfl
                  (try simp only [Act.put, List.setIfInBounds_toArray, List.set_cons_zero, List.set_cons_succ])
                  refine wpAnyH_done (by kernel_rfl) ?_ _
                  go_wp2_with fail
                  go_ret2
                  exact ⟨by rw [HT.out]; rfl, by first | exact K5.out.1 | exact (K5.out.alloc _).1⟩
                exact AllReadyH.nil
              exact AllReadyH.nil
            exact AllReadyH.nil
          refine AllReadyH.cons (o := (⟨some 43, _, _, _, _, _⟩)) rfl (fun K hK => ?_) ?_
          · go_simp
            (go_at_call 24; (with_reducible refine Calls.mono (HN2.out _) ?_); rintro e w4 ⟨rfl, hb⟩; have K4 := hid (FrK.step (by first | exact K3.out | exact K3.out.alloc _) hb); obtain ⟨_, q40, q41, q42⟩ := K4.out; obtain ⟨hc4, hf4⟩ := bcell hb; have hz4 := hb.size; (try simp at hz4); (try (have hl41 : w1.heap.size < w4.heap.size := (by omega))); (try (have hl43 : w3.heap.size < w4.heap.size := (by omega))); clear hb; go_wp2_with fail)
            refine hK.out _ _ ?_ (fun hHeld => ?_)
            · (try dsimp only); go_keep
            clear hK K
            (try simp only [Act.put, List.setIfInBounds_toArray, List.set_cons_zero, List.set_cons_succ])
            refine wpAnyH_ready (rs := [2, 15]) (by kernel_rfl) (by simp) ?_
            refine AllReadyH.cons (o := (⟨some 34, _, _, _, _, _⟩)) rfl (fun K hK => ?_) ?_
            · go_simp
              refine hK.out _ _ ?_ (fun hHeld => ?_)
              · (try dsimp only); go_keep
              clear hK K
              (try simp only [Act.put, List.setIfInBounds_toArray, List.set_cons_zero, List.set_cons_succ])
              refine wpAnyH_ready (rs := [3, 15]) (by kernel_rfl) (by simp) ?_
              refine AllReadyH.cons (o := (⟨some 35, _, _, _, _, _⟩)) rfl (fun K hK => ?_) ?_
              · go_simp
                refine hK.out _ _ ?_ (fun hHeld => ?_)
                · (try dsimp only); go_keep
                clear hK K
                (try simp only [Act.put, List.setIfInBounds_toArray, List.set_cons_zero, List.set_cons_succ])
                refine wpAnyH_take (i := 4) (oi := (⟨some 36, _, _, _, _, _⟩)) (v := ?_) rfl (by kernel_rfl) (by kernel_rfl) (by kernel_rfl) (fun _ _ _ h => h) (Or.inl ⟨by rfl, ?_⟩) (by assumption) ?_
                rotate_left
                · (intro w hSw; (try dsimp only at hSw); go_simp); try with_reducible rfl
                (try simp only [Act.put, List.setIfInBounds_toArray, List.set_cons_zero, List.set_cons_succ])
                refine wpAnyH_take (i := 8) (oi := (⟨some 40, _, _, _, _, _⟩)) (v := ?_) rfl (by kernel_rfl) (by kernel_rfl) (by kernel_rfl) (fun _ _ _ h => h) (Or.inl ⟨by rfl, ?_⟩) (by assumption) ?_
                rotate_left
                · (intro w hSw; (try dsimp only at hSw); go_simp); try with_reducible rfl
                (try simp only [Act.put, List.setIfInBounds_toArray, List.set_cons_zero, List.set_cons_succ])
                refine wpAnyH_take (i := 12) (oi := (⟨some 44, _, _, _, _, _⟩)) (v := ?_) rfl (by kernel_rfl) (by kernel_rfl) (by kernel_rfl) (fun _ _ _ h => h) (Or.inl ⟨by rfl, ?_⟩) (by assumption) ?_
                rotate_left
                · (intro w hSw; (try dsimp only at hSw); go_simp); try with_reducible rfl
                (try simp only [Act.put, List.setIfInBounds_toArray, List.set_cons_zero, List.set_cons_succ])
                refine wpAnyH_ready (rs := [15]) (by kernel_rfl) (by simp) ?_
                refine AllReadyH.cons (o := (⟨some 47, _, _, _, _, _⟩)) rfl (fun K hK => ?_) ?_
                · go_simp
                  (go_at_call 25; (with_reducible refine Calls.mono (HJ.out _ ?hbel) ?_); (case hbel => first | exact K4.out.1 | exact (K4.out.alloc _).1); rintro e w5 ⟨rfl, hb⟩; have K5 := hid (FrK.step (by first | exact K4.out | exact K4.out.alloc _) hb); obtain ⟨_, q50, q51, q52⟩ := K5.out; obtain ⟨hc5, hf5⟩ := bcell hb; have hz5 := hb.size; (try simp at hz5); (try (have hl51 : w1.heap.size < w5.heap.size := (by omega))); (try (have hl53 : w3.heap.size < w5.heap.size := (by omega))); (try (have hl54 : w4.heap.size < w5.heap.size := (by omega))); clear hb; go_wp2_with fail)
                  refine hK.out _ _ ?_ (fun hHeld => ?_)
                  · (try dsimp only); go_keep
                  clear hK K
                  (try simp only [Act.put, List.setIfInBounds_toArray, List.set_cons_zero, List.set_cons_succ])
                  refine wpAnyH_take (i := 16) (oi := (⟨some 48, _, _, _, _, _⟩)) (v := ?_) rfl (by kernel_rfl) (by kernel_rfl) (by kernel_rfl) (fun _ _ _ h => h) (Or.inl ⟨by rfl, ?_⟩) (by assumption) ?_
                  rotate_left
                  · (intro w hSw; (try dsimp only at hSw); go_simp); try with_reducible rfl
                  (try simp only [Act.put, List.setIfInBounds_toArray, List.set_cons_zero, List.set_cons_succ])
                  refine wpAnyH_take (i := 17) (oi := (⟨some 4, _, _, _, _, _⟩)) (v := ?_) rfl (by kernel_rfl) (by kernel_rfl) (by kernel_rfl) (fun _ _ _ h => h) (Or.inl ⟨by rfl, ?_⟩) (by assumption) ?_
                  rotate_left
                  · (intro w hSw; (try dsimp only at hSw); go_simp); try with_reducible rfl
                  (try simp only [Act.put, List.setIfInBounds_toArray, List.set_cons_zero, List.set_cons_succ])
                  refine wpAnyH_take (i := 18) (oi := (⟨some 5, _, _, _, _, _⟩)) (v := ?_) rfl (by kernel_rfl) (by kernel_rfl) (by kernel_rfl) (fun _ _ _ h => h) (Or.inl ⟨by rfl, ?_⟩) (by assumption) ?_
                  rotate_left
                  · (intro w hSw; (try dsimp only at hSw); go_simp); try with_reducible rfl
                  (try simp only [Act.put, List.setIfInBounds_toArray, List.set_cons_zero, List.set_cons_succ])
                  refine wpAnyH_done (by kernel_rfl) ?_ _
                  go_wp2_with fail
                  go_ret2
                  exact ⟨by rw [HT.out]; rfl, by first | exact K5.out.1 | exact (K5.out.alloc _).1⟩
                exact AllReadyH.nil
              refine AllReadyH.cons (o := (⟨some 47, _, _, _, _, _⟩)) rfl (fun K hK => ?_) ?_
              · go_simp
                (go_at_call 25; (with_reducible refine Calls.mono (HJ.out _ ?hbel) ?_); (case hbel => first | exact K4.out.1 | exact (K4.out.alloc _).1); rintro e w5 ⟨rfl, hb⟩; have K5 := hid (FrK.step (by first | exact K4.out | exact K4.out.alloc _) hb); obtain ⟨_, q50, q51, q52⟩ := K5.out; obtain ⟨hc5, hf5⟩ := bcell hb; have hz5 := hb.size; (try simp at hz5); (try (have hl51 : w1.heap.size < w5.heap.size := (by omega))); (try (have hl53 : w3.heap.size < w5.heap.size := (by omega))); (try (have hl54 : w4.heap.size < w5.heap.size := (by omega))); clear hb; go_wp2_with fail)
                refine hK.out _ _ ?_ (fun hHeld => ?_)
                · (try dsimp only); go_keep
                clear hK K
                (try simp only [Act.put, List.setIfInBounds_toArray, List.set_cons_zero, List.set_cons_succ])
                refine wpAnyH_ready (rs := [3]) (by kernel_rfl) (by simp) ?_
                refine AllReadyH.cons (o := (⟨some 35, _, _, _, _, _⟩)) rfl (fun K hK => ?_) ?_
                · go_simp
                  refine hK.out _ _ ?_ (fun hHeld => ?_)
                  · (try dsimp only); go_keep
                  clear hK K
                  (try simp only [Act.put, List.setIfInBounds_toArray, List.set_cons_zero, List.set_cons_succ])
                  refine wpAnyH_take (i := 4) (oi := (⟨some 36, _, _, _, _, _⟩)) (v := ?_) rfl (by kernel_rfl) (by kernel_rfl) (by kernel_rfl) (fun _ _ _ h => h) (Or.inl ⟨by rfl, ?_⟩) (by assumption) ?_
                  rotate_left
                  · (intro w hSw; (try dsimp only at hSw); go_simp); try with_reducible rfl
                  (try simp only [Act.put, List.setIfInBounds_toArray, List.set_cons_zero, List.set_cons_succ])
                  refine wpAnyH_take (i := 8) (oi := (⟨some 40, _, _, _, _, _⟩)) (v := ?_) rfl (by kernel_rfl) (by kernel_rfl) (by kernel_rfl) (fun _ _ _ h => h) (Or.inl ⟨by rfl, ?_⟩) (by assumption) ?_
                  rotate_left
                  · (intro w hSw; (try dsimp only at hSw); go_simp); try with_reducible rfl
                  (try simp only [Act.put, List.setIfInBounds_toArray, List.set_cons_zero, List.set_cons_succ])
                  refine wpAnyH_take (i := 12) (oi := (⟨some 44, _, _, _, _, _⟩)) (v := ?_) rfl (by kernel_rfl) (by kernel_rfl) (by kernel_rfl) (fun _ _ _ h => h) (Or.inl ⟨by rfl, ?_⟩) (by assumption) ?_
                  rotate_left
                  · (intro w hSw; (try dsimp only at hSw); go_simp); try with_reducible rfl
                  (try simp only [Act.put, List.setIfInBounds_toArray, List.set_cons_zero, List.set_cons_succ])
                  refine wpAnyH_take (i := 16) (oi := (⟨some 48, _, _, _, _, _⟩)) (v := ?_) rfl (by kernel_rfl) (by kernel_rfl) (by kernel_rfl) (fun _ _ _ h => h) (Or.inl ⟨by rfl, ?_⟩) (by assumption) ?_
                  rotate_left
                  · (intro w hSw; (try dsimp only at hSw); go_simp); try with_reducible rfl
                  (try simp only [Act.put, List.setIfInBounds_toArray, List.set_cons_zero, List.set_cons_succ])
                  refine wpAnyH_take (i := 17) (oi := (⟨some 4, _, _, _, _, _⟩)) (v := ?_) rfl (by kernel_rfl) (by kernel_rfl) (by kernel_rfl) (fun _ _ _ h => h) (Or.inl ⟨by rfl, ?_⟩) (by assumption) ?_
                  rotate_left
                  · (intro w hSw; (try dsimp only at hSw); go_simp); try with_reducible rfl
                  (try simp only [Act.put, List.setIfInBounds_toArray, List.set_cons_zero, List.set_cons_succ])
                  refine wpAnyH_take (i := 18) (oi := (⟨some 5, _, _, _, _, _⟩)) (v := ?_) rfl (by kernel_rfl) (by kernel_rfl) (by kernel_rfl) (fun _ _ _ h => h) (Or.inl ⟨by rfl, ?_⟩) (by assumption) ?_
                  rotate_left
                  · (intro w hSw; (try dsimp only at hSw); go_simp); try with_reducible rfl
                  (try simp only [Act.put, List.setIfInBounds_toArray, List.set_cons_zero, List.set_cons_succ])
                  refine wpAnyH_done (by kernel_rfl) ?_ _
                  go_wp2_with fail
                  go_ret2
                  exact ⟨by rw [HT.out]; rfl, by first | exact K5.out.1 | exact (K5.out.alloc _).1⟩
                exact AllReadyH.nil
              exact AllReadyH.nil
            refine AllReadyH.cons (o := (⟨some 47, _, _, _, _, _⟩)) rfl (fun K hK => ?_) ?_
            · go_simp
              (go_at_call 25; (with_reducible refine Calls.mono (HJ.out _ ?hbel) ?_); (case hbel => first | exact K4.out.1 | exact (K4.out.alloc _).1); rintro e w5 ⟨rfl, hb⟩; have K5 := hid (FrK.step (by first | exact K4.out | exact K4.out.alloc _) hb); obtain ⟨_, q50, q51, q52⟩ := K5.out; obtain ⟨hc5, hf5⟩ := bcell hb; have hz5 := hb.size; (try simp at hz5); (try (have hl51 : w1.heap.size < w5.heap.size := (by omega))); (try (have hl53 : w3.heap.size < w5.heap.size := (by omega))); (try (have hl54 : w4.heap.size < w5.heap.size := (by omega))); clear hb; go_wp2_with fail)
              refine hK.out _ _ ?_ (fun hHeld => ?_)
              · (try dsimp only); go_keep
              clear hK K
              (try simp only [Act.put, List.setIfInBounds_toArray, List.set_cons_zero, List.set_cons_succ])
              refine wpAnyH_ready (rs := [2]) (by kernel_rfl) (by simp) ?_
              refine AllReadyH.cons (o := (⟨some 34, _, _, _, _, _⟩)) rfl (fun K hK => ?_) ?_
              · go_simp
                refine hK.out _ _ ?_ (fun hHeld => ?_)
                · (try dsimp only); go_keep
                clear hK K
                (try simp only [Act.put, List.setIfInBounds_toArray, List.set_cons_zero, List.set_cons_succ])
                refine wpAnyH_ready (rs := [3]) (by kernel_rfl) (by simp) ?_
                refine AllReadyH.cons (o := (⟨some 35, _, _, _, _, _⟩)) rfl (fun K hK => ?_) ?_
                · go_simp
                  refine hK.out _ _ ?_ (fun hHeld => ?_)
                  · (try dsimp only); go_keep
                  clear hK K
                  (try simp only [Act.put, List.setIfInBounds_toArray, List.set_cons_zero, List.set_cons_succ])
                  refine wpAnyH_take (i := 4) (oi := (⟨some 36, _, _, _, _, _⟩)) (v := ?_) rfl (by kernel_rfl) (by kernel_rfl) (by kernel_rfl) (fun _ _ _ h => h) (Or.inl ⟨by rfl, ?_⟩) (by assumption) ?_
                  rotate_left
                  · (intro w hSw; (try dsimp only at hSw); go_simp); try with_reducible rfl
                  (try simp only [Act.put, List.setIfInBounds_toArray, List.set_cons_zero, List.set_cons_succ])
                  refine wpAnyH_take (i := 8) (oi := (⟨some 40, _, _, _, _, _⟩)) (v := ?_) rfl (by kernel_rfl) (by kernel_rfl) (by kernel_rfl) (fun _ _ _ h => h) (Or.inl ⟨by rfl, ?_⟩) (by assumption) ?_
                  rotate_left
                  · (intro w hSw; (try dsimp only at hSw); go_simp); try with_reducible rfl
                  (try simp only [Act.put, List.setIfInBounds_toArray, List.set_cons_zero, List.set_cons_succ])
                  refine wpAnyH_take (i := 12) (oi := (⟨some 44, _, _, _, _, _⟩)) (v := ?_) rfl (by kernel_rfl) (by kernel_rfl) (by kernel_rfl) (fun _ _ _ h => h) (Or.inl ⟨by rfl, ?_⟩) (by assumption) ?_
                  rotate_left
                  · (intro w hSw; (try dsimp only at hSw); go_simp); try with_reducible rfl
                  (try simp only [Act.put, List.setIfInBounds_toArray, List.set_cons_zero, List.set_cons_succ])
                  refine wpAnyH_take (i := 16) (oi := (⟨some 48, _, _, _, _, _⟩)) (v := ?_) rfl (by kernel_rfl) (by kernel_rfl) (by kernel_rfl) (fun _ _ _ h => h) (Or.inl ⟨by rfl, ?_⟩) (by assumption) ?_
                  rotate_left
                  · (intro w hSw; (try dsimp only at hSw); go_simp); try with_reducible rfl
                  (try simp only [Act.put, List.setIfInBounds_toArray, List.set_cons_zero, List.set_cons_succ])
                  refine wpAnyH_take (i := 17) (oi := (⟨some 4, _, _, _, _, _⟩)) (v := ?_) rfl (by kernel_rfl) (by kernel_rfl) (by kernel_rfl) (fun _ _ _ h => h) (Or.inl ⟨by rfl, ?_⟩) (by assumption) ?_
                  rotate_left
                  · (intro w hSw; (try dsimp only at hSw); go_simp); try with_reducible rfl
                  (try simp only [Act.put, List.setIfInBounds_toArray, List.set_cons_zero, List.set_cons_succ])
                  refine wpAnyH_take (i := 18) (oi := (⟨some 5, _, _, _, _, _⟩)) (v := ?_) rfl (by kernel_rfl) (by kernel_rfl) (by kernel_rfl) (fun _ _ _ h => h) (Or.inl ⟨by rfl, ?_⟩) (by assumption) ?_
                  rotate_left
                  · (intro w hSw; (try dsimp only at hSw); go_simp); try with_reducible rfl
                  (try simp only [Act.put, List.setIfInBounds_toArray, List.set_cons_zero, List.set_cons_succ])
                  refine wpAnyH_done (by kernel_rfl) ?_ _
                  go_wp2_with fail
                  go_ret2
                  exact ⟨by rw [HT.out]; rfl, by first | exact K5.out.1 | exact (K5.out.alloc _).1⟩
                exact AllReadyH.nil
              exact AllReadyH.nil
            exact AllReadyH.nil
          exact AllReadyH.nil
        exact AllReadyH.nil
    · have hlenI : ((m : Int) != (xs.length : Int)) = true := by simp; omega
      have HR : Hid (frontR x lo hi xs = (⟨#[]⟩, 71)) := by unfold Hid; rw [HRR.out, if_pos hlen]
      clear hlen HRR hx
      go_enter Try.func6, Try.ntmps6
      go_wp2_with fail
      refine (hwd.out _).mono ?_
      rintro e w' ⟨rfl, rfl⟩
      go_wp2_with fail
      refine (hc.out _).mono ?_
      rintro e w1 ⟨v, rfl, ho, hb1⟩
      obtain ⟨ao2, cap2, rfl⟩ := own_val ho
      have K1 := hid (K0.out.step hb1)
      obtain ⟨_, q0, q1, q2⟩ := K1.out
      clear ho hb1
      go_wp2_with fail
      go_ret2
      exact ⟨by rw [HR.out]; rfl, K1.out.1⟩
end Go.Proofs.Ytpdjiflbidjcbaa
