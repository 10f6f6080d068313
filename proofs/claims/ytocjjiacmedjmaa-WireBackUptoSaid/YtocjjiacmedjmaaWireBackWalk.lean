/- Walk of the law WireBack (printed by wip/mkback.py). -/
import Derived.Test.YtocjjiacmedjmaaFit
import Derived.Test.YtocjjiacmedjmaaBackK
set_option maxRecDepth 100000
namespace Go.Proofs.Ytocjjiacmedjmaa
open Go Go.RowKit

theorem law_fittedN (k wd a b n : Int) (ao : Option Addr) (xs : List Int) (cap : Nat) (ho : Option Addr) (hs : List ByteArray) (hcap : Nat) (w : World)
    (hx : RowAt w ao (ints xs)) (hh : RowAt w ho (strs' hs)) (hlx : xs.length ≤ 4611686018427387904) (hlh : hs.length ≤ 4611686018427387904) (hsz : ∀ x ∈ hs, x.size ≤ 140737488351232) :
    Calls Try.prog 6 #[.agg #[.int .i64 k, .int .i64 wd, .int .i64 a, .int .i64 b, .int .i64 n, .slice ao xs.length cap, .slice ho hs.length hcap]] w fun e w' => ∃ (k wd a b n : Nat) (ao : Option Addr) (xs : List Int) (cap : Nat) (ho : Option Addr) (hs : List ByteArray) (hcap : Nat), e = .returned (.tuple #[.agg #[.int .i64 k, .int .i64 wd, .int .i64 a, .int .i64 b, .int .i64 n, .slice ao xs.length cap, .slice ho hs.length hcap], .bool true]) ∧ Fit k wd a b n xs hs ∧
    w'.ownsRow w.heap.size 3 1 (.slice ao xs.length cap) xs.length (ints xs) ∧ w'.ownsRow w.heap.size 9 1 (.slice ho hs.length hcap) hs.length (strs' hs) ∧ xs.length ≤ 1024 ∧ hs.length ≤ 65536 ∧ Below w.heap.size w w' := by
  refine (law_fitted k wd a b n ao xs cap ho hs hcap w hx hh hlx hlh hsz).mono ?_
  rintro e w' ⟨k, wd, a, b, n, ao, xs, cap, ho, hs, hcap, rfl, f, h1, h2, h3, h4, h5⟩
  obtain ⟨k, wd, a, b, n, rfl, rfl, rfl, rfl, rfl⟩ := fit_nat f
  exact ⟨k, wd, a, b, n, ao, xs, cap, ho, hs, hcap, rfl, f, h1, h2, h3, h4, h5⟩

set_option maxHeartbeats 8000000 in
theorem law_WireBack (k wd a b n : Int) (ao : Option Addr) (xs : List Int) (cap : Nat) (ho : Option Addr) (hs : List ByteArray) (hcap : Nat) (lo hi : Int) (lo' : Option Addr) (ls : List ByteArray) (lcap : Nat) (w : World)
    (hx : RowAt w ao (ints xs)) (hh : RowAt w ho (strs' hs)) (hls : RowAt w lo' (strs' ls))
    (hlx : xs.length ≤ 4611686018427387904) (hlh : hs.length ≤ 4611686018427387904) (hsz : ∀ x ∈ hs, x.size ≤ 140737488351232) (hll : ls.length ≤ 4611686018427387904) (hlz : ∀ x ∈ ls, x.size ≤ 140737488351232) :
    Calls Try.prog 4 #[.agg #[.int .i64 k, .int .i64 wd, .int .i64 a, .int .i64 b, .int .i64 n, .slice ao xs.length cap, .slice ho hs.length hcap], .int .i64 lo, .int .i64 hi, .slice lo' ls.length lcap] w fun e w' => e = .returned (.bool true) ∧ Below w.heap.size w w' := by
  have HLZ := hid hlz
  have HLS := hid hls
  have HSZ := hid hsz
  have HHS := hid hh
  obtain ⟨W0, hW⟩ : ∃ W, w.alloc (.cells #[.int .i64 k, .int .i64 wd, .int .i64 a, .int .i64 b, .int .i64 n, .slice ao xs.length cap, .slice ho hs.length hcap] 25) = W := ⟨_, rfl⟩
  have O0 := hid (show Owns w W0 [boxR w.heap.size 25 [.int .i64 k, .int .i64 wd, .int .i64 a, .int .i64 b, .int .i64 n, .slice ao xs.length cap, .slice ho hs.length hcap]] from by
    have h := (Owns.nil w).box 25 (.int .i64 k) (.int .i64 wd) (.int .i64 a) (.int .i64 b) (.int .i64 n) (.slice ao xs.length cap) (.slice ho hs.length hcap)
    rw [hW] at h
    simpa using h)
  have HW := hid hW
  have hfit := law_fittedN k wd a b n ao xs cap ho hs hcap W0 (hx.below O0.out.bel) (hh.below O0.out.bel) hlx hlh hsz
  have hnum := hid law_num
  clear hlz hls hx hh hsz hW
  go_enter Try.func4, Try.ntmps4
  go_wp2_with fail
  rw [HW.out]
  refine hfit.mono ?_
  clear hfit HW
  rintro e w1 ⟨k3, wd3, a3, b3, n3, ao3, xs3, cap3, ho3, hs3, hcap3, rfl, fit3, ox, oz, hxl3, hhl3, b1⟩
  obtain ⟨W1, hW, hO⟩ := O0.out.proof (k := k3) (wd := wd3) (a := a3) (b := b3) (n := n3) ox oz b1
  have O1 := hid hO
  have HW := hid hW
  obtain ⟨s3, e3, u3, z3, l3⟩ := back_of_proof fit3 hxl3 hhl3
  have hw1 : 1 ≤ wd3 := by have := fit3.w1; omega
  have hw2 : wd3 ≤ 32 := by have := fit3.w32; omega
  have hp3 := hid (fun (W : World) h1 h2 h3 => wire_Proof k3 wd3 a3 b3 n3 ao3 xs3 cap3 ho3 hs3 hcap3 W h1 h2 (by omega) (by omega) h3)
  rw [e3] at hp3
  have hu3 := hid (fun (W : World) => wire_UnProof s3 z3 W)
  rw [u3] at hu3
  clear ox oz b1 hW hO O0 fit3 e3 u3 z3
  obtain ⟨q0, q1, q2, q3, q4, q5, q6⟩ := O1.out.seven 0 rfl
  rw [← HW.out] at q0 q1 q2 q3 q4 q5 q6
  go_wp2_with fail
  rw [HW.out]
  clear q0 q1 q2 q3 q4 q5 q6 HW
  have h3 := hp3.out _ (own_at (O1.out.getR 2 rfl)) (own_at (O1.out.getR 1 rfl)) (own_cap (O1.out.getR 1 rfl))
  unfold proofV at h3
  refine h3.mono ?_
  clear h3 hp3
  rintro e w2 ⟨rfl, b2⟩
  unfold strErr
  simp only
  have O2 := hid (O1.out.below b2)
  clear b2 O1
  go_wp2_with fail
  refine (hu3.out _).mono ?_
  clear hu3
  rintro e w3 ⟨ao4, cap4, ho4, hcap4, rfl, ox, oz, d3⟩
  obtain ⟨W3, hW, hO⟩ := O2.out.proof (k := k3) (wd := wd3) (a := a3) (b := b3) (n := n3) ox oz d3
  have O3 := hid hO
  have HW := hid hW
  clear ox oz d3 hW hO O2
  unfold pfV
  simp only
  obtain ⟨q0, q1, q2, q3, q4, q5, q6⟩ := O3.out.seven 0 rfl
  obtain ⟨p0, p1, p2, p3, p4, p5, p6⟩ := O3.out.seven 3 rfl
  have hal := hid (law_alike k3 wd3 a3 b3 n3 xs3 hs3 ao3 ao4 ho3 ho4 cap3 cap4 hcap3 hcap4 W3 (by omega) (by omega) (own_at (O3.out.getR 5 rfl)) (own_at (O3.out.getR 2 rfl)) (own_at (O3.out.getR 4 rfl)) (own_at (O3.out.getR 1 rfl)))
  unfold proofV at hal
  rw [← HW.out] at q0 q1 q2 q3 q4 q5 q6 p0 p1 p2 p3 p4 p5 p6 hal
  obtain ⟨l3a, l3b, l3c⟩ := l3

  have hpb := pick_bounds lo 4611686018427387904 (by omega)
  have HPK := hid (law_pick lo 4611686018427387904 (by omega) (by omega))
  obtain ⟨f, hf⟩ := Int.eq_ofNat_of_zero_le hpb.1
  rw [hf] at hpb
  simp only [hf] at HPK
  have hpb2 := pick_bounds hi (4611686018427387904 - f) (by omega)
  have HPK2 := hid (law_pick hi (4611686018427387904 - f) (by omega) (by omega))
  obtain ⟨g, hg⟩ := Int.eq_ofNat_of_zero_le hpb2.1
  rw [hg] at hpb2
  simp only [hg] at HPK2
  obtain ⟨t, ht⟩ : ∃ t, t = f + g := ⟨_, rfl⟩
  have htI : (f : Int) + (g : Int) = (t : Int) := by omega
  have htl : t ≤ 4611686018427387904 := by omega
  have hfl : f ≤ t := by omega
  have HTC := hid (tree_Cover_good f t hfl htl)
  have hcl := cover_len f t htl
  obtain ⟨m, hm⟩ : ∃ m, m = (coverN f t).length := ⟨_, rfl⟩
  have HM := hid hm
  rw [← hm] at HTC hcl
  clear hf hg hpb hpb2 hm ht
  go_upto_if 69 with (first | (go_at_call 9; refine (hnum.out _ _).mono ?_; rintro e w' ⟨rfl, rfl⟩) | (go_at_call 10; (with_reducible refine Calls.mono hal.out ?_); rintro e w4 ⟨rfl, b4⟩; rw [HW.out] at b4; have O4 := hid (O3.out.below b4); clear b4 HW O3 q0 q1 q2 q3 q4 q5 q6 p0 p1 p2 p3 p4 p5 p6) | fail)
  clear hal l3a l3b l3c
  go_wp2_with (first | (go_at_call 13; (with_reducible refine Calls.mono (HPK.out _) ?_); rintro e w' ⟨rfl, rfl⟩) | (go_at_call 13; (with_reducible refine Calls.mono (HPK2.out _) ?_); rintro e w' ⟨rfl, rfl⟩) | fail)
  clear HPK HPK2
  refine (HTC.out _).mono ?_
  clear HTC
  rintro e w5 ⟨v, rfl, ow, d5⟩
  obtain ⟨vo, vcap, rfl⟩ := own_val ow
  have O5 := hid (O4.out.below d5)
  clear ow d5 O4
  have qw := (O5.out.seven 3 rfl).2.1
  have qh := (O5.out.seven 6 rfl).2.2.2.2.2.2
  have hfl5 := hid (law_filled m wd3 ho hs hcap w5 (by omega) hw2 (HHS.out.below O5.out.bel) hlh HSZ.out)
  go_wp2_with fail
  refine hfl5.out.mono ?_
  clear hfl5 qw qh
  rintro e w6 ⟨hs5, v, rfl, hlen, hsz5, ow, d6⟩
  rw [strs'_length] at ow
  obtain rfl := hlen
  obtain ⟨fo, fcap, rfl⟩ := own_val ow
  have O6 := hid ((O5.out.below d6).below ((Below.refl _ _).alloc (Nat.le_refl _) (.cells #[.int .i64 f, .int .i64 t, .slice fo hs5.length fcap] 44)))
  have K6 := hid (FrK.start w6 f t fo hs5.length fcap)
  have R6 := hid ((own_at ow).below K6.out.1)
  have c6 := own_cap ow
  obtain ⟨s5, e5, u5, z5, l5⟩ := back_of_front (n := wd3) (lo := f) (hi := t) (hs := hs5) ⟨hw1, hw2, hfl, htl, HM.out, hsz5⟩
  have hu5 := hid (fun (W : World) => wire_UnFrontier s5 z5 W)
  rw [u5] at hu5
  clear ow d6 O5 u5 z5 HM hsz5
  generalize hW6 : w6.alloc (.cells #[.int .i64 f, .int .i64 t, .slice fo hs5.length fcap] 44) = W6 at *
  have HW6 := hid hW6
  clear hW6
  have hfr := hid (wire_Frontier wd3 f t fo hs5 fcap W6 c6 (by omega) R6.out)
  rw [e5] at hfr
  clear e5
  have qw := (O6.out.seven 3 rfl).2.1
  rw [← HW6.out] at qw
  go_wp2_with fail
  rw [HW6.out]
  clear qw HW6
  refine hfr.out.mono ?_
  clear hfr
  rintro e w8 ⟨rfl, d8⟩
  unfold strErr
  simp only
  have O8 := hid (O6.out.below d8)
  have K8 := hid (K6.out.step d8)
  have R8 := hid (R6.out.below d8)
  clear d8 O6 K6 R6
  go_wp2_with fail
  refine (hu5.out _).mono ?_
  clear hu5
  rintro e w9 ⟨v, rfl, ow, d9⟩
  obtain ⟨go, gcap, rfl⟩ := own_val ow
  simp only at ow ⊢
  have d9a := (Below.refl w9.heap.size w9).alloc (Nat.le_refl _) (.cells #[.int .i64 f, .int .i64 t, .slice go hs5.length gcap] 44)
  have O9 := hid ((O8.out.below d9).below d9a)
  have K9 := hid ((K8.out.step d9).step d9a)
  have R9 := hid ((R8.out.below d9).below d9a)
  have G9 := hid (FrK.start w9 f t go hs5.length gcap)
  have S9 := hid ((own_at ow).below d9a)
  clear ow d9 d9a O8 K8 R8
  generalize hW9 : w9.alloc (.cells #[.int .i64 f, .int .i64 t, .slice go hs5.length gcap] 44) = W9 at *
  have HW9 := hid hW9
  clear hW9
  have hsm := hid (law_same fo go hs5 fcap gcap W9 (by omega) R9.out S9.out)
  obtain ⟨_, k1, k2, k3⟩ := K9.out
  obtain ⟨_, g1, g2, g3⟩ := G9.out
  have qw := (O9.out.seven 3 rfl).2.1
  rw [← HW9.out] at qw k1 k2 k3 g1 g2 g3 hsm
  obtain ⟨l5a, l5b, l5c⟩ := l5
  go_upto_if 154 with (first | (go_at_call 9; refine (hnum.out _ _).mono ?_; rintro e w' ⟨rfl, rfl⟩) | (go_at_call 18; (with_reducible refine Calls.mono hsm.out ?_); rintro e w10 ⟨rfl, d10⟩; rw [HW9.out] at d10; have O10 := hid (O9.out.below d10); clear d10 HW9 O9 k1 k2 k3 g1 g2 g3 qw K9 G9 R9 S9; have qw := (O10.out.seven 3 rfl).2.1) | fail)
  clear hsm l5a l5b l5c qw
  have hmod : ((ls.length : Int).tmod 257) = ((ls.length % 257 : Nat) : Int) := by rw [Int.tmod_eq_emod_of_nonneg (by omega)]; omega
  have hml := Nat.mod_lt ls.length (show 0 < 257 by omega)
  obtain ⟨n7, hn7⟩ : ∃ n7, n7 = ls.length % 257 := ⟨_, rfl⟩
  rw [← hn7] at hmod hml
  have qw := (O10.out.seven 3 rfl).2.1
  have hfl7 := hid (law_filled n7 wd3 lo' ls lcap w10 (by omega) hw2 (HLS.out.below O10.out.bel) hll HLZ.out)
  clear hn7
  go_wp2_with fail
  refine hfl7.out.mono ?_
  clear hfl7 qw hmod
  rintro e w11 ⟨hs7, v, rfl, hlen, hsz7, ow, d11⟩
  rw [strs'_length] at ow
  obtain rfl := hlen
  obtain ⟨ro, rcap, rfl⟩ := own_val ow
  have O11 := hid (O10.out.below d11)
  have R11 := hid (own_at ow)
  have c11 := own_cap ow
  obtain ⟨s7, e7, u7, z7, l7⟩ := back_of_row (n := wd3) (hs := hs7) ⟨hw1, hw2, by omega, hsz7⟩
  have hu7 := hid (fun (W : World) => wire_UnHashes s7 z7 W)
  rw [u7] at hu7
  have hrw := hid (wire_Hashes wd3 ro hs7 rcap w11 c11 R11.out)
  rw [e7] at hrw
  have qw := (O11.out.seven 3 rfl).2.1
  clear ow d11 O10 u7 z7 e7 hsz7 c11
  go_wp2_with fail
  refine hrw.out.mono ?_
  clear hrw qw
  rintro e w12 ⟨rfl, d12⟩
  unfold strErr
  simp only
  have O12 := hid (O11.out.below d12)
  have R12 := hid (R11.out.below d12)
  clear d12 O11 R11
  go_wp2_with fail
  refine (hu7.out _).mono ?_
  clear hu7
  rintro e w13 ⟨v, rfl, ow, d13⟩
  obtain ⟨tao, tcap, rfl⟩ := own_val ow
  simp only at ow ⊢
  rw [strs'_length] at ow ⊢
  have O13 := hid (O12.out.below d13)
  have R13 := hid (R12.out.below d13)
  have hsm := hid (law_same ro tao hs7 rcap tcap w13 (by omega) R13.out (own_at ow))
  have qw := (O13.out.seven 3 rfl).2.1
  obtain ⟨l7a, l7b, l7c⟩ := l7
  clear ow d13 O12 R12
  go_upto_if 203 with (first | (go_at_call 9; refine (hnum.out _ _).mono ?_; rintro e w' ⟨rfl, rfl⟩) | (go_at_call 18; (with_reducible refine Calls.mono hsm.out ?_); rintro e w14 ⟨rfl, d14⟩; have O14 := hid (O13.out.below d14); clear d14 O13 qw; have qw := (O14.out.seven 3 rfl).2.1) | fail)
  clear hsm l7a l7b l7c qw
  have HL2 := hid (HLS.out.below O14.out.bel)
  have hbel := O14.out.bel
  have HB0 := hid hbel
  clear hbel R13 O14 hw1 hw2 hml hcl htl hfl HHS HLS HSZ
  go_wp2_with fail
  go_loopw [26, 27] (fun v' i' wr => ∃ zs : List ByteArray, i' = .int .i64 zs.length ∧ zs.length ≤ ls.length ∧ zs.length ≤ 1024 ∧ (∀ x ∈ zs, x.size ≤ 4096) ∧ wr.ownsRow w14.heap.size 9 1 v' zs.length (strs' zs) ∧ Below w14.heap.size w14 wr) (fun _ i' _ => (ls.length - intOf i').toNat)
  case atStart => exact ⟨[], rfl, by simp, by simp, by intro x hx; simp at hx, World.ownsRow_nil _ _ _ _, Below.refl _ _⟩
  case round =>
    obtain ⟨zs, rfl, hle, hle2, hzz, hown, hbw⟩ := hrel
    have HZZ := hid hzz
    have HO := hid hown
    have HB := hid hbw
    clear hzz hown hbw
    by_cases hlt : zs.length < ls.length ∧ zs.length < 1024
    · obtain ⟨hlt, hlt2⟩ := hlt
      obtain ⟨bb, off, hlo, hc⟩ := (HL2.out.below HB.out).str hlt
      subst hlo
      have hcell := hc zs.length hlt
      have hysz := HLZ.out ls[zs.length] (List.getElem_mem hlt)
      obtain ⟨y, hy⟩ : ∃ y, y = ls[zs.length] := ⟨_, rfl⟩
      rw [← hy] at hcell hysz
      have hsz : w14.heap.size ≤ wr.heap.size := HB.out.size
      clear hc hy
      rcases (show 4096 < y.size ∨ y.size ≤ 4096 by omega) with hbig | hbig
      · have hbI : (4096 : Int) < (y.size : Int) := by omega
        have hmin : min (y.size : Int) 4096 = 4096 := by omega
        have hmin2 : (4096 : Int) ≤ (y.size : Int) := by omega
        have hmin3 : 4096 ≤ y.size := by omega
        go_wp2_with fail
        go_region_law (first | (refine step_appendSd w14.heap.size (by rfl) (.tmp 214) (.tmp 226) 23 9 (.string ⟨#[]⟩) 1 16 (by rfl) Try.underlying23 info_string rfl (by decide) (by decide) _ zs.length (strs' zs) [.string (y.extract 0 4096)] (by rfl) (by rfl) rfl (by simp [Value.oneCell']) (by exact HO.out) hsz (by omega) ?_; intro g cap1 w1 hown1 hb1; have HO1 := hid hown1; have HB1 := hid hb1; clear hown1 hb1))
        all_goals
          go_wp2_with fail
          go_roundw
          case rel => exact ⟨zs ++ [y.extract 0 4096], by simp, by simp; omega, by simp; omega, fun x hx => (List.mem_append.1 hx).elim (fun h => HZZ.out x h) (fun h => by rw [List.mem_singleton.1 h, ByteArray.size_extract]; omega), by rw [show strs' (zs ++ [y.extract 0 4096]) = strs' zs ++ [Value.string (y.extract 0 4096)] by simp [strs'], show (zs ++ [y.extract 0 4096]).length = zs.length + 1 by simp]; exact HO1.out, HB.out.trans HB1.out⟩
          case measure => simp [intOf]; omega
      · have hbI : ¬ (4096 : Int) < (y.size : Int) := by omega
        have hmin : min (y.size : Int) 4096 = (y.size : Int) := by omega
        go_wp2_with fail
        go_region_law (first | (refine step_appendSd w14.heap.size (by rfl) (.tmp 214) (.tmp 226) 23 9 (.string ⟨#[]⟩) 1 16 (by rfl) Try.underlying23 info_string rfl (by decide) (by decide) _ zs.length (strs' zs) [.string (y)] (by rfl) (by rfl) rfl (by simp [Value.oneCell']) (by exact HO.out) hsz (by omega) ?_; intro g cap1 w1 hown1 hb1; have HO1 := hid hown1; have HB1 := hid hb1; clear hown1 hb1))
        all_goals
          go_wp2_with fail
          go_roundw
          case rel => exact ⟨zs ++ [y], by simp, by simp; omega, by simp; omega, fun x hx => (List.mem_append.1 hx).elim (fun h => HZZ.out x h) (fun h => by rw [List.mem_singleton.1 h]; exact hbig), by rw [show strs' (zs ++ [y]) = strs' zs ++ [Value.string (y)] by simp [strs'], show (zs ++ [y]).length = zs.length + 1 by simp]; exact HO1.out, HB.out.trans HB1.out⟩
          case measure => simp [intOf]; omega
    · obtain ⟨zo, zc, rfl⟩ := own_val HO.out
      have ft : FitL zs := ⟨hle2, HZZ.out⟩
      obtain ⟨f1, f2⟩ := fit_leaves ft
      obtain ⟨s9, e9, u9, z9, l9⟩ := back_of_list ft
      have hu9 := hid (fun (W : World) => wire_UnLeaves s9 z9 W)
      rw [u9] at hu9
      have R15 := hid (own_at HO.out)
      have hlv := hid (wire_Leaves_ok zo zs zc wr R15.out f1 f2)
      rw [e9] at hlv
      have B15 := hid (Below.then' HB0.out HB.out)
      obtain ⟨l9a, l9b, l9c⟩ := l9
      clear f2 ft e9 u9 z9 HO HB HB0 HL2 HLZ HZZ
      rcases (show ¬ zs.length < ls.length ∨ (zs.length < ls.length ∧ ¬ zs.length < 1024) by omega) with hlI | ⟨hlI, hlJ⟩
      all_goals
        clear hlt
        go_wp2_with fail
        refine hlv.out.mono ?_
        clear hlv
        rintro e w16 ⟨rfl, d16⟩
        unfold strErr
        simp only
        have B16 := hid (Below.then' B15.out d16)
        have R16 := hid (R15.out.below d16)
        clear d16 B15 R15
        go_wp2_with fail
        refine (hu9.out _).mono ?_
        clear hu9
        rintro e w17 ⟨v, rfl, ow, d17⟩
        obtain ⟨yo, ycap, rfl⟩ := own_val ow
        simp only at ow ⊢
        rw [strs'_length] at ow ⊢
        have hsm := hid (law_same zo yo zs zc ycap w17 (by omega) (R16.out.below d17) (own_at ow))
        have B17 := hid (Below.then' B16.out d17)
        clear ow d17 B16 R16
        go_wp2_with (first | (go_at_call 9; refine (hnum.out _ _).mono ?_; rintro e w' ⟨rfl, rfl⟩) | (go_at_call 18; (with_reducible refine Calls.mono hsm.out ?_); rintro e w18 ⟨rfl, d18⟩; have B18 := hid (Below.then' B17.out d18); clear d18 B17) | fail)
        go_ret
        exact ⟨rfl, B18.out⟩

theorem law_WireBack' (k wd a b n : Int) (ao : Option Addr) (xs : List Int) (cap : Nat) (ho : Option Addr) (hs : List ByteArray) (hcap : Nat) (lo hi : Int) (lo' : Option Addr) (ls : List ByteArray) (lcap : Nat) (w : World)
    (hx : RowAt w ao (ints xs)) (_hao : ao = none → xs.length = 0 ∧ cap = 0) (hh : RowAt w ho (strs' hs)) (_hho : ho = none → hs.length = 0 ∧ hcap = 0) (_hcp : hs.length ≤ hcap) (_hb : (-9223372036854775808 ≤ k ∧ k ≤ 9223372036854775807) ∧ (-9223372036854775808 ≤ wd ∧ wd ≤ 9223372036854775807) ∧ (-9223372036854775808 ≤ a ∧ a ≤ 9223372036854775807) ∧ (-9223372036854775808 ≤ b ∧ b ≤ 9223372036854775807) ∧ (-9223372036854775808 ≤ n ∧ n ≤ 9223372036854775807)) (_hw : ∀ x ∈ xs, -9223372036854775808 ≤ x ∧ x ≤ 9223372036854775807) (hz : xs.length * 8 ≤ 140737488351232 ∧ hs.length * 16 ≤ 140737488351232 ∧ ∀ x ∈ hs, x.size ≤ 140737488351232)
    (_b1 : -9223372036854775808 ≤ lo ∧ lo ≤ 9223372036854775807) (_b2 : -9223372036854775808 ≤ hi ∧ hi ≤ 9223372036854775807)
    (hls : RowAt w lo' (strs' ls)) (_hlo : lo' = none → ls.length = 0 ∧ lcap = 0) (hll : ls.length * 16 ≤ 140737488351232) (hlz : ∀ x ∈ ls, x.size ≤ 140737488351232) :
    Calls Try.prog 4 #[.agg #[.int .i64 k, .int .i64 wd, .int .i64 a, .int .i64 b, .int .i64 n, .slice ao xs.length cap, .slice ho hs.length hcap], .int .i64 lo, .int .i64 hi, .slice lo' ls.length lcap] w fun e w' => e = .returned (.bool true) ∧ Below w.heap.size w w' :=
  law_WireBack k wd a b n ao xs cap ho hs hcap lo hi lo' ls lcap w hx hh hls (by omega) (by omega) hz.2.2 (by omega) hlz
end Go.Proofs.Ytocjjiacmedjmaa
