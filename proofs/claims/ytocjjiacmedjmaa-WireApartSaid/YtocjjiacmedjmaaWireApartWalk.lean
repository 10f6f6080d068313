/- Walk of the law WireApart (printed by wip/mkapart.py). -/
import Derived.Test.YtocjjiacmedjmaaFit
import Derived.Test.YtocjjiacmedjmaaApartK
set_option maxRecDepth 100000
namespace Go.Proofs.Ytocjjiacmedjmaa
open Go Go.RowKit

theorem law_fitted' (k wd a b n : Int) (ao : Option Addr) (xs : List Int) (cap : Nat) (ho : Option Addr) (hs : List ByteArray) (hcap : Nat) (w : World)
    (hx : RowAt w ao (ints xs)) (hh : RowAt w ho (strs' hs)) (hlx : xs.length ≤ 4611686018427387904) (hlh : hs.length ≤ 4611686018427387904) (hsz : ∀ x ∈ hs, x.size ≤ 140737488351232) :
    Calls Try.prog 6 #[.agg #[.int .i64 k, .int .i64 wd, .int .i64 a, .int .i64 b, .int .i64 n, .slice ao xs.length cap, .slice ho hs.length hcap]] w fun e w' => ∃ (k wd a b n : Int) (ao : Option Addr) (xs : List Int) (cap : Nat) (ho : Option Addr) (hs : List ByteArray) (hcap : Nat), e = .returned (.tuple #[.agg #[.int .i64 k, .int .i64 wd, .int .i64 a, .int .i64 b, .int .i64 n, .slice ao xs.length cap, .slice ho hs.length hcap], .bool true]) ∧ Fit k wd a b n xs hs ∧
    w'.ownsRow w.heap.size 3 1 (.slice ao xs.length cap) xs.length (ints xs) ∧ w'.ownsRow w.heap.size 9 1 (.slice ho hs.length hcap) hs.length (strs' hs) ∧ xs.length ≤ 1024 ∧ hs.length ≤ 65536 ∧ Below w.heap.size w w' := law_fitted k wd a b n ao xs cap ho hs hcap w hx hh hlx hlh hsz

set_option maxHeartbeats 4000000 in
theorem law_WireApart (k wd a b n : Int) (ao : Option Addr) (xs : List Int) (cap : Nat) (ho : Option Addr) (hs : List ByteArray) (hcap : Nat) (k2 wd2 a2 b2 n2 : Int) (ao2 : Option Addr) (xs2 : List Int) (cap2 : Nat) (ho2 : Option Addr) (hs2 : List ByteArray) (hcap2 : Nat) (lo : Option Addr) (ls : List ByteArray) (lcap : Nat) (w : World)
    (hx : RowAt w ao (ints xs)) (hh : RowAt w ho (strs' hs)) (hx2 : RowAt w ao2 (ints xs2)) (hh2 : RowAt w ho2 (strs' hs2)) (hls : RowAt w lo (strs' ls)) (hlc : ls.length ≤ lcap)
    (hlx : xs.length ≤ 4611686018427387904) (hlh : hs.length ≤ 4611686018427387904) (hsz : ∀ x ∈ hs, x.size ≤ 140737488351232) (hlx2 : xs2.length ≤ 4611686018427387904) (hlh2 : hs2.length ≤ 4611686018427387904) (hsz2 : ∀ x ∈ hs2, x.size ≤ 140737488351232) (hll : ls.length ≤ 4611686018427387904) (hlz : ∀ x ∈ ls, x.size ≤ 140737488351232) :
    Calls Try.prog 3 #[.agg #[.int .i64 k, .int .i64 wd, .int .i64 a, .int .i64 b, .int .i64 n, .slice ao xs.length cap, .slice ho hs.length hcap], .agg #[.int .i64 k2, .int .i64 wd2, .int .i64 a2, .int .i64 b2, .int .i64 n2, .slice ao2 xs2.length cap2, .slice ho2 hs2.length hcap2], .slice lo ls.length lcap] w fun e w' => e = .returned (.bool true) ∧ Below w.heap.size w w' := by
  have HLZ := hid hlz
  have HLS := hid hls
  have HX2 := hid hx2
  have HH2 := hid hh2
  have HSZ2 := hid hsz2
  obtain ⟨W0, hW⟩ : ∃ W, (w.alloc (.cells #[.int .i64 k, .int .i64 wd, .int .i64 a, .int .i64 b, .int .i64 n, .slice ao xs.length cap, .slice ho hs.length hcap] 25)).alloc (.cells #[.int .i64 k2, .int .i64 wd2, .int .i64 a2, .int .i64 b2, .int .i64 n2, .slice ao2 xs2.length cap2, .slice ho2 hs2.length hcap2] 25) = W := ⟨_, rfl⟩
  have O0 := hid (show Owns w W0 [boxR (w.heap.size + 1) 25 [.int .i64 k2, .int .i64 wd2, .int .i64 a2, .int .i64 b2, .int .i64 n2, .slice ao2 xs2.length cap2, .slice ho2 hs2.length hcap2], boxR w.heap.size 25 [.int .i64 k, .int .i64 wd, .int .i64 a, .int .i64 b, .int .i64 n, .slice ao xs.length cap, .slice ho hs.length hcap]] from by
    have h := ((Owns.nil w).box 25 (.int .i64 k) (.int .i64 wd) (.int .i64 a) (.int .i64 b) (.int .i64 n) (.slice ao xs.length cap) (.slice ho hs.length hcap)).box 25 (.int .i64 k2) (.int .i64 wd2) (.int .i64 a2) (.int .i64 b2) (.int .i64 n2) (.slice ao2 xs2.length cap2) (.slice ho2 hs2.length hcap2)
    rw [hW] at h
    simpa using h)
  have HW := hid hW
  have hfit := law_fitted' k wd a b n ao xs cap ho hs hcap W0 (hx.below O0.out.bel) (hh.below O0.out.bel) hlx hlh hsz
  clear hlz hls hx2 hh2 hsz2 hx hh hsz hW
  go_enter Try.func3, Try.ntmps3
  go_wp2_with fail
  rw [HW.out]
  refine hfit.mono ?_
  clear hfit HW
  rintro e w1 ⟨k3, wd3, a3, b3, n3, ao3, xs3, cap3, ho3, hs3, hcap3, rfl, fit3, ox, oz, hxl3, hhl3, b1⟩
  obtain ⟨W1, hW, hO⟩ := O0.out.proofI (k := k3) (wd := wd3) (a := a3) (b := b3) (n := n3) ox oz b1
  have O1 := hid hO
  have HW := hid hW
  have HF3 := hid fit3
  clear ox oz b1 hW hO O0 fit3
  obtain ⟨q0, q1, q2, q3, q4, q5, q6⟩ := O1.out.seven 3 rfl
  rw [← HW.out] at q0 q1 q2 q3 q4 q5 q6
  have hfit := law_fitted' k2 wd2 a2 b2 n2 ao2 xs2 cap2 ho2 hs2 hcap2 W1 (HX2.out.below O1.out.bel) (HH2.out.below O1.out.bel) hlx2 hlh2 HSZ2.out
  go_wp2_with fail
  rw [HW.out]
  refine hfit.mono ?_
  clear hfit HW q0 q1 q2 q3 q4 q5 q6
  rintro e w2 ⟨k4, wd4, a4, b4, n4, ao4, xs4, cap4, ho4, hs4, hcap4, rfl, fit4, ox, oz, hxl4, hhl4, b2⟩
  obtain ⟨W2, hW, hO⟩ := O1.out.proofI (k := k4) (wd := wd4) (a := a4) (b := b4) (n := n4) ox oz b2
  have O2 := hid hO
  have HW := hid hW
  have HF4 := hid fit4
  clear ox oz b2 hW hO O1 fit4
  have HL2 := hid (HLS.out.below O2.out.bel)
  obtain ⟨one, hal, hbg1, hbg2⟩ := alike_any k3 wd3 a3 b3 n3 k4 wd4 a4 b4 n4 xs3 xs4 hs3 hs4 ao3 ao4 ho3 ho4 cap3 cap4 hcap3 hcap4 (by omega) (by omega) (by omega) (by omega) HF3.out HF4.out
  have HAL := hid hal
  have hp3 := hid (fun (W : World) h1 h2 h3 => wire_Proof k3 wd3 a3 b3 n3 ao3 xs3 cap3 ho3 hs3 hcap3 W h1 h2 (by omega) (by omega) h3)
  have hp4 := hid (fun (W : World) h1 h2 h3 => wire_Proof k4 wd4 a4 b4 n4 ao4 xs4 cap4 ho4 hs4 hcap4 W h1 h2 (by omega) (by omega) h3)
  rw [fit_proofR HF3.out] at hp3
  rw [fit_proofR HF4.out] at hp4
  obtain ⟨r3, hr3⟩ := proof_lead k3 wd3 a3 b3 n3 xs3 hs3
  obtain ⟨r4, hr4⟩ := proof_lead k4 wd4 a4 b4 n4 xs4 hs4
  rw [hr3] at hp3 hbg1 hbg2
  rw [hr4] at hp4 hbg1 hbg2
  have HB1 := hid hbg1
  have HB2 := hid hbg2
  clear hal hbg1 hbg2 hr3 hr4
  go_upto_if 38 with fail
  rw [HW.out]
  clear HW
  go_cut [2] (fun v wc => ∃ (ms : List ByteArray) (mcap : Nat), v = .slice lo ms.length mcap ∧ ms.length ≤ 1024 ∧ RowAt wc lo (strs' ms) ∧ (∀ x ∈ ms, x.size ≤ 140737488351232) ∧ W2 = wc)
  case first =>
    by_cases hbig : 1024 < ls.length
    · have hbI : (1024 : Int) < (ls.length : Int) := by omega
      have hcI : (1024 : Int) ≤ (lcap : Int) := by omega
      have hcN : 1024 ≤ lcap := by omega
      go_wp2_with fail
      go_meet
      case rel => exact ⟨ls.take 1024, lcap, by rw [List.length_take, Nat.min_eq_left (by omega)], by rw [List.length_take]; omega, row_take HL2.out 1024, fun x hx => HLZ.out x (List.mem_of_mem_take hx), rfl⟩
    · have hbI : ¬ (1024 : Int) < (ls.length : Int) := by omega
      go_wp2_with fail
      go_meet
      case rel => exact ⟨ls, lcap, rfl, by omega, HL2.out, HLZ.out, rfl⟩
  case rest =>
  obtain ⟨ms, mcap, rfl, hml, hmr, hmz, rfl⟩ := hcut
  have HMR := hid hmr
  have HMZ := hid hmz
  clear hmr hmz HL2 hlc
  go_wp2_with fail
  go_loopw [11, 12] (fun v' i' wr => ∃ zs : List ByteArray, i' = .int .i64 zs.length ∧ zs.length ≤ ms.length ∧ (∀ x ∈ zs, x.size ≤ 4096) ∧ wr.ownsRow W2.heap.size 9 1 v' zs.length (strs' zs) ∧ Below W2.heap.size W2 wr) (fun _ i' _ => (ms.length - intOf i').toNat)
  case atStart => exact ⟨[], rfl, by simp, by intro x hx; simp at hx, World.ownsRow_nil _ _ _ _, Below.refl _ _⟩
  case round =>
    obtain ⟨zs, rfl, hle, hzz, hown, hbw⟩ := hrel
    have HZZ := hid hzz
    have HO := hid hown
    have HB := hid hbw
    clear hzz hown hbw
    by_cases hlt : zs.length < ms.length
    · obtain ⟨bb, off, hlo, hc⟩ := (HMR.out.below HB.out).str hlt
      subst hlo
      have hcell := hc zs.length hlt
      have hysz := HMZ.out ms[zs.length] (List.getElem_mem hlt)
      obtain ⟨y, hy⟩ : ∃ y, y = ms[zs.length] := ⟨_, rfl⟩
      rw [← hy] at hcell hysz
      have hsz : W2.heap.size ≤ wr.heap.size := HB.out.size
      clear hc hy
      rcases (show 4096 < y.size ∨ y.size ≤ 4096 by omega) with hbig | hbig
      · have hbI : (4096 : Int) < (y.size : Int) := by omega
        have hmin : min (y.size : Int) 4096 = 4096 := by omega
        have hmin2 : (4096 : Int) ≤ (y.size : Int) := by omega
        have hmin3 : 4096 ≤ y.size := by omega
        go_wp2_with fail
        go_region_law (first | (refine step_appendSd W2.heap.size (by rfl) (.tmp 47) (.tmp 59) 23 9 (.string ⟨#[]⟩) 1 16 (by rfl) Try.underlying23 info_string rfl (by decide) (by decide) _ zs.length (strs' zs) [.string (y.extract 0 4096)] (by rfl) (by rfl) rfl (by simp [Value.oneCell']) (by exact HO.out) hsz (by omega) ?_; intro g cap1 w1 hown1 hb1; have HO1 := hid hown1; have HB1 := hid hb1; clear hown1 hb1))
        all_goals
          go_wp2_with fail
          go_roundw
          case rel => exact ⟨zs ++ [y.extract 0 4096], by simp, by simp; omega, fun x hx => (List.mem_append.1 hx).elim (fun h => HZZ.out x h) (fun h => by rw [List.mem_singleton.1 h, ByteArray.size_extract]; omega), by rw [show strs' (zs ++ [y.extract 0 4096]) = strs' zs ++ [Value.string (y.extract 0 4096)] by simp [strs'], show (zs ++ [y.extract 0 4096]).length = zs.length + 1 by simp]; exact HO1.out, HB.out.trans HB1.out⟩
          case measure => simp [intOf]; omega
      · have hbI : ¬ (4096 : Int) < (y.size : Int) := by omega
        have hmin : min (y.size : Int) 4096 = (y.size : Int) := by omega
        go_wp2_with fail
        go_region_law (first | (refine step_appendSd W2.heap.size (by rfl) (.tmp 47) (.tmp 59) 23 9 (.string ⟨#[]⟩) 1 16 (by rfl) Try.underlying23 info_string rfl (by decide) (by decide) _ zs.length (strs' zs) [.string (y)] (by rfl) (by rfl) rfl (by simp [Value.oneCell']) (by exact HO.out) hsz (by omega) ?_; intro g cap1 w1 hown1 hb1; have HO1 := hid hown1; have HB1 := hid hb1; clear hown1 hb1))
        all_goals
          go_wp2_with fail
          go_roundw
          case rel => exact ⟨zs ++ [y], by simp, by simp; omega, fun x hx => (List.mem_append.1 hx).elim (fun h => HZZ.out x h) (fun h => by rw [List.mem_singleton.1 h]; exact hbig), by rw [show strs' (zs ++ [y]) = strs' zs ++ [Value.string (y)] by simp [strs'], show (zs ++ [y]).length = zs.length + 1 by simp]; exact HO1.out, HB.out.trans HB1.out⟩
          case measure => simp [intOf]; omega
    · obtain hv := own_val HO.out
      obtain ⟨zo, zc, rfl⟩ := hv
      have hlI : ¬ (zs.length : Int) < (ms.length : Int) := by omega
      have O3 := hid (O2.out.push HB.out HO.out)
      obtain ⟨q0, q1, q2, q3, q4, q5, q6⟩ := O3.out.seven 4 rfl
      have hbl : bigLeaf zs = false := big_of zs HZZ.out
      have HLV := hid (fun (W : World) h => wire_Leaves_ok zo zs zc W h (by omega) hbl)
      rw [show leavesB zs = 76 :: (putVar zs.length ++ zs.flatMap leafB) from rfl] at HLV
      generalize putVar zs.length ++ zs.flatMap leafB = r5 at *
      have e35 := begins_lead (x := 80) (y := 76) (l := r3) (m := r5) (by decide)
      have e53 := begins_lead (x := 76) (y := 80) (l := r5) (m := r3) (by decide)
      have HA := hid (law_begins ⟨(80 :: r3).toArray⟩ ⟨(80 :: r4).toArray⟩)
      have HC := hid (law_begins ⟨(80 :: r4).toArray⟩ ⟨(80 :: r3).toArray⟩)
      have HD := hid (law_begins ⟨(80 :: r3).toArray⟩ ⟨(76 :: r5).toArray⟩)
      have HE := hid (law_begins ⟨(76 :: r5).toArray⟩ ⟨(80 :: r3).toArray⟩)
      rw [HB1.out] at HA
      rw [HB2.out] at HC
      rw [e35] at HD
      rw [e53] at HE
      have l3 := lead_ne (x := 80) (l := r3)
      have m3 := lead_not (x := 80) (l := r3)
      have l4 := lead_ne (x := 80) (l := r4)
      have m4 := lead_not (x := 80) (l := r4)
      have l5 := lead_ne (x := 76) (l := r5)
      have m5 := lead_not (x := 76) (l := r5)
      generalize (⟨(80 :: r3).toArray⟩ : ByteArray) = s3 at *
      generalize (⟨(80 :: r4).toArray⟩ : ByteArray) = s4 at *
      generalize (⟨(76 :: r5).toArray⟩ : ByteArray) = s5 at *
      clear e35 e53 HB1 HB2 hbl HLZ HMR HMZ HZZ HX2 HH2 HLS HSZ2 HF3 HF4 HB
      have hnum := hid law_num
      go_wp2_with fail
      have h3 := hp3.out _ (own_at (O3.out.getR 6 rfl)) (own_at (O3.out.getR 5 rfl)) (own_cap (O3.out.getR 5 rfl))
      unfold proofV at h3
      refine h3.mono ?_
      clear h3 q0 q1 q2 q3 q4 q5 q6
      rintro e w4 ⟨rfl, b4⟩
      unfold strErr
      simp only
      have O4 := hid (O3.out.below b4)
      clear b4 O3
      obtain ⟨q0, q1, q2, q3, q4, q5, q6⟩ := O4.out.seven 1 rfl
      go_wp2_with fail
      have h3 := hp4.out _ (own_at (O4.out.getR 3 rfl)) (own_at (O4.out.getR 2 rfl)) (own_cap (O4.out.getR 2 rfl))
      unfold proofV at h3
      refine h3.mono ?_
      clear h3 q0 q1 q2 q3 q4 q5 q6
      rintro e w5 ⟨rfl, b5⟩
      unfold strErr
      simp only
      have O5 := hid (O4.out.below b5)
      clear b5 O4
      go_wp2_with fail
      refine (HLV.out _ (own_at (O5.out.getR 0 rfl))).mono ?_
      rintro e w6 ⟨rfl, b6⟩
      unfold strErr
      simp only
      have O6 := hid (O5.out.below b6)
      clear b6 O5
      obtain ⟨q0, q1, q2, q3, q4, q5, q6⟩ := O6.out.seven 4 rfl
      obtain ⟨p0, p1, p2, p3, p4, p5, p6⟩ := O6.out.seven 1 rfl
      have hal := hid (show Calls Try.prog 10 #[.agg #[.int .i64 k3, .int .i64 wd3, .int .i64 a3, .int .i64 b3, .int .i64 n3, .slice ao3 xs3.length cap3, .slice ho3 hs3.length hcap3], .agg #[.int .i64 k4, .int .i64 wd4, .int .i64 a4, .int .i64 b4, .int .i64 n4, .slice ao4 xs4.length cap4, .slice ho4 hs4.length hcap4]] w6 fun e w' => e = .returned (.bool one) ∧ Below w6.heap.size w6 w' from HAL.out w6 (own_at (O6.out.getR 6 rfl)) (own_at (O6.out.getR 3 rfl)) (own_at (O6.out.getR 5 rfl)) (own_at (O6.out.getR 2 rfl)))
      go_wp2_with (first
        | (go_at_call 9; refine (hnum.out _ _).mono ?_; rintro e w' ⟨rfl, rfl⟩)
        | (go_at_call 10; refine hal.out.mono ?_; rintro e w7 ⟨rfl, b7⟩; have O7 := hid (O6.out.below b7); clear b7 p0 p1 p2 p3 p4 p5 p6 q0 q1 q2 q3 q4 q5 q6)
        | (go_at_call 11; (with_reducible refine Calls.mono (HA.out _) ?_); rintro e w' ⟨rfl, rfl⟩)
        | (go_at_call 11; (with_reducible refine Calls.mono (HC.out _) ?_); rintro e w' ⟨rfl, rfl⟩)
        | (go_at_call 11; (with_reducible refine Calls.mono (HD.out _) ?_); rintro e w' ⟨rfl, rfl⟩)
        | (go_at_call 11; (with_reducible refine Calls.mono (HE.out _) ?_); rintro e w' ⟨rfl, rfl⟩)
        | fail)
      go_ret
      exact ⟨rfl, O7.out.bel⟩

theorem law_WireApart' (k wd a b n : Int) (ao : Option Addr) (xs : List Int) (cap : Nat) (ho : Option Addr) (hs : List ByteArray) (hcap : Nat) (k2 wd2 a2 b2 n2 : Int) (ao2 : Option Addr) (xs2 : List Int) (cap2 : Nat) (ho2 : Option Addr) (hs2 : List ByteArray) (hcap2 : Nat) (lo : Option Addr) (ls : List ByteArray) (lcap : Nat) (w : World)
    (hx : RowAt w ao (ints xs)) (_hao : ao = none → xs.length = 0 ∧ cap = 0) (hh : RowAt w ho (strs' hs)) (_hho : ho = none → hs.length = 0 ∧ hcap = 0) (_hcp : hs.length ≤ hcap) (_hb : (-9223372036854775808 ≤ k ∧ k ≤ 9223372036854775807) ∧ (-9223372036854775808 ≤ wd ∧ wd ≤ 9223372036854775807) ∧ (-9223372036854775808 ≤ a ∧ a ≤ 9223372036854775807) ∧ (-9223372036854775808 ≤ b ∧ b ≤ 9223372036854775807) ∧ (-9223372036854775808 ≤ n ∧ n ≤ 9223372036854775807)) (_hw : ∀ x ∈ xs, -9223372036854775808 ≤ x ∧ x ≤ 9223372036854775807) (hz : xs.length * 8 ≤ 140737488351232 ∧ hs.length * 16 ≤ 140737488351232 ∧ ∀ x ∈ hs, x.size ≤ 140737488351232)
    (hx2 : RowAt w ao2 (ints xs2)) (_hao2 : ao2 = none → xs2.length = 0 ∧ cap2 = 0) (hh2 : RowAt w ho2 (strs' hs2)) (_hho2 : ho2 = none → hs2.length = 0 ∧ hcap2 = 0) (_hcp2 : hs2.length ≤ hcap2) (_hb2 : (-9223372036854775808 ≤ k2 ∧ k2 ≤ 9223372036854775807) ∧ (-9223372036854775808 ≤ wd2 ∧ wd2 ≤ 9223372036854775807) ∧ (-9223372036854775808 ≤ a2 ∧ a2 ≤ 9223372036854775807) ∧ (-9223372036854775808 ≤ b2 ∧ b2 ≤ 9223372036854775807) ∧ (-9223372036854775808 ≤ n2 ∧ n2 ≤ 9223372036854775807)) (_hw2 : ∀ x ∈ xs2, -9223372036854775808 ≤ x ∧ x ≤ 9223372036854775807) (hz2 : xs2.length * 8 ≤ 140737488351232 ∧ hs2.length * 16 ≤ 140737488351232 ∧ ∀ x ∈ hs2, x.size ≤ 140737488351232)
    (hls : RowAt w lo (strs' ls)) (_hlo : lo = none → ls.length = 0 ∧ lcap = 0) (hlc : ls.length ≤ lcap) (hll : ls.length * 16 ≤ 140737488351232) (hlz : ∀ x ∈ ls, x.size ≤ 140737488351232) :
    Calls Try.prog 3 #[.agg #[.int .i64 k, .int .i64 wd, .int .i64 a, .int .i64 b, .int .i64 n, .slice ao xs.length cap, .slice ho hs.length hcap], .agg #[.int .i64 k2, .int .i64 wd2, .int .i64 a2, .int .i64 b2, .int .i64 n2, .slice ao2 xs2.length cap2, .slice ho2 hs2.length hcap2], .slice lo ls.length lcap] w fun e w' => e = .returned (.bool true) ∧ Below w.heap.size w w' :=
  law_WireApart k wd a b n ao xs cap ho hs hcap k2 wd2 a2 b2 n2 ao2 xs2 cap2 ho2 hs2 hcap2 lo ls lcap w hx hh hx2 hh2 hls hlc (by omega) (by omega) hz.2.2 (by omega) (by omega) hz2.2.2 (by omega) hlz
end Go.Proofs.Ytocjjiacmedjmaa

