/- Walk of the law WireHashes. -/
import Derived.Test.YtmihgnjifmkaaaaWritten
import Derived.Test.YtmihgnjifmkaaaaArgs2
set_option maxRecDepth 100000
namespace Go.Proofs.Ytmihgnjifmkaaaa
open Go Go.RowKit

theorem hashesR_size (x : Int) (xs : List ByteArray) : (hashesR x xs).1.size ≤ 2000000 := by
  unfold hashesR
  split
  · show (0 : Nat) ≤ _; omega
  · split
    · rename_i h1 h2
      show (⟨(hashesB (widthN x) xs).toArray⟩ : ByteArray).size ≤ _
      rw [str_size]
      have hs : ∀ i (hi : i < xs.length), xs[i].size ≤ 4096 := fun i hi => by have := sized_at h2 i hi; have := widthN_le x; omega
      have h3 := flatS_all xs hs
      have h4 := putVar_len 9 xs.length (by omega)
      unfold hashesB
      simp
      omega
    · show (0 : Nat) ≤ _; omega
theorem unHashes_len (s : ByteArray) : (unHashes s).1.length ≤ 256 := by
  have h1 := rdHashes_len s (unHashesW s).1 (unHashesN s).1 (unHashesN s).2 []
  have h2 : (unHashesN s).1 ≤ 256 := by unfold unHashesN; exact rdNum_le _ _ _ _
  have h3 : (unHashesSt s).1.length ≤ 256 := by unfold unHashesSt; simp at h1; omega
  unfold unHashes
  split
  · exact h3
  · simp
theorem un_open {r : List ByteArray × Nat × Int} {w : World} {e : Ending} {w' : World} (h : UnHs r w e w') : ∃ ao cap, e = .returned (.tuple #[.slice ao r.1.length cap, .int .i64 r.2.1, .int .i64 r.2.2]) ∧
    w'.ownsRow w.heap.size 9 1 (.slice ao r.1.length cap) r.1.length (strs' r.1) ∧ Below w.heap.size w w' := by
  obtain ⟨v, rfl, ho, hb⟩ := h
  rw [strs'_length] at ho
  obtain ⟨ao, cap, rfl⟩ := own_val ho
  exact ⟨ao, cap, rfl, ho, hb⟩
theorem wire_UnHashes' (s : ByteArray) (hs : s.size ≤ 140737488355328) (w : World) : Calls Try.prog 23 #[.string s] w fun e w' => ∃ ao cap, e = .returned (.tuple #[.slice ao (unHashes s).1.length cap, .int .i64 (unHashes s).2.1, .int .i64 (unHashes s).2.2]) ∧
    w'.ownsRow w.heap.size 9 1 (.slice ao (unHashes s).1.length cap) (unHashes s).1.length (strs' (unHashes s).1) ∧ Below w.heap.size w w' := (wire_UnHashes s hs w).mono fun _ _ h => un_open h
theorem ref11_UnHashes' (s : ByteArray) (hs : s.size ≤ 140737488355328) (w : World) : Calls Try.prog 24 #[.string s] w fun e w' => ∃ ao cap, e = .returned (.tuple #[.slice ao (unHashes s).1.length cap, .int .i64 (unHashes s).2.1, .int .i64 (unHashes s).2.2]) ∧
    w'.ownsRow w.heap.size 9 1 (.slice ao (unHashes s).1.length cap) (unHashes s).1.length (strs' (unHashes s).1) ∧ Below w.heap.size w w' := (ref11_UnHashes s hs w).mono fun _ _ h => un_open h

set_option maxHeartbeats 4000000 in
theorem law_WireHashes (x : Int) (ao : Option Addr) (xs : List ByteArray) (cap : Nat) (s : ByteArray) (w : World) (_hb : -9223372036854775808 ≤ x ∧ x ≤ 9223372036854775807) (hx : RowAt w ao (strs' xs)) (hao : ao = none → xs.length = 0 ∧ cap = 0) (hl : xs.length * 16 ≤ 140737488351232) (hxs : ∀ y ∈ xs, y.size ≤ 140737488351232) (hs : s.size ≤ 140737488355328) :
    Calls Try.prog 5 #[.int .i64 x, .slice ao xs.length cap, .string s] w fun e w' => e = .returned (.bool true) ∧ Below w.heap.size w w' := by
  have hlonger := hid (law_longer ao xs cap w hx hao hl)
  have HX := hid hx
  have HXS := hid hxs
  clear hx hxs
  have hwl := hid (fun (ao : Option Addr) (xs : List ByteArray) (cap : Nat) W (hc : xs.length ≤ cap) (h : RowAt W ao (strs' xs)) => wire_Hashes x ao xs cap W hc h)
  have hrl := hid (fun (ao : Option Addr) (xs : List ByteArray) (cap : Nat) W (h : RowAt W ao (strs' xs)) => ref11_Hashes x ao xs cap W h)
  have hnum := hid law_num
  go_enter Try.func5, Try.ntmps5
  go_wp2_with fail
  refine hlonger.out.mono ?_
  rintro e w1 ⟨v, rfl, hown, b1⟩
  obtain ⟨g, cap1, rfl, hbg, hcap, hcap2, hglt, hfz, hcells⟩ := own_form hown (by simp [strs'])
  have hlen : (strs' (xs ++ [behind])).length = xs.length + 1 := by simp [strs']
  rw [hlen] at hcap hown
  have HH1 := hid ((Held'.nil w).push b1 hown)
  have B1 := hid b1
  rw [hlen]
  clear hown hfz hcells b1 hlonger
  go_wp2_with fail
  refine (hwl.out (some ⟨g, 0, none⟩) xs cap1 _ (by omega) (HH1.out.get (i := 0) rfl).rowAt.front).mono ?_
  rintro e w2 ⟨rfl, b2⟩
  have HH2 := hid (HH1.out.below b2); have B2 := hid (Below.then B1.out B1.out.size b2)
  clear b2 HH1 B1
  have hrs := hashesR_size x xs
  obtain ⟨⟨r, c⟩, hr⟩ : ∃ p, p = hashesR x xs := ⟨_, rfl⟩
  rw [← hr] at hrs ⊢
  unfold strErr
  simp only at hrs ⊢
  have HRR := hid hr
  clear hr
  go_wp2_with fail
  refine (hrl.out ao xs cap _ (HX.out.below B2.out)).mono ?_
  rintro e w3 ⟨rfl, b3⟩
  have HH3 := hid (HH2.out.below b3); have B3 := hid (Below.then B2.out B2.out.size b3)
  clear b3 HH2 B2
  rw [← HRR.out]
  unfold strErr
  simp only
  have hkept := hid (law_kept g ao xs cap1 cap w3 (by omega) hcap (HH3.out.get (i := 0) rfl).rowAt (HX.out.below B3.out))
  go_wp2_with (first | (go_at_call 13; refine (hnum.out _ _).mono ?_; rintro e w' ⟨rfl, rfl⟩) | fail)
  refine hkept.out.mono ?_
  rintro e w4 ⟨rfl, b4⟩
  have HH4 := hid (HH3.out.below b4); have B4 := hid (Below.then B3.out B3.out.size b4)
  clear b4 HH3 B3 hkept
  have hun := hid (fun W => wire_UnHashes' s hs W)
  have hun2 := hid (fun W => wire_UnHashes' r (by omega) W)
  have hrun := hid (fun W => ref11_UnHashes' s hs W)
  have hrun2 := hid (fun W => ref11_UnHashes' r (by omega) W)
  have hl1 := unHashes_len s
  have hl2 := unHashes_len r
  obtain ⟨⟨ys, wd, er⟩, hu1⟩ : ∃ p, p = unHashes s := ⟨_, rfl⟩
  obtain ⟨⟨zs, wd2, er2⟩, hu2⟩ : ∃ p, p = unHashes r := ⟨_, rfl⟩
  rw [← hu1] at hun hrun hl1
  rw [← hu2] at hun2 hrun2 hl2
  simp only at hun hrun hl1 hun2 hrun2 hl2
  clear hu1 hu2
  go_wp2_with fail
  refine (hun.out _).mono ?_
  rintro e w5 ⟨a5, c5, rfl, o5, b5⟩
  have HH5 := hid (HH4.out.push b5 o5); have B5 := hid (Below.then B4.out B4.out.size b5)
  have hs4 := B4.out.size
  have hs45 := b5.size
  clear b5 o5 HH4 B4
  go_wp2_with fail
  refine (hun.out _).mono ?_
  rintro e w6 ⟨a6, c6, rfl, o6, b6⟩
  have HH6 := hid (HH5.out.push b6 o6); have B6 := hid (Below.then B5.out B5.out.size b6)
  clear b6 o6 HH5 B5
  go_wp2_with fail
  refine (hun2.out _).mono ?_
  rintro e w7 ⟨a7, c7, rfl, o7, b7⟩
  have HH7 := hid (HH6.out.push b7 o7); have B7 := hid (Below.then B6.out B6.out.size b7)
  have hs6 := B6.out.size
  have hs67 := b7.size
  clear b7 o7 HH6 B6
  go_wp2_with fail
  refine (hun2.out _).mono ?_
  rintro e w8 ⟨a8, c8, rfl, o8, b8⟩
  have HH8 := hid (HH7.out.push b8 o8); have B8 := hid (Below.then B7.out B7.out.size b8)
  clear b8 o8 HH7 B7
  go_wp2_with fail
  refine (hun.out _).mono ?_
  rintro e w9 ⟨a9, c9, rfl, o9, b9⟩
  have HH9 := hid (HH8.out.push b9 o9); have B9 := hid (Below.then B8.out B8.out.size b9)
  clear b9 o9 HH8 B8
  go_wp2_with fail
  refine (hrun.out _).mono ?_
  rintro e w10 ⟨a10, c10, rfl, o10, b10⟩
  have HH10 := hid (HH9.out.push b10 o10); have B10 := hid (Below.then B9.out B9.out.size b10)
  clear b10 o10 HH9 B9
  go_wp2_with fail
  refine (hrun2.out _).mono ?_
  rintro e w11 ⟨a11, c11, rfl, o11, b11⟩
  have HH11 := hid (HH10.out.push b11 o11); have B11 := hid (Below.then B10.out B10.out.size b11)
  clear b11 o11 HH10 B10
  go_wp2_with fail
  refine (law_same a5 a10 ys c5 c10 w11 (by omega) (HH11.out.get (i := 6) rfl).rowAt (HH11.out.get (i := 1) rfl).rowAt).mono ?_
  rintro e w12 ⟨rfl, b12⟩
  have HH12 := hid (HH11.out.below b12); have B12 := hid (Below.then B11.out B11.out.size b12)
  clear b12 HH11 B11
  go_wp2_with (first | (go_at_call 13; refine (hnum.out _ _).mono ?_; rintro e w' ⟨rfl, rfl⟩) | fail)
  refine (law_same a7 a11 zs c7 c11 w12 (by omega) (HH12.out.get (i := 4) rfl).rowAt (HH12.out.get (i := 0) rfl).rowAt).mono ?_
  rintro e w13 ⟨rfl, b13⟩
  have HH13 := hid (HH12.out.below b13); have B13 := hid (Below.then B12.out B12.out.size b13)
  clear b13 HH12 B12
  go_wp2_with fail
  refine (law_mark _ _ _ ys ⟨#[49]⟩ (by omega) w13 (HH13.out.get (i := 6) rfl)).mono ?_
  rintro e w14 ⟨rfl, h14, g14⟩
  have HH14 := hid (HH13.out.write 6 rfl h14 g14); have B14 := hid (B13.out.trans (HH13.out.below_write (i := 6) (B := w.heap.size) rfl g14 (by simpa using hs4) B13.out.size))
  clear h14 g14 HH13 B13
  go_wp2_with fail
  refine (law_mark _ _ _ zs ⟨#[50]⟩ (by omega) w14 (HH14.out.get (i := 4) rfl)).mono ?_
  rintro e w15 ⟨rfl, h15, g15⟩
  have HH15 := hid (HH14.out.write 4 rfl h15 g15); have B15 := hid (B14.out.trans (HH14.out.below_write (i := 4) (B := w.heap.size) rfl g15 (by simpa using hs6) B14.out.size))
  clear h15 g15 HH14 B14
  go_wp2_with fail
  refine (law_grown w4.heap.size w5.heap.size (.slice a5 ys.length c5) ys.length (List.replicate ys.length ⟨#[49]⟩) ⟨#[49]⟩ (by omega) w15 (HH15.out.size4 (i := 6) rfl hs45) (HH15.out.get (i := 6) rfl)).mono ?_
  rintro e w16 ⟨rfl, h16, g16⟩
  have HH16 := hid (HH15.out.write 6 rfl h16 g16); have B16 := hid (B15.out.trans (HH15.out.below_write (i := 6) (B := w.heap.size) rfl g16 (by simpa using hs4) B15.out.size))
  clear h16 g16 HH15 B15
  go_wp2_with fail
  refine (law_grown w6.heap.size w7.heap.size (.slice a7 zs.length c7) zs.length (List.replicate zs.length ⟨#[50]⟩) ⟨#[50]⟩ (by omega) w16 (HH16.out.size4 (i := 4) rfl hs67) (HH16.out.get (i := 4) rfl)).mono ?_
  rintro e w17 ⟨rfl, h17, g17⟩
  have HH17 := hid (HH16.out.write 4 rfl h17 g17); have B17 := hid (B16.out.trans (HH16.out.below_write (i := 4) (B := w.heap.size) rfl g17 (by simpa using hs6) B16.out.size))
  clear h17 g17 HH16 B16
  have hne : (((ys.length : Int) + 301 + ((zs.length : Int) + 301)) != ((ys.length : Int) + zs.length + 602)) = false := by simp; omega
  go_wp2_with fail
  refine (law_same a6 a10 ys c6 c10 w17 (by omega) (HH17.out.get (i := 5) rfl).rowAt (HH17.out.get (i := 1) rfl).rowAt).mono ?_
  rintro e w18 ⟨rfl, b18⟩
  have HH18 := hid (HH17.out.below b18); have B18 := hid (Below.then B17.out B17.out.size b18)
  clear b18 HH17 B17
  go_wp2_with fail
  refine (law_same a9 a10 ys c9 c10 w18 (by omega) (HH18.out.get (i := 2) rfl).rowAt (HH18.out.get (i := 1) rfl).rowAt).mono ?_
  rintro e w19 ⟨rfl, b19⟩
  have HH19 := hid (HH18.out.below b19); have B19 := hid (Below.then B18.out B18.out.size b19)
  clear b19 HH18 B18
  go_wp2_with fail
  refine (law_same a8 a11 zs c8 c11 w19 (by omega) (HH19.out.get (i := 3) rfl).rowAt (HH19.out.get (i := 0) rfl).rowAt).mono ?_
  rintro e w20 ⟨rfl, b20⟩
  have HH20 := hid (HH19.out.below b20); have B20 := hid (Below.then B19.out B19.out.size b20)
  clear b20 HH19 B19
  go_wp2_with fail
  refine (law_full a5 ys.length c5 ⟨#[49]⟩ (by omega) w20 (HH20.out.get (i := 6) rfl).rowAt).mono ?_
  rintro e w' ⟨rfl, rfl⟩
  go_wp2_with fail
  refine (law_full a7 zs.length c7 ⟨#[50]⟩ (by omega) w20 (HH20.out.get (i := 4) rfl).rowAt).mono ?_
  rintro e w' ⟨rfl, rfl⟩
  by_cases h0 : xs.length = 0
  · have h0' : ((xs.length : Int) == 0) = true := by rw [h0]; rfl
    go_wp2_with fail
    go_ret
    exact ⟨rfl, B20.out⟩
  · have h0' : ((xs.length : Int) == 0) = false := beq_eq_false_iff_ne.2 (by omega)
    go_wp2_with fail
    refine (hwl.out (some ⟨g, 0, none⟩) xs cap1 _ (by omega) (HH20.out.get (i := 7) rfl).rowAt.front).mono ?_
    rintro e w21 ⟨rfl, b21⟩
    have HH21 := hid (HH20.out.below b21); have B21 := hid (Below.then B20.out B20.out.size b21)
    clear b21 HH20 B20
    rw [← HRR.out]
    unfold strErr
    simp only
    have hown := (HH21.out.get (i := 7) rfl).own
    have hget : ∀ i (hi : i < xs.length), w21.cell? ⟨g, i, none⟩ = some (.string xs[i]) := fun i hi => by
      rw [hown.cellAt i (by show i < (xs.length + 1) * 1; omega)]
      show (strs' (xs ++ [behind]))[i]? = _
      simp [strs', List.getElem?_append_left, hi]
    have hcl := hget (xs.length - 1) (by omega)
    have hc0 := hget 0 (by omega)
    have hf0 := hown.frozenAt 0
    have hst := hown.stored 0
    have HST := hid hst
    have hxl := HXS.out xs[xs.length - 1] (List.getElem_mem _)
    obtain ⟨y0, hy0⟩ : ∃ y, y = xs[0]'(by omega) := ⟨_, rfl⟩
    obtain ⟨yl, hyl⟩ : ∃ y, y = xs[xs.length - 1]'(by omega) := ⟨_, rfl⟩
    rw [← hy0] at hc0
    rw [← hyl] at hcl hxl
    clear hget hown hst hy0 hyl
    have hcat : yl.size + (⟨#[120]⟩ : ByteArray).size ≤ 9223372036854775807 := by show yl.size + 1 ≤ _; omega
    have htl : ((xs.length : Int) - 1).toNat = xs.length - 1 := by omega
    go_wp2_with fail
    have hother : ∃ us : List ByteArray, us.length = xs.length ∧ RowAt (w21.setCell ⟨g, 0, none⟩ (.string (yl ++ ⟨#[120]⟩))) (some ⟨g, 0, none⟩) (strs' us) := by
      refine ⟨xs.set 0 (yl ++ ⟨#[120]⟩), by simp, ?_⟩
      have h1 := (HST.out (.string (yl ++ ⟨#[120]⟩))).1
      have h2 : (strs' (xs ++ [behind])).set 0 (.string (yl ++ ⟨#[120]⟩)) = strs' (xs.set 0 (yl ++ ⟨#[120]⟩) ++ [behind]) := by
        rw [strs'_set, List.set_append_left _ _ (by omega)]
      rw [h2] at h1
      exact (Held.new h1).rowAt.front
    obtain ⟨us, hul, hus⟩ := hother
    rw [← hul]
    have HUS := hid hus
    have hby : Below w.heap.size w (w21.setCell ⟨g, 0, none⟩ (.string (yl ++ ⟨#[120]⟩))) := B21.out.setCell hbg _
    have HBY := hid hby
    clear hus hby HST hcl hc0 hf0
    refine (hwl.out (some ⟨g, 0, none⟩) us cap1 _ (by omega) HUS.out).mono ?_
    rintro e w22 ⟨rfl, b22⟩
    have HU22 := hid (HUS.out.below b22); have B22 := hid (Below.then HBY.out HBY.out.size b22)
    clear b22 HUS HBY B21
    obtain ⟨⟨r2, c2⟩, hr2⟩ : ∃ p, p = hashesR x us := ⟨_, rfl⟩
    rw [← hr2]
    unfold strErr
    simp only
    have HR2 := hid hr2
    clear hr2
    go_wp2_with fail
    rw [← hul]
    refine (hrl.out (some ⟨g, 0, none⟩) us cap1 _ HU22.out).mono ?_
    rintro e w23 ⟨rfl, b23⟩
    have B23 := hid (Below.then B22.out B22.out.size b23)
    clear b23 HU22 B22
    rw [← HR2.out]
    unfold strErr
    simp only
    go_wp2_with (first | (go_at_call 13; refine (hnum.out _ _).mono ?_; rintro e w' ⟨rfl, rfl⟩) | fail)
    go_ret
    exact ⟨rfl, B23.out⟩
end Go.Proofs.Ytmihgnjifmkaaaa
