/- Walk of the law WireFrontier (printed by wip/mkwfront.py). -/
import Derived.Test.YtpdjiflbidjcbaaWritten
import Derived.Test.YtpdjiflbidjcbaaRefFrontier
import Derived.Test.YtpdjiflbidjcbaaRefUnFr
set_option maxRecDepth 100000
namespace Go.Proofs.Ytpdjiflbidjcbaa
open Go Go.RowKit

theorem frontR_size (x lo hi : Int) (xs : List ByteArray) : (frontR x lo hi xs).1.size ≤ 2000000 := by
  unfold frontR
  split
  · show (0 : Nat) ≤ _; omega
  · rename_i hb
    unfold frontBad at hb
    split
    · show (0 : Nat) ≤ _; omega
    · rename_i hl
      simp only [ne_eq, Decidable.not_not] at hl
      split
      · rename_i h2
        show (⟨(frontB (widthN x) lo.toNat hi.toNat xs).toArray⟩ : ByteArray).size ≤ _
        rw [str_size]
        have hs : ∀ i (hi : i < xs.length), xs[i].size ≤ 4096 := fun i hi => by have := sized_at h2 i hi; have := widthN_le x; omega
        have h3 := flatS_all xs hs
        have h4 := putVar_len 9 lo.toNat (by omega)
        have h5 := putVar_len 9 hi.toNat (by omega)
        have h6 := cover_len lo.toNat hi.toNat (by omega)
        unfold frontB
        simp
        omega
      · show (0 : Nat) ≤ _; omega
theorem unFr_len (s : ByteArray) : (unFrontier s).1.hs.length ≤ 126 := by
  have h1 := rdHashes_len s (ufW s).1 (coverN (ufLo s).1 (ufHi s).1).length (ufSt s) []
  have h2 : (ufHi s).1 ≤ 4611686018427387904 := rdNum_le s 4611686018427387904 10 (ufLo s).2
  have h4 := cover_len (ufLo s).1 (ufHi s).1 h2
  have h3 : (ufHs s).1.length ≤ 126 := by unfold ufHs; simp at h1; omega
  unfold unFrontier
  split
  · simp [noFr]
  · split
    · exact h3
    · simp [noFr]
theorem unFr_open {r : FrP × Nat × Int} {w : World} {e : Ending} {w' : World} (h : UnFr r w e w') : ∃ ao cap, e = .returned (.tuple #[.agg #[.int .i64 r.1.lo, .int .i64 r.1.hi, .slice ao r.1.hs.length cap], .int .i64 r.2.1, .int .i64 r.2.2]) ∧
    w'.ownsRow w.heap.size 9 1 (.slice ao r.1.hs.length cap) r.1.hs.length (strs' r.1.hs) ∧ Below w.heap.size w w' := by
  obtain ⟨v, rfl, ho, hb⟩ := h
  obtain ⟨ao, cap, rfl⟩ := own_val ho
  exact ⟨ao, cap, rfl, ho, hb⟩
theorem wire_UnFrontier' (s : ByteArray) (hs : s.size ≤ 140737488355328) (w : World) : Calls Try.prog 9 #[.string s] w fun e w' => ∃ ao cap, e = .returned (.tuple #[.agg #[.int .i64 (unFrontier s).1.lo, .int .i64 (unFrontier s).1.hi, .slice ao (unFrontier s).1.hs.length cap], .int .i64 (unFrontier s).2.1, .int .i64 (unFrontier s).2.2]) ∧
    w'.ownsRow w.heap.size 9 1 (.slice ao (unFrontier s).1.hs.length cap) (unFrontier s).1.hs.length (strs' (unFrontier s).1.hs) ∧ Below w.heap.size w w' := (wire_UnFrontier s hs w).mono fun _ _ h => unFr_open h
theorem ref11_UnFrontier' (s : ByteArray) (hs : s.size ≤ 140737488355328) (w : World) : Calls Try.prog 10 #[.string s] w fun e w' => ∃ ao cap, e = .returned (.tuple #[.agg #[.int .i64 (unFrontier s).1.lo, .int .i64 (unFrontier s).1.hi, .slice ao (unFrontier s).1.hs.length cap], .int .i64 (unFrontier s).2.1, .int .i64 (unFrontier s).2.2]) ∧
    w'.ownsRow w.heap.size 9 1 (.slice ao (unFrontier s).1.hs.length cap) (unFrontier s).1.hs.length (strs' (unFrontier s).1.hs) ∧ Below w.heap.size w w' := (ref11_UnFrontier s hs w).mono fun _ _ h => unFr_open h
/-- A struct's box as a row of one. -/
theorem box_own (W : World) (T : TypeId) (x y z : Value) : (W.alloc (.cells #[x, y, z] T)).ownsRow W.heap.size T 3 (.slice (some ⟨W.heap.size, 0, none⟩) 1 1) 1 [x, y, z] :=
  ⟨rfl, .inr ⟨W.heap.size, 1, #[x, y, z], rfl, Nat.le_refl _, World.alloc_heap_new W _, Nat.le_refl _, by unfold maxLen; omega, rfl, rfl⟩⟩
theorem box_cells {w : World} {lo hi : Nat} {T : TypeId} {B : Nat} {x y z : Value} (h : Held w lo hi T 3 (.slice (some ⟨B, 0, none⟩) 1 1) 1 [x, y, z]) : w.cell? ⟨B, 0, none⟩ = some x ∧ w.cell? ⟨B, 1, none⟩ = some y ∧ w.cell? ⟨B, 2, none⟩ = some z := by
  rcases h.rowAt with h | ⟨b, off, e, hc⟩
  · cases h
  · cases e
    exact ⟨hc 0 (by simp), hc 1 (by simp), hc 2 (by simp)⟩
theorem Held'.box {w : World} {l : List Rowd} (h : Held' w l) (T : TypeId) (x y z : Value) : Held' (w.alloc (.cells #[x, y, z] T)) (⟨w.heap.size, (w.alloc (.cells #[x, y, z] T)).heap.size, T, 3, .slice (some ⟨w.heap.size, 0, none⟩) 1 1, 1, [x, y, z]⟩ :: l) :=
  h.push ((Below.refl _ _).alloc (Nat.le_refl _) _) (box_own w T x y z)
set_option maxHeartbeats 8000000 in
theorem law_WireFrontier (x : Int) (lo hi : Int) (ao : Option Addr) (xs : List ByteArray) (cap : Nat) (s : ByteArray) (w : World) (_hb : -9223372036854775808 ≤ x ∧ x ≤ 9223372036854775807) (hx : RowAt w ao (strs' xs)) (hao : ao = none → xs.length = 0 ∧ cap = 0) (_hcp : xs.length ≤ cap) (_hbl : -9223372036854775808 ≤ lo ∧ lo ≤ 9223372036854775807) (_hbh : -9223372036854775808 ≤ hi ∧ hi ≤ 9223372036854775807) (hl : xs.length * 16 ≤ 140737488351232) (hxs : ∀ y ∈ xs, y.size ≤ 140737488351232) (hs : s.size ≤ 140737488355328) :
    Calls Try.prog 3 #[.int .i64 x, .agg #[.int .i64 lo, .int .i64 hi, .slice ao xs.length cap], .string s] w fun e w' => e = .returned (.bool true) ∧ Below w.heap.size w w' := by
  have hlonger := hid (fun (W : World) (hW : Below w.heap.size w W) => law_longer ao xs cap W (hx.below hW) hao hl)
  have HX := hid hx
  have HXS := hid hxs
  clear hx hxs
  have hwl := hid (fun (ao : Option Addr) (xs : List ByteArray) (cap : Nat) W (hc : xs.length ≤ cap) (hl : xs.length ≤ 4611686018427387904) (h : RowAt W ao (strs' xs)) => wire_Frontier x lo hi ao xs cap W hc hl h)
  have hrl := hid (fun (ao : Option Addr) (xs : List ByteArray) (cap : Nat) W (hl : xs.length ≤ 4611686018427387904) (h : RowAt W ao (strs' xs)) => ref11_Frontier x lo hi ao xs cap W hl h)
  have hnum := hid law_num
  have HH0 := hid ((Held'.nil w).box 24 (.int .i64 lo) (.int .i64 hi) (.slice ao xs.length cap))
  have B0 := hid ((Below.refl w.heap.size w).alloc (Nat.le_refl _) (.cells #[.int .i64 lo, .int .i64 hi, .slice ao xs.length cap] 24))
  go_enter Try.func3, Try.ntmps3
  go_wp2_with fail
  refine (hlonger.out _ B0.out).mono ?_
  rintro e w1 ⟨v, rfl, hown, b1⟩
  obtain ⟨g, cap1, rfl, hbg0, hcap, hcap2, hglt, hfz, hcells⟩ := own_form hown (by simp [strs'])
  have hbg : w.heap.size ≤ g := Nat.le_trans B0.out.size hbg0
  have hlen : (strs' (xs ++ [behind])).length = xs.length + 1 := by simp [strs']
  rw [hlen] at hcap hown
  have HH1 := hid (HH0.out.push b1 hown)
  have B1 := hid (Below.then B0.out B0.out.size b1)
  rw [hlen]
  clear hown hfz hcells b1 hlonger HH0 B0 hbg0
  obtain ⟨f0, f1, f2⟩ := box_cells (HH1.out.get (i := 1) rfl)
  have fa0 : ∀ o : Obj, (w1.alloc o).cell? ⟨w.heap.size, 0, none⟩ = some (.int .i64 lo) := fun o => (((Below.refl _ w1).alloc (Nat.le_refl _) o).cell (World.block_lt_of_cell? _ _ f0)).trans f0
  have fa1 : ∀ o : Obj, (w1.alloc o).cell? ⟨w.heap.size, 1, none⟩ = some (.int .i64 hi) := fun o => (((Below.refl _ w1).alloc (Nat.le_refl _) o).cell (World.block_lt_of_cell? _ _ f1)).trans f1
  have fa2 : ∀ o : Obj, (w1.alloc o).cell? ⟨w.heap.size, 2, none⟩ = some (.slice ao xs.length cap) := fun o => (((Below.refl _ w1).alloc (Nat.le_refl _) o).cell (World.block_lt_of_cell? _ _ f2)).trans f2
  have hcc : xs.length ≤ cap1 := by omega
  go_wp2_with fail
  go_region

  have HH2 := hid ((HH1.out.box 24 (.int .i64 lo) (.int .i64 hi) (.slice (some ⟨g, 0, none⟩) xs.length cap1)).below (Below.refl _ _).drew)
  have B2 := hid ((B1.out.alloc B1.out.size (.cells #[.int .i64 lo, .int .i64 hi, .slice (some ⟨g, 0, none⟩) xs.length cap1] 24)).drew)
  generalize hw2 : (w1.alloc (.cells #[.int .i64 lo, .int .i64 hi, .slice (some ⟨g, 0, none⟩) xs.length cap1] 24)).drew = w2 at HH2 B2 ⊢
  clear hw2 f0 f1 f2 fa0 fa1 fa2 HH1 B1
  obtain ⟨g0, g1, g2⟩ := box_cells (HH2.out.get (i := 0) rfl)
  go_wp2_with fail
  refine (hwl.out (some ⟨g, 0, none⟩) xs cap1 _ (by omega) (by omega) (HH2.out.get (i := 1) rfl).rowAt.front).mono ?_
  rintro e w3 ⟨rfl, b⟩
  have HH3 := hid (HH2.out.below b)
  have B3 := hid (Below.then B2.out B2.out.size b)
  clear b HH2 B2
  clear g0 g1 g2
  have hrs := frontR_size x lo hi xs
  obtain ⟨⟨r, c⟩, hr⟩ : ∃ p, p = frontR x lo hi xs := ⟨_, rfl⟩
  rw [← hr] at hrs ⊢
  unfold strErr
  simp only at hrs ⊢
  have HRR := hid hr
  clear hr
  obtain ⟨f0, f1, f2⟩ := box_cells (HH3.out.get (i := 2) rfl)
  go_wp2_with fail
  refine (hrl.out ao xs cap _ (by omega) (HX.out.below B3.out)).mono ?_
  rintro e w4 ⟨rfl, b⟩
  have HH4 := hid (HH3.out.below b)
  have B4 := hid (Below.then B3.out B3.out.size b)
  clear b HH3 B3
  clear f0 f1 f2
  rw [← HRR.out]
  unfold strErr
  simp only
  have hkept := hid (law_kept g ao xs cap1 cap w4 (by omega) hcap (HH4.out.get (i := 1) rfl).rowAt (HX.out.below B4.out))
  obtain ⟨f0, f1, f2⟩ := box_cells (HH4.out.get (i := 2) rfl)
  go_wp2_with (first | (go_at_call 7; refine (hnum.out _ _).mono ?_; rintro e w' ⟨rfl, rfl⟩) | fail)
  refine hkept.out.mono ?_
  rintro e w5 ⟨rfl, b⟩
  have HH5 := hid (HH4.out.below b)
  have B5 := hid (Below.then B4.out B4.out.size b)
  clear b HH4 B4
  clear f0 f1 f2
  clear hkept
  have hun := hid (fun W => wire_UnFrontier' s hs W)
  have hun2 := hid (fun W => wire_UnFrontier' r (by omega) W)
  have hrun := hid (fun W => ref11_UnFrontier' s hs W)
  have hrun2 := hid (fun W => ref11_UnFrontier' r (by omega) W)
  have hl1 := unFr_len s
  have hl2 := unFr_len r
  obtain ⟨⟨⟨lo1, hi1, ys⟩, wd, er⟩, hu1⟩ : ∃ p, p = unFrontier s := ⟨_, rfl⟩
  obtain ⟨⟨⟨lo2, hi2, zs⟩, wd2, er2⟩, hu2⟩ : ∃ p, p = unFrontier r := ⟨_, rfl⟩
  rw [← hu1] at hun hrun hl1
  rw [← hu2] at hun2 hrun2 hl2
  simp only at hun hrun hl1 hun2 hrun2 hl2
  clear hu1 hu2
  go_wp2_with fail
  refine (hun.out _).mono ?_
  rintro e w6 ⟨aX, cX, rfl, o, b⟩
  have hsX := B5.out.size
  have hsX2 := b.size
  have HHr := hid (HH5.out.push b o)
  have Br := hid (Below.then B5.out B5.out.size b)
  have HH6b := hid (HHr.out.box 24 (.int .i64 lo1) (.int .i64 hi1) (.slice aX ys.length cX))
  have B6b := hid (Br.out.alloc Br.out.size (.cells #[.int .i64 lo1, .int .i64 hi1, .slice aX ys.length cX] 24))
  clear b o HHr Br HH5 B5
  go_wp2_with fail
  refine (hun.out _).mono ?_
  rintro e w7 ⟨aZ, cZ, rfl, o, b⟩
  have HHr := hid (HH6b.out.push b o)
  have Br := hid (Below.then B6b.out B6b.out.size b)
  have HH7b := hid (HHr.out.box 24 (.int .i64 lo1) (.int .i64 hi1) (.slice aZ ys.length cZ))
  have B7b := hid (Br.out.alloc Br.out.size (.cells #[.int .i64 lo1, .int .i64 hi1, .slice aZ ys.length cZ] 24))
  clear b o HHr Br HH6b B6b
  go_wp2_with fail
  refine (hun2.out _).mono ?_
  rintro e w8 ⟨aU, cU, rfl, o, b⟩
  have hsU := B7b.out.size
  have hsU2 := b.size
  have HHr := hid (HH7b.out.push b o)
  have Br := hid (Below.then B7b.out B7b.out.size b)
  have HH8b := hid (HHr.out.box 24 (.int .i64 lo2) (.int .i64 hi2) (.slice aU zs.length cU))
  have B8b := hid (Br.out.alloc Br.out.size (.cells #[.int .i64 lo2, .int .i64 hi2, .slice aU zs.length cU] 24))
  clear b o HHr Br HH7b B7b
  go_wp2_with fail
  refine (hun2.out _).mono ?_
  rintro e w9 ⟨aV, cV, rfl, o, b⟩
  have HHr := hid (HH8b.out.push b o)
  have Br := hid (Below.then B8b.out B8b.out.size b)
  have HH9b := hid (HHr.out.box 24 (.int .i64 lo2) (.int .i64 hi2) (.slice aV zs.length cV))
  have B9b := hid (Br.out.alloc Br.out.size (.cells #[.int .i64 lo2, .int .i64 hi2, .slice aV zs.length cV] 24))
  clear b o HHr Br HH8b B8b
  go_wp2_with fail
  refine (hun.out _).mono ?_
  rintro e w10 ⟨aP, cP, rfl, o, b⟩
  have HHr := hid (HH9b.out.push b o)
  have Br := hid (Below.then B9b.out B9b.out.size b)
  have HH10b := hid (HHr.out.box 24 (.int .i64 lo1) (.int .i64 hi1) (.slice aP ys.length cP))
  have B10b := hid (Br.out.alloc Br.out.size (.cells #[.int .i64 lo1, .int .i64 hi1, .slice aP ys.length cP] 24))
  clear b o HHr Br HH9b B9b
  go_wp2_with fail
  refine (hrun.out _).mono ?_
  rintro e w11 ⟨aY, cY, rfl, o, b⟩
  have HHr := hid (HH10b.out.push b o)
  have Br := hid (Below.then B10b.out B10b.out.size b)
  have HH11b := hid (HHr.out.box 24 (.int .i64 lo1) (.int .i64 hi1) (.slice aY ys.length cY))
  have B11b := hid (Br.out.alloc Br.out.size (.cells #[.int .i64 lo1, .int .i64 hi1, .slice aY ys.length cY] 24))
  clear b o HHr Br HH10b B10b
  go_wp2_with fail
  refine (hrun2.out _).mono ?_
  rintro e w12 ⟨aQ, cQ, rfl, o, b⟩
  have HHr := hid (HH11b.out.push b o)
  have Br := hid (Below.then B11b.out B11b.out.size b)
  have HH12b := hid (HHr.out.box 24 (.int .i64 lo2) (.int .i64 hi2) (.slice aQ zs.length cQ))
  have B12b := hid (Br.out.alloc Br.out.size (.cells #[.int .i64 lo2, .int .i64 hi2, .slice aQ zs.length cQ] 24))
  clear b o HHr Br HH11b B11b
  obtain ⟨x0, x1, x2⟩ := box_cells (HH12b.out.get (i := 12) rfl)
  obtain ⟨y0, y1, y2⟩ := box_cells (HH12b.out.get (i := 2) rfl)
  go_wp2_with fail
  refine (law_same aX aY ys cX cY _ (by omega) (HH12b.out.get (i := 13) rfl).rowAt (HH12b.out.get (i := 3) rfl).rowAt).mono ?_
  rintro e w14 ⟨rfl, b⟩
  have HH14 := hid (HH12b.out.below b)
  have B14 := hid (Below.then B12b.out B12b.out.size b)
  clear b HH12b B12b
  clear x0 x1 x2 y0 y1 y2
  obtain ⟨u0, u1, u2⟩ := box_cells (HH14.out.get (i := 8) rfl)
  obtain ⟨q0, q1, q2⟩ := box_cells (HH14.out.get (i := 0) rfl)
  go_wp2_with (first | (go_at_call 7; refine (hnum.out _ _).mono ?_; rintro e w' ⟨rfl, rfl⟩) | fail)
  refine (law_same aU aQ zs cU cQ _ (by omega) (HH14.out.get (i := 9) rfl).rowAt (HH14.out.get (i := 1) rfl).rowAt).mono ?_
  rintro e w15 ⟨rfl, b⟩
  have HH15 := hid (HH14.out.below b)
  have B15 := hid (Below.then B14.out B14.out.size b)
  clear b HH14 B14
  clear u0 u1 u2 q0 q1 q2
  obtain ⟨x0, x1, x2⟩ := box_cells (HH15.out.get (i := 12) rfl)
  go_wp2_with fail
  refine (law_mark _ _ _ ys ⟨#[49]⟩ (by omega) w15 (HH15.out.get (i := 13) rfl)).mono ?_
  rintro e w16 ⟨rfl, h14, g14⟩
  have HH16 := hid (HH15.out.write 13 rfl h14 g14)
  have B16 := hid (B15.out.trans (HH15.out.below_write (i := 13) (B := w.heap.size) rfl g14 (by simpa using hsX) B15.out.size))
  clear h14 g14 HH15 B15
  clear x0 x1 x2
  obtain ⟨u0, u1, u2⟩ := box_cells (HH16.out.get (i := 8) rfl)
  go_wp2_with fail
  refine (law_mark _ _ _ zs ⟨#[50]⟩ (by omega) w16 (HH16.out.get (i := 9) rfl)).mono ?_
  rintro e w17 ⟨rfl, h14, g14⟩
  have HH17 := hid (HH16.out.write 9 rfl h14 g14)
  have B17 := hid (B16.out.trans (HH16.out.below_write (i := 9) (B := w.heap.size) rfl g14 (by simpa using hsU) B16.out.size))
  clear h14 g14 HH16 B16
  clear u0 u1 u2
  obtain ⟨x0, x1, x2⟩ := box_cells (HH17.out.get (i := 12) rfl)
  obtain ⟨u0, u1, u2⟩ := box_cells (HH17.out.get (i := 8) rfl)
  clear x0 x1 u0 u1
  go_wp2_with fail
  have HGX := hid (fun (W : World) hlo h => law_grown w5.heap.size w6.heap.size (.slice aX ys.length cX) ys.length (List.replicate ys.length ⟨#[49]⟩) ⟨#[49]⟩ (by omega) W hlo h)
  have HGU := hid (fun (W : World) hlo h => law_grown (w7.alloc (.cells #[.int .i64 lo1, .int .i64 hi1, .slice aZ ys.length cZ] 24)).heap.size w8.heap.size (.slice aU zs.length cU) zs.length (List.replicate zs.length ⟨#[50]⟩) ⟨#[50]⟩ (by omega) W hlo h)
  have HHd := hid (HH17.out.below (Below.refl _ _).drew)
  have Bd := hid (B17.out.drew)
  clear HH17 B17
  go_region_held3 (fun W => W.cell? ⟨w6.heap.size, 2, none⟩ = some (.slice aX ys.length cX) ∧ W.cell? ⟨w8.heap.size, 2, none⟩ = some (.slice aU zs.length cU)) (go_keep) (first
    | (go_at_call 13; (with_reducible refine Calls.mono (HGX.out _ ?hlo ?hh) ?_); (case hlo => exact HHd.out.size4 (i := 13) rfl hsX2); (case hh => exact HHd.out.get (i := 13) rfl); rintro e w18 ⟨rfl, h, g⟩; have HH18 := hid (HHd.out.write 13 rfl h g); have B18 := hid (Bd.out.trans (HHd.out.below_write (i := 13) (B := w.heap.size) rfl g (by simpa using hsX) Bd.out.size)); obtain ⟨_, _, x182⟩ := box_cells (HH18.out.get (i := 12) rfl); obtain ⟨_, _, u182⟩ := box_cells (HH18.out.get (i := 8) rfl); clear h g)
    | (go_at_call 13; (with_reducible refine Calls.mono (HGU.out _ ?hlo ?hh) ?_); (case hlo => exact HH18.out.size4 (i := 9) rfl hsU2); (case hh => exact HH18.out.get (i := 9) rfl); rintro e w19 ⟨rfl, h, g⟩; have HH19 := hid (HH18.out.write 9 rfl h g); have B19 := hid (B18.out.trans (HH18.out.below_write (i := 9) (B := w.heap.size) rfl g (by simpa using hsU) B18.out.size)); obtain ⟨_, _, x192⟩ := box_cells (HH19.out.get (i := 12) rfl); obtain ⟨_, _, u192⟩ := box_cells (HH19.out.get (i := 8) rfl); clear h g))
  clear HHd Bd HH18 B18 x2 u2 x182 u182 x192 u192 HGX HGU
  have hne : (((ys.length : Int) + 301 + ((zs.length : Int) + 301)) != ((ys.length : Int) + zs.length + 602)) = false := by simp; omega
  obtain ⟨z0, z1, z2⟩ := box_cells (HH19.out.get (i := 10) rfl)
  obtain ⟨y0, y1, y2⟩ := box_cells (HH19.out.get (i := 2) rfl)
  go_wp2_with fail
  refine (law_same aZ aY ys cZ cY _ (by omega) (HH19.out.get (i := 11) rfl).rowAt (HH19.out.get (i := 3) rfl).rowAt).mono ?_
  rintro e w20 ⟨rfl, b⟩
  have HH20 := hid (HH19.out.below b)
  have B20 := hid (Below.then B19.out B19.out.size b)
  clear b HH19 B19
  clear z0 z1 z2 y0 y1 y2
  obtain ⟨z0, z1, z2⟩ := box_cells (HH20.out.get (i := 4) rfl)
  obtain ⟨y0, y1, y2⟩ := box_cells (HH20.out.get (i := 2) rfl)
  go_wp2_with fail
  refine (law_same aP aY ys cP cY _ (by omega) (HH20.out.get (i := 5) rfl).rowAt (HH20.out.get (i := 3) rfl).rowAt).mono ?_
  rintro e w21 ⟨rfl, b⟩
  have HH21 := hid (HH20.out.below b)
  have B21 := hid (Below.then B20.out B20.out.size b)
  clear b HH20 B20
  clear z0 z1 z2 y0 y1 y2
  obtain ⟨z0, z1, z2⟩ := box_cells (HH21.out.get (i := 6) rfl)
  obtain ⟨y0, y1, y2⟩ := box_cells (HH21.out.get (i := 0) rfl)
  go_wp2_with fail
  refine (law_same aV aQ zs cV cQ _ (by omega) (HH21.out.get (i := 7) rfl).rowAt (HH21.out.get (i := 1) rfl).rowAt).mono ?_
  rintro e w22 ⟨rfl, b⟩
  have HH22 := hid (HH21.out.below b)
  have B22 := hid (Below.then B21.out B21.out.size b)
  clear b HH21 B21
  clear z0 z1 z2 y0 y1 y2
  obtain ⟨x0, x1, x2⟩ := box_cells (HH22.out.get (i := 12) rfl)
  obtain ⟨u0, u1, u2⟩ := box_cells (HH22.out.get (i := 8) rfl)
  obtain ⟨y0, y1, y2⟩ := box_cells (HH22.out.get (i := 2) rfl)
  obtain ⟨q0, q1, q2⟩ := box_cells (HH22.out.get (i := 0) rfl)
  obtain ⟨f0, f1, f2⟩ := box_cells (HH22.out.get (i := 16) rfl)
  obtain ⟨g0, g1, g2⟩ := box_cells (HH22.out.get (i := 14) rfl)
  go_wp2_with fail
  refine (law_full aX ys.length cX ⟨#[49]⟩ (by omega) w22 (HH22.out.get (i := 13) rfl).rowAt).mono ?_
  rintro e w' ⟨rfl, rfl⟩
  go_wp2_with fail
  refine (law_full aU zs.length cU ⟨#[50]⟩ (by omega) w22 (HH22.out.get (i := 9) rfl).rowAt).mono ?_
  rintro e w' ⟨rfl, rfl⟩
  by_cases h0 : xs.length = 0
  · have h0' : ((xs.length : Int) == 0) = true := by rw [h0]; rfl
    clear h0
    go_wp2_with fail
    go_ret
    exact ⟨rfl, B22.out⟩
  · have h0' : ((xs.length : Int) == 0) = false := beq_eq_false_iff_ne.2 (by omega)
    go_wp2_with fail
    refine (hwl.out (some ⟨g, 0, none⟩) xs cap1 _ (by omega) (by omega) (HH22.out.get (i := 15) rfl).rowAt.front).mono ?_
    rintro e w23 ⟨rfl, b⟩
    have HH23 := hid (HH22.out.below b)
    have B23 := hid (Below.then B22.out B22.out.size b)
    clear b HH22 B22
    clear x0 x1 x2 u0 u1 u2 y0 y1 y2 q0 q1 q2 f0 f1 f2 g0 g1 g2
    rw [← HRR.out]
    unfold strErr
    simp only
    have hown := (HH23.out.get (i := 15) rfl).own
    have hget : ∀ i (hi : i < xs.length), w23.cell? ⟨g, i, none⟩ = some (.string xs[i]) := fun i hi => by
      rw [hown.cellAt i (by show i < (xs.length + 1) * 1; omega)]
      show (strs' (xs ++ [behind]))[i]? = _
      simp [strs', List.getElem?_append_left, hi]
    have hc0 := hget 0 (by omega)
    have hf0 := hown.frozenAt 0
    have hst := hown.stored 0
    have HST := hid hst
    have hxl := HXS.out xs[0] (List.getElem_mem _)
    obtain ⟨y0, hy0⟩ : ∃ y, y = xs[0]'(by omega) := ⟨_, rfl⟩
    rw [← hy0] at hc0 hxl
    clear hget hown hst hy0
    have hcat : ¬ 9223372036854775807 < y0.size + 1 := by omega
    obtain ⟨g0, g1, g2⟩ := box_cells (HH23.out.get (i := 14) rfl)
    have gz : g ≠ w1.heap.size := by omega
    have gz1 : w1.heap.size ≠ g := fun e => gz e.symm
    go_wp2_with fail
    have hother : ∃ us : List ByteArray, us.length = xs.length ∧ RowAt (w23.setCell ⟨g, 0, none⟩ (.string (y0 ++ ⟨#[120]⟩))) (some ⟨g, 0, none⟩) (strs' us) := by
      refine ⟨xs.set 0 (y0 ++ ⟨#[120]⟩), by simp, ?_⟩
      have h1 := (HST.out (.string (y0 ++ ⟨#[120]⟩))).1
      have h2 : (strs' (xs ++ [behind])).set 0 (.string (y0 ++ ⟨#[120]⟩)) = strs' (xs.set 0 (y0 ++ ⟨#[120]⟩) ++ [behind]) := by
        rw [strs'_set, List.set_append_left _ _ (by omega)]
      rw [h2] at h1
      exact (Held.new h1).rowAt.front
    obtain ⟨us, hul, hus⟩ := hother
    have k0 : (w23.setCell ⟨g, 0, none⟩ (.string (y0 ++ ⟨#[120]⟩))).cell? ⟨w1.heap.size, 0, none⟩ = some (.int .i64 lo) := by rw [World.cell?_setCell_other _ _ _ _ (by intro e; cases e; exact gz rfl)]; exact g0
    have k1 : (w23.setCell ⟨g, 0, none⟩ (.string (y0 ++ ⟨#[120]⟩))).cell? ⟨w1.heap.size, 1, none⟩ = some (.int .i64 hi) := by rw [World.cell?_setCell_other _ _ _ _ (by intro e; cases e)]; exact g1
    have k2 : (w23.setCell ⟨g, 0, none⟩ (.string (y0 ++ ⟨#[120]⟩))).cell? ⟨w1.heap.size, 2, none⟩ = some (.slice (some ⟨g, 0, none⟩) xs.length cap1) := by rw [World.cell?_setCell_other _ _ _ _ (by intro e; cases e)]; exact g2
    have hby : Below w.heap.size w (w23.setCell ⟨g, 0, none⟩ (.string (y0 ++ ⟨#[120]⟩))) := B23.out.setCell hbg _
    rw [← hul]
    have HUS := hid hus
    have HBY := hid hby
    have KK := hid (And.intro k0 (And.intro k1 k2))
    clear hus hby HST hc0 hf0 g0 g1 g2 k0 k1 k2 HH23 B23
    refine (hwl.out (some ⟨g, 0, none⟩) us cap1 _ (by omega) (by omega) HUS.out).mono ?_
    rintro e w24 ⟨rfl, b⟩
    have HU24 := hid (HUS.out.below b)
    have B24 := hid (Below.then HBY.out HBY.out.size b)
    have k0 := (b.cell (World.block_lt_of_cell? _ _ KK.out.1)).trans KK.out.1
    have k1 := (b.cell (World.block_lt_of_cell? _ _ KK.out.2.1)).trans KK.out.2.1
    have k2 := (b.cell (World.block_lt_of_cell? _ _ KK.out.2.2)).trans KK.out.2.2
    clear b HUS HBY KK
    obtain ⟨⟨r2, c2⟩, hr2⟩ : ∃ p, p = frontR x lo hi us := ⟨_, rfl⟩
    rw [← hr2]
    unfold strErr
    simp only
    have HR2 := hid hr2
    clear hr2
    go_wp2_with fail
    rw [← hul]
    refine (hrl.out (some ⟨g, 0, none⟩) us cap1 _ (by omega) HU24.out).mono ?_
    rintro e w25 ⟨rfl, b⟩
    have B25 := hid (Below.then B24.out B24.out.size b)
    clear b HU24 B24 k0 k1 k2
    rw [← HR2.out]
    unfold strErr
    simp only
    go_wp2_with (first | (go_at_call 7; refine (hnum.out _ _).mono ?_; rintro e w' ⟨rfl, rfl⟩) | fail)
    go_ret
    exact ⟨rfl, B25.out⟩
end Go.Proofs.Ytpdjiflbidjcbaa
