/- Walk of the law WireProof. -/
import Derived.Test.YtmihgnjifmkaaaaProof
import Derived.Test.YtmihgnjifmkaaaaHeld
import Derived.Test.YtmihgnjifmkaaaaSame
import Derived.Deep.RegionHeld3
set_option maxRecDepth 100000
namespace Go.Proofs.Ytmihgnjifmkaaaa
open Go Go.RowKit

/-- Two slices that hold the same numbers are the same. -/
theorem law_places (ao bo : Option Addr) (xs : List Int) (c1 c2 : Nat) (w : World) (hl : xs.length ≤ 4611686018427387904) (hx : RowAt w ao (ints xs)) (hy : RowAt w bo (ints xs)) :
    Calls Try.prog 34 #[.slice ao xs.length c1, .slice bo xs.length c2] w fun e w' => e = .returned (.bool true) ∧ Below w.heap.size w w' := by
  go_enter Try.func34, Try.ntmps34
  go_wp2_with fail
  go_loopw [5] (fun i' wr => ∃ i : Nat, i' = .int .i64 i ∧ i ≤ xs.length ∧ Below w.heap.size w wr) (fun i' _ => (xs.length - intOf i').toNat)
  case atStart => exact ⟨0, rfl, by omega, Below.refl _ _⟩
  case round =>
    obtain ⟨i, rfl, hi, hbw⟩ := hrel
    have HB := hid hbw
    by_cases hlt : i < xs.length
    · obtain ⟨b, off, rfl, hc⟩ := (hx.below hbw).int (k := i) hlt
      obtain ⟨b2, off2, rfl, hc2⟩ := (hy.below hbw).int (k := i) hlt
      have hcell := hc i hlt
      have hcell2 := hc2 i hlt
      clear hx hy hc hc2 hbw
      obtain ⟨y, hy⟩ : ∃ y, y = xs[i] := ⟨_, rfl⟩
      rw [← hy] at hcell hcell2
      clear hy
      go_wp2_with fail
      go_quiet (fail)
      go_wp2_with fail
      go_roundw
      case rel => exact ⟨i + 1, by go_num, by omega, below_drewN HB.out _⟩
      case measure => simp [intOf]; omega
    · clear hx hy hbw
      go_wp2_with fail
      go_ret
      exact ⟨rfl, HB.out⟩
theorem ints_one (xs : List Int) : ∀ u ∈ ints xs, u.oneCell' = true := by
  intro u hu
  obtain ⟨x, _, rfl⟩ := List.mem_map.1 hu
  rfl
theorem RowAt.frontI {w : World} {ao : Option Addr} {xs ys : List Int} (h : RowAt w ao (ints (xs ++ ys))) : RowAt w ao (ints xs) := by
  rcases h with h | ⟨b, off, rfl, h⟩
  · left
    have := congrArg List.length h
    simp [ints] at this
    rw [this.1]; rfl
  · right
    refine ⟨b, off, rfl, fun i hi => ?_⟩
    have hi' : i < xs.length := by simpa [ints] using hi
    rw [h i (by simp [ints]; omega)]
    simp [ints, List.getElem_append_left, hi']
theorem atrow_eq (xs : List Int) : ([] ++ ints xs ++ [Value.int .i64 (-7)]) = ints (xs ++ [-7]) := by simp [ints]
theorem atrow_len (xs : List Int) : (ints (xs ++ [-7])).length = xs.length + 1 := by simp [ints]
/-- The fields of a proof's box, set anew. -/
theorem Seven.set {w : World} {p : Nat} {k wd a b n : Int} {ao ao2 : Option Addr} {xs : List Int} {cap cap2 : Nat} {ho ho2 : Option Addr} {hs : List ByteArray} {hcap hcap2 : Nat} (h : Seven w p k wd a b n ao xs cap ho hs hcap) :
    Seven ((w.setCell ⟨p, 6, none⟩ (.slice ho2 hs.length hcap2)).setCell ⟨p, 5, none⟩ (.slice ao2 xs.length cap2)) p k wd a b n ao2 xs cap2 ho2 hs hcap2 := by
  have far : ∀ i, i ≠ 5 → i ≠ 6 → ((w.setCell ⟨p, 6, none⟩ (.slice ho2 hs.length hcap2)).setCell ⟨p, 5, none⟩ (.slice ao2 xs.length cap2)).cell? ⟨p, i, none⟩ = w.cell? ⟨p, i, none⟩ := fun i h5 h6 => by
    rw [World.cell?_setCell_other _ _ _ _ (by intro e; cases e; omega), World.cell?_setCell_other _ _ _ _ (by intro e; cases e; omega)]
  refine ⟨by have := h.lt; simpa using this, by rw [far 0 (by omega) (by omega)]; exact h.c0, by rw [far 1 (by omega) (by omega)]; exact h.c1, by rw [far 2 (by omega) (by omega)]; exact h.c2, by rw [far 3 (by omega) (by omega)]; exact h.c3, by rw [far 4 (by omega) (by omega)]; exact h.c4, ?_, ?_⟩
  · exact World.cell?_setCell_same _ _ _ (by rw [World.cell?_setCell_other _ _ _ _ (by intro e; cases e)]; exact h.c5)
  · rw [World.cell?_setCell_other _ _ _ _ (by intro e; cases e)]
    exact World.cell?_setCell_same _ _ _ h.c6

set_option maxHeartbeats 8000000 in
theorem law_WireProof (k wd a b n : Int) (ao : Option Addr) (xs : List Int) (cap : Nat) (ho : Option Addr) (hs : List ByteArray) (hcap : Nat) (w : World)
    (hx : RowAt w ao (ints xs)) (hao : ao = none → xs.length = 0 ∧ cap = 0) (hh : RowAt w ho (strs' hs)) (hho : ho = none → hs.length = 0 ∧ hcap = 0) (hlx : xs.length * 8 ≤ 140737488351232) (hlh : hs.length * 16 ≤ 140737488351232) (_hcp : hs.length ≤ hcap) :
    Calls Try.prog 7 #[proofV k wd a b n ao xs cap ho hs hcap] w fun e w' => e = .returned (.bool true) ∧ Below w.heap.size w w' := by
  unfold proofV
  have HX := hid hx
  have HH := hid hh
  have HAO := hid hao
  have HHO := hid hho
  have s0 := (seven_new w k wd a b n ao xs cap ho hs hcap).alloc (.cells #[.int .i64 k, .int .i64 wd, .int .i64 a, .int .i64 b, .int .i64 n, .slice ao xs.length cap, .slice ho hs.length hcap] 57)
  have q0 := seven_new (w.alloc (.cells #[.int .i64 k, .int .i64 wd, .int .i64 a, .int .i64 b, .int .i64 n, .slice ao xs.length cap, .slice ho hs.length hcap] 57)) k wd a b n ao xs cap ho hs hcap
  have b0 : Below w.heap.size w ((w.alloc (.cells #[.int .i64 k, .int .i64 wd, .int .i64 a, .int .i64 b, .int .i64 n, .slice ao xs.length cap, .slice ho hs.length hcap] 57)).alloc (.cells #[.int .i64 k, .int .i64 wd, .int .i64 a, .int .i64 b, .int .i64 n, .slice ao xs.length cap, .slice ho hs.length hcap] 57)) := by go_grown
  have fq : ∀ i, ((w.alloc (.cells #[.int .i64 k, .int .i64 wd, .int .i64 a, .int .i64 b, .int .i64 n, .slice ao xs.length cap, .slice ho hs.length hcap] 57)).alloc (.cells #[.int .i64 k, .int .i64 wd, .int .i64 a, .int .i64 b, .int .i64 n, .slice ao xs.length cap, .slice ho hs.length hcap] 57)).frozen? ⟨w.heap.size + 1, i, none⟩ = false := fun i => by
    have h : ∀ (V : World) (o : Array Value) (T : TypeId) (j : Nat), (V.alloc (.cells o T)).frozen? ⟨V.heap.size, j, none⟩ = false := fun V o T j => by simp [go_sem]
    have e : (w.alloc (.cells #[.int .i64 k, .int .i64 wd, .int .i64 a, .int .i64 b, .int .i64 n, .slice ao xs.length cap, .slice ho hs.length hcap] 57)).heap.size = w.heap.size + 1 := by simp
    rw [← e]; exact h _ _ _ _
  obtain ⟨W, hW⟩ : ∃ W, W = (w.alloc (.cells #[.int .i64 k, .int .i64 wd, .int .i64 a, .int .i64 b, .int .i64 n, .slice ao xs.length cap, .slice ho hs.length hcap] 57)).alloc (.cells #[.int .i64 k, .int .i64 wd, .int .i64 a, .int .i64 b, .int .i64 n, .slice ao xs.length cap, .slice ho hs.length hcap] 57) := ⟨_, rfl⟩
  have e1 : (w.alloc (.cells #[.int .i64 k, .int .i64 wd, .int .i64 a, .int .i64 b, .int .i64 n, .slice ao xs.length cap, .slice ho hs.length hcap] 57)).heap.size = w.heap.size + 1 := by simp
  rw [e1] at q0
  rw [← hW] at s0 q0 b0 fq
  have HS0 := hid s0
  have HQ0 := hid q0
  have HB0 := hid b0
  have HF0 := hid fq
  have HW := hid hW.symm
  clear hx hh hao hho s0 q0 b0 fq hW e1
  go_enter Try.func7, Try.ntmps7
  go_wp2_with fail
  rw [HW.out]
  refine (law_longer ho hs hcap W (HH.out.below HB0.out) HHO.out hlh).mono ?_
  rintro e w1 ⟨v, rfl, hown, b1⟩
  obtain ⟨g, cap1, rfl, hbg, hcap', hcap2, hglt, hfz, hcells⟩ := own_form hown (by simp [strs'])
  have hlen : (strs' (hs ++ [behind])).length = hs.length + 1 := by simp [strs']
  rw [hlen] at hcap' hown
  have HH1 := hid ((Held'.nil W).push b1 hown)
  have B1 := hid (Below.then HB0.out HB0.out.size b1)
  have HS1 := hid (HS0.out.below b1)
  have HQ1 := hid (HQ0.out.below b1)
  have HF1 : Hid (∀ i, w1.frozen? ⟨w.heap.size + 1, i, none⟩ = false) := fun i => (b1.frozen (p := ⟨w.heap.size + 1, i, none⟩) HQ0.out.lt).trans (HF0.out i)
  rw [hlen]
  clear hown hfz hcells b1 HS0 HQ0 HF0 HB0 hbg hglt
  obtain ⟨ltb, c0, c1, c2, c3, c4, c5, c6⟩ := HS1.out
  clear c0 c1 c2 c3 c4 c6
  have hx1 := HX.out.below B1.out
  have HX1 := hid hx1
  have hl1 := ints_length xs
  have ho1 := ints_one xs
  have HO1 := hid ho1
  clear hx1 ho1
  have hq1lt := HQ1.out.lt
  go_wp2_with (first
    | (at_builtin; refine wp_append_all w1.heap.size rfl (.const (.slice none 0 0)) (.tmp 16) 55 3 (.int .i64 0) 8 rfl Try.underlying55 info_int rfl (by decide) _ [] (ints xs) ao xs.length cap rfl rfl hl1 HO1.out HX1.out HAO.out (World.ownsRow_nil _ _ _ _) (Nat.le_refl _) (by simp; omega) ?_; intro v2 w2 hown2 hb2; have HO2 := hid hown2; have HB2 := hid hb2; clear hown2 hb2)
    | (at_builtin; refine wp_append1 w1.heap.size rfl (.tmp 18) (.tmp 19) 55 3 (.int .i64 0) 8 rfl Try.underlying55 info_int rfl (by decide) _ ([] ++ ints xs) (.int .i64 (-7)) rfl rfl rfl HO2.out HB2.out.size (by simp; omega) ?_; intro v3 w3 hown3 hb3; have B13 := HB2.out.trans hb3; have S3 := HS1.out.upto B13 ltb; have Q3 := HQ1.out.upto B13 hq1lt; have F3 : ∀ i, w3.frozen? ⟨w.heap.size + 1, i, none⟩ = false := (fun i => (B13.frozen (p := ⟨w.heap.size + 1, i, none⟩) hq1lt).trans (HF1.out i)); rw [atrow_eq] at hown3; obtain ⟨gA, capA, hvA, hbA, hcA, hcA2, hltA, hfA, hcellsA⟩ := own_form hown3 (by simp [ints]); rw [atrow_len] at hvA hcA hown3; subst hvA; have HH3 := hid (HH1.out.push B13 hown3); have B3 := hid (B1.out.trans (B13.mono B1.out.size)); have HS3 := hid S3; have HQ3 := hid Q3; have HF3 := hid F3; obtain ⟨-, -, -, -, -, -, s5, s6⟩ := S3; obtain ⟨-, q0, q1, q2, q3, q4, q5, q6⟩ := Q3; have f5 := F3 5; have f6 := F3 6; clear hown3 hb3 B13 hfA hcellsA F3 hltA hbA)
    | fail)
  have hQ := HQ3.out.set (ao2 := some ⟨gA, 0, none⟩) (cap2 := capA) (ho2 := some ⟨g, 0, none⟩) (hcap2 := cap1)
  obtain ⟨W4, hW4⟩ : ∃ W4, W4 = (w3.setCell ⟨w.heap.size + 1, 6, none⟩ (.slice (some ⟨g, 0, none⟩) hs.length cap1)).setCell ⟨w.heap.size + 1, 5, none⟩ (.slice (some ⟨gA, 0, none⟩) xs.length capA) := ⟨_, rfl⟩
  have hb4 : Below w.heap.size w W4 := by rw [hW4]; exact (B3.out.setCell (Nat.le_succ _) _).setCell (Nat.le_succ _) _
  have hg4 : w3.grownBy W4 (some (w.heap.size + 1)) := by
    rw [hW4]
    exact ⟨rfl, rfl, rfl, by simp, fun j _ hj => (Below.heap_setCell _ ⟨w.heap.size + 1, 5, none⟩ _ j (fun e => hj (by rw [e]))).trans (Below.heap_setCell _ ⟨w.heap.size + 1, 6, none⟩ _ j (fun e => hj (by rw [e])))⟩
  have hS4 : Seven W4 w.heap.size k wd a b n ao xs cap ho hs hcap := HS3.out.upto (B := w.heap.size + 1) (by rw [hW4]; exact ((Below.refl (w.heap.size + 1) w3).setCell (p := ⟨w.heap.size + 1, 6, none⟩) (Nat.le_refl _) _).setCell (p := ⟨w.heap.size + 1, 5, none⟩) (Nat.le_refl _) _) (Nat.lt_succ_self _)
  have hH4 : Held' W4 [⟨w1.heap.size, w3.heap.size, 3, 1, .slice (some ⟨gA, 0, none⟩) (xs.length + 1) capA, xs.length + 1, ints (xs ++ [-7])⟩, ⟨W.heap.size, w1.heap.size, 9, 1, .slice (some ⟨g, 0, none⟩) (hs.length + 1) cap1, hs.length + 1, strs' (hs ++ [behind])⟩] := by
    refine ⟨fun r hr => ?_, HH3.out.apart⟩
    have h1 := HH3.out.each r hr
    have hWs : W.heap.size = w.heap.size + 2 := by rw [← HW.out]; simp
    refine ⟨h1.own.kept hg4 ?_, h1.lt, Nat.le_trans h1.le hg4.size⟩
    cases hv : r.v.ownBlock with
    | none => exact .inl rfl
    | some j =>
      refine .inr (fun e => ?_)
      cases e
      have h2 := (h1.own.lt _ hv).1
      simp only [List.mem_cons, List.mem_nil_iff, or_false] at hr
      have hq := HQ1.out.lt
      rcases hr with rfl | rfl
      · simp only at h2; omega
      · simp only at h2; omega
  have HW4 := hid hW4.symm
  rw [← hW4] at hQ
  have HQ4 := hid hQ
  have HB4 := hid hb4
  have HS4 := hid hS4
  have HH4 := hid hH4
  rw [HW4.out]
  clear hQ hW4 hb4 hg4 hS4 hH4 q0 q1 q2 q3 q4 q5 q6 s5 s6 f5 f6
  have hwp := wire_Proof k wd a b n (some ⟨gA, 0, none⟩) xs capA (some ⟨g, 0, none⟩) hs cap1 W4 (HH4.out.get (i := 0) rfl).rowAt.frontI (HH4.out.get (i := 1) rfl).rowAt.front hlx hlh (by omega)
  unfold proofV at hwp
  refine hwp.mono ?_
  clear hwp
  rintro e w5 ⟨rfl, b5⟩
  have HH5 := hid (HH4.out.below b5)
  have B5 := hid (Below.then HB4.out HB4.out.size b5)
  have HS5 := hid (HS4.out.below b5)
  clear b5
  obtain ⟨⟨r, c⟩, hr⟩ : ∃ p, p = proofR k wd a b n xs hs := ⟨_, rfl⟩
  rw [← hr]
  unfold strErr
  simp only
  have HRR := hid hr
  clear hr
  obtain ⟨ltb5, c0, c1, c2, c3, c4, c5, c6⟩ := HS5.out
  go_wp2_with fail
  have hrp := ref11_Proof k wd a b n ao xs cap ho hs hcap w5 (HX.out.below B5.out) (HH.out.below B5.out) hlx hlh
  unfold proofV at hrp
  refine hrp.mono ?_
  clear hrp c0 c1 c2 c3 c4 c5 c6 ltb5
  rintro e w6 ⟨rfl, b6⟩
  have HH6 := hid (HH5.out.below b6)
  have B6 := hid (Below.then B5.out B5.out.size b6)
  have HS6 := hid (HS5.out.below b6)
  clear b6
  rw [← HRR.out]
  unfold strErr
  simp only
  obtain ⟨ltb6, c0, c1, c2, c3, c4, c5, c6⟩ := HS6.out
  have hown := (HH6.out.get (i := 0) rfl).own
  have hcl : w6.cell? ⟨gA, xs.length, none⟩ = some (.int .i64 (-7)) := by
    rw [hown.cellAt xs.length (by show xs.length < (xs.length + 1) * 1; omega)]
    show (ints (xs ++ [-7]))[xs.length]? = _
    simp [ints]
  clear hown c0 c1 c2 c3 c4
  go_wp2_with fail
  have hltA : gA < w6.heap.size := World.block_lt_of_cell? _ _ hcl
  have hnum := hid law_num
  have rA : RowAt w6.drew (some ⟨gA, 0, none⟩) (ints xs) := (HH6.out.get (i := 0) rfl).rowAt.frontI
  have rG : RowAt w6.drew (some ⟨g, 0, none⟩) (strs' (hs ++ [behind])) := (HH6.out.get (i := 1) rfl).rowAt
  have rX : RowAt w6.drew ao (ints xs) := HX.out.below B6.out.drew
  have rH : RowAt w6.drew ho (strs' hs) := HH.out.below B6.out.drew
  have RA := hid rA
  have RG := hid rG
  have RX := hid rX
  have RH := hid rH
  clear rA rG rX rH
  have i1 : (0 : Int) ≤ (xs.length : Int) := by omega
  have i2 : (xs.length : Int) ≤ (capA : Int) := by omega
  have i3 : (xs.length : Int) < (xs.length : Int) + 1 := by omega
  have i4 : xs.length < xs.length + 1 := by omega
  have i5 : xs.length ≤ capA := by omega
  go_region_held3 (fun w' => w'.cell? ⟨w.heap.size, 5, none⟩ = some (.slice ao xs.length cap) ∧ w'.cell? ⟨w.heap.size, 6, none⟩ = some (.slice ho hs.length hcap) ∧ w'.cell? ⟨gA, xs.length, none⟩ = some (.int .i64 (-7))) (go_keep) (first
    | (go_at_call 13; refine (hnum.out _ _).mono ?_; rintro e w' ⟨rfl, rfl⟩)
    | (go_at_call 17; refine Calls.mono (law_kept g ho hs cap1 hcap _ (by omega) hcap' RG.out RH.out) ?_; rintro e w7 ⟨rfl, b7⟩; have k75 := (b7.cell (p := ⟨w.heap.size, 5, none⟩) ltb6).trans c5; have k76 := (b7.cell (p := ⟨w.heap.size, 6, none⟩) ltb6).trans c6; have k77 := (b7.cell (p := ⟨gA, xs.length, none⟩) hltA).trans hcl; have RA7 := hid (RA.out.below b7); have RX7 := hid (RX.out.below b7); have B7 := hid (Below.then B6.out.drew B6.out.size b7); have hz7 := b7.size; have hA7 : gA < w7.heap.size := Nat.lt_of_lt_of_le hltA hz7; have hb7' : w.heap.size < w7.heap.size := Nat.lt_of_lt_of_le ltb6 hz7; clear b7 hz7)
    | (go_at_call 34; refine Calls.mono (law_places (some ⟨gA, 0, none⟩) ao xs capA cap _ (by omega) RA7.out RX7.out) ?_; rintro e w8 ⟨rfl, b8⟩; have k85 := (b8.cell (p := ⟨w.heap.size, 5, none⟩) hb7').trans k75; have k86 := (b8.cell (p := ⟨w.heap.size, 6, none⟩) hb7').trans k76; have k87 := (b8.cell (p := ⟨gA, xs.length, none⟩) hA7).trans k77; have B8 := hid (Below.then B7.out B7.out.size b8); clear b8))
  all_goals
    go_wp2_with fail
    go_ret
    exact ⟨rfl, B8.out⟩
theorem law_WireProof' (k wd a b n : Int) (ao : Option Addr) (xs : List Int) (cap : Nat) (ho : Option Addr) (hs : List ByteArray) (hcap : Nat) (w : World)
    (hx : RowAt w ao (ints xs)) (hao : ao = none → xs.length = 0 ∧ cap = 0) (hh : RowAt w ho (strs' hs)) (hho : ho = none → hs.length = 0 ∧ hcap = 0) (hcp : hs.length ≤ hcap)
    (_hb : (-9223372036854775808 ≤ k ∧ k ≤ 9223372036854775807) ∧ (-9223372036854775808 ≤ wd ∧ wd ≤ 9223372036854775807) ∧ (-9223372036854775808 ≤ a ∧ a ≤ 9223372036854775807) ∧ (-9223372036854775808 ≤ b ∧ b ≤ 9223372036854775807) ∧ (-9223372036854775808 ≤ n ∧ n ≤ 9223372036854775807))
    (_hw : ∀ x ∈ xs, -9223372036854775808 ≤ x ∧ x ≤ 9223372036854775807) (hz : xs.length * 8 ≤ 140737488351232 ∧ hs.length * 16 ≤ 140737488351232 ∧ ∀ x ∈ hs, x.size ≤ 140737488351232) :
    Calls Try.prog 7 #[.agg #[.int .i64 k, .int .i64 wd, .int .i64 a, .int .i64 b, .int .i64 n, .slice ao xs.length cap, .slice ho hs.length hcap]] w fun e w' => e = .returned (.bool true) ∧ Below w.heap.size w w' :=
  law_WireProof k wd a b n ao xs cap ho hs hcap w hx hao hh hho hz.1 hz.2.1 hcp
end Go.Proofs.Ytmihgnjifmkaaaa
