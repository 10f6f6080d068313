/- Walk of the law's fitted. -/
import Derived.Test.YtocjjiacmedjmaaFitS
import Derived.Test.YtocjjiacmedjmaaOwns
import Derived.Test.YtocjjiacmedjmaaSame
import Derived.Deep.RegionHeld3
import Derived.Deep.DeepCutAuto
import Derived.Deep.CutBlock
set_option maxRecDepth 100000
namespace Go.Proofs.Ytocjjiacmedjmaa
open Go Go.RowKit

def Fitted (w : World) (e : Ending) (w' : World) : Prop :=
  ∃ (k wd a b n : Int) (ao : Option Addr) (xs : List Int) (cap : Nat) (ho : Option Addr) (hs : List ByteArray) (hcap : Nat), e = .returned (.tuple #[proofV k wd a b n ao xs cap ho hs hcap, .bool true]) ∧ Fit k wd a b n xs hs ∧
    w'.ownsRow w.heap.size 3 1 (.slice ao xs.length cap) xs.length (ints xs) ∧ w'.ownsRow w.heap.size 9 1 (.slice ho hs.length hcap) hs.length (strs' hs) ∧ xs.length ≤ 1024 ∧ hs.length ≤ 65536 ∧ Below w.heap.size w w'
/-- Behind the numbers: they go. -/
def FitMid (h : Nat) (W3 : World) (K WD N : Int) (wc : World) : Prop :=
  ∃ (A B : Int) (ao : Option Addr) (cap : Nat) (ys : List Int) (c : Nat), FS h W3 wc K WD A B N (.slice ao ys.length cap) ys ∧ namedN K A B ys.length = true ∧ countN K A B N ys = ((c : Int), 0) ∧ c ≤ 65536 ∧ ys.length ≤ 1024
theorem Res.upto {p B : Nat} {w w' : World} (h : Res p w) (hb : Below B w w') (hp : p < B) : Res p w' :=
  ⟨Nat.lt_of_lt_of_le h.lt hb.size, fun i hi => by obtain ⟨v, hv⟩ := h.cell i hi; exact ⟨v, (hb.cell (p := ⟨p, i, none⟩) hp).trans hv⟩, fun i => (hb.frozen (p := ⟨p, i, none⟩) hp).trans (h.fz i)⟩
theorem own_far {w : World} {lo size n : Nat} {e : TypeId} {v : Value} {ys : List Value} (p : Nat) (h : w.ownsRow lo e size v n ys) (hp : p < lo) : v.ownBlock = none ∨ v.ownBlock ≠ some p := by
  cases hb : v.ownBlock with
  | none => exact .inl rfl
  | some k => exact .inr (fun e => by have e2 := Option.some.inj e; have := (h.lt k hb).1; omega)
theorem FS.rebase {h : Nat} {W3 w : World} {K WD A B N : Int} {v : Value} {ys : List Int} (F : FS h W3 w K WD A B N v ys) : FS h w w K WD A B N v ys := ⟨Below.refl _ _, F.c0, F.c1, F.c2, F.c3, F.c4, F.c5, F.c6, F.fz, F.row⟩
theorem FS.drew {h : Nat} {W3 w : World} {K WD A B N : Int} {v : Value} {ys : List Int} (F : FS h W3 w K WD A B N v ys) : FS h W3 w.drew K WD A B N v ys := F.below (Below.refl _ _).drew
set_option maxHeartbeats 4000000 in
theorem law_fitted (k wd a b n : Int) (ao : Option Addr) (xs : List Int) (cap : Nat) (ho : Option Addr) (hs : List ByteArray) (hcap : Nat) (w : World)
    (hx : RowAt w ao (ints xs)) (hh : RowAt w ho (strs' hs)) (hlx : xs.length ≤ 4611686018427387904) (hlh : hs.length ≤ 4611686018427387904) (hsz : ∀ x ∈ hs, x.size ≤ 140737488351232) :
    Calls Try.prog 6 #[proofV k wd a b n ao xs cap ho hs hcap] w (Fitted w) := by
  unfold proofV
  have HX := hid hx
  have HH := hid hh
  have HSZ := hid hsz
  obtain ⟨bK, bK'⟩ := pick_bounds k 4 (by decide)
  obtain ⟨bW, bW'⟩ := pick_bounds wd 32 (by decide)
  obtain ⟨bN, bN'⟩ := pick_bounds n 4611686018427387904 (by decide)
  have hp1 := hid (law_pick k 4 (by decide) (by decide))
  have hp2 := hid (law_pick wd 32 (by decide) (by decide))
  have hp3 := hid (law_pick n 4611686018427387904 (by decide) (by decide))
  generalize pickN k 4 = KP at *
  generalize pickN wd 32 = WP at *
  generalize pickN n 4611686018427387904 = NP at *
  have s0 := seven_new w k wd a b n ao xs cap ho hs hcap
  have r0 := res_new (w.alloc (.cells #[.int .i64 k, .int .i64 wd, .int .i64 a, .int .i64 b, .int .i64 n, .slice ao xs.length cap, .slice ho hs.length hcap] 25)) (.int .i64 0) (.int .i64 0) (.int .i64 0) (.int .i64 0) (.int .i64 0) (.slice none 0 0) (.slice none 0 0)
  have b0 : Below w.heap.size w ((w.alloc (.cells #[.int .i64 k, .int .i64 wd, .int .i64 a, .int .i64 b, .int .i64 n, .slice ao xs.length cap, .slice ho hs.length hcap] 25)).alloc (.cells #[.int .i64 0, .int .i64 0, .int .i64 0, .int .i64 0, .int .i64 0, .slice none 0 0, .slice none 0 0] 25)) := by go_grown
  replace s0 := s0.alloc (.cells #[.int .i64 0, .int .i64 0, .int .i64 0, .int .i64 0, .int .i64 0, .slice none 0 0, .slice none 0 0] 25)
  have e1 : (w.alloc (.cells #[.int .i64 k, .int .i64 wd, .int .i64 a, .int .i64 b, .int .i64 n, .slice ao xs.length cap, .slice ho hs.length hcap] 25)).heap.size = w.heap.size + 1 := by simp
  obtain ⟨W, hW⟩ : ∃ W, W = (w.alloc (.cells #[.int .i64 k, .int .i64 wd, .int .i64 a, .int .i64 b, .int .i64 n, .slice ao xs.length cap, .slice ho hs.length hcap] 25)).alloc (.cells #[.int .i64 0, .int .i64 0, .int .i64 0, .int .i64 0, .int .i64 0, .slice none 0 0, .slice none 0 0] 25) := ⟨_, rfl⟩
  have hWs : W.heap.size = w.heap.size + 2 := by rw [hW]; simp
  rw [e1] at r0
  rw [← hW] at s0 r0 b0
  have HW := hid hW.symm
  have HS0 := hid s0
  have HR0 := hid r0
  have HB0 := hid b0
  clear hx hh hsz s0 r0 b0 hW e1
  obtain ⟨ltb, c0, c1, c2, c3, c4, c5, c6⟩ := HS0.out
  clear c2 c3 c5 c6
  go_enter Try.func6, Try.ntmps6
  have wK : IntKind.i64.wrap (1 + KP) = 1 + KP := by rw [IntKind.wrap_i64]; omega
  have wW : IntKind.i64.wrap (1 + WP) = 1 + WP := by rw [IntKind.wrap_i64]; omega
  have wN : IntKind.i64.wrap (1 + NP) = 1 + NP := by rw [IntKind.wrap_i64]; omega
  have WK := hid wK
  have WW := hid wW
  have WN := hid wN
  clear wK wW wN
  go_upto_region 1 with fail
  rw [HW.out]
  go_cut [4] (fun p wc => p = .pointer (some ⟨w.heap.size + 2, 0, none⟩) ∧ FS w.heap.size wc wc (1 + KP) (1 + WP) 0 0 (1 + NP) (.slice none 0 0) [] ∧ Below (w.heap.size + 2) W wc)
  case first =>
    go_region_held3 (fun w' => w'.cell? ⟨w.heap.size, 0, none⟩ = some (.int .i64 k) ∧ w'.cell? ⟨w.heap.size, 1, none⟩ = some (.int .i64 wd) ∧ w'.cell? ⟨w.heap.size, 4, none⟩ = some (.int .i64 n)) (go_keep) (first
      | (go_at_call 13; (with_reducible refine Calls.mono (hp1.out _) ?_); rintro e w' ⟨rfl, rfl⟩)
      | (go_at_call 13; (with_reducible refine Calls.mono (hp2.out _) ?_); rintro e w' ⟨rfl, rfl⟩)
      | (go_at_call 13; (with_reducible refine Calls.mono (hp3.out _) ?_); rintro e w' ⟨rfl, rfl⟩))
    all_goals
      go_wp2_with fail
      go_meet
      case rel =>
        rw [WK.out, WW.out, WN.out]
        exact ⟨rfl, (FS.new W w.heap.size hWs (1 + KP) (1 + WP) (1 + NP)).rebase.drew.rebase, by rw [← hWs]; exact ((Below.refl _ _).alloc (Nat.le_refl _) _).drew⟩
  case rest =>
  obtain ⟨rfl, hF, hB⟩ := hcut
  have F3 := hid hF
  have HS3 := hid (HS0.out.upto hB (by omega))
  have HR3 := hid (HR0.out.upto hB (by omega))
  have HB3 := hid (HB0.out.trans (hB.mono (Nat.le_add_right _ _)))
  clear hF hB c0 c1 c4 ltb
  obtain ⟨n0, hn0⟩ : ∃ N, N = 1 + NP := ⟨_, rfl⟩
  rw [← hn0] at F3
  obtain ⟨K, hK⟩ : ∃ K, K = 1 + KP := ⟨_, rfl⟩
  rw [← hK] at F3
  have n1 : 1 ≤ n0 := by omega
  have n2 : n0 ≤ 4611686018427387904 := by omega
  have k14 : K = 1 ∨ K = 2 ∨ K = 3 ∨ K = 4 := by omega
  have w1 : 1 ≤ 1 + WP := by omega
  have w32 : 1 + WP ≤ 32 := by omega
  obtain ⟨WD, hWD⟩ : ∃ v, v = 1 + WP := ⟨_, rfl⟩
  rw [← hWD] at F3 w1 w32
  clear hn0 hK hWD bK bK' bN bN' bW bW' WK WW WN hp1 hp2 hp3
  have f0 := F3.out.c0
  have f2 := F3.out.c2
  have f3 := F3.out.c3
  have f4 := F3.out.c4
  have f5 := F3.out.c5
  have q2 := HS3.out.c2
  have q3 := HS3.out.c3
  have q5 := HS3.out.c5
  have qf := F3.out.fz
  go_upto_block 0 with fail
  go_cut [] (fun w5 => FitMid w.heap.size wc K WD n0 w5)
  case first =>
    rcases k14 with h1 | h1 | h1 | h1
    · subst h1
      obtain ⟨bA, bA'⟩ := pick_bounds a n0 (by omega)
      have hpa := hid (law_pick a n0 (by omega) (by omega))
      generalize pickN a n0 = AP at *
      obtain ⟨c, hc, hc2⟩ := cnt_ok (k := 1) (a := AP) (b := 0) (n := n0) (xs := []) (by omega) (by omega) (by omega) (by omega) (by omega) (by omega) (by omega)
      go_wp2_with (first | (go_at_call 13; refine (hpa.out _).mono ?_; rintro e w' ⟨rfl, rfl⟩) | fail)
      go_meet
      case rel => exact ⟨AP, 0, none, 0, [], c, F3.out.setA AP, rfl, hc, hc2, by simp⟩
    · subst h1
      obtain ⟨bA, bA'⟩ := pick_bounds a n0 (by omega)
      have hpa := hid (law_pick a n0 (by omega) (by omega))
      generalize pickN a n0 = AP at *
      obtain ⟨c, hc, hc2⟩ := cnt_ok (k := 2) (a := AP) (b := 0) (n := n0) (xs := []) (by omega) (by omega) (by omega) (by omega) (by omega) (by omega) (by omega)
      go_wp2_with (first | (go_at_call 13; refine (hpa.out _).mono ?_; rintro e w' ⟨rfl, rfl⟩) | fail)
      go_meet
      case rel => exact ⟨AP, 0, none, 0, [], c, F3.out.setA AP, rfl, hc, hc2, by simp⟩
    · subst h1
      obtain ⟨bA, bA'⟩ := pick_bounds a n0 (by omega)
      have hpa := hid (law_pick a n0 (by omega) (by omega))
      generalize pickN a n0 = AP at *
      obtain ⟨bB, bB'⟩ := pick_bounds b (n0 - AP) (by omega)
      have hpb := hid (law_pick b (n0 - AP) (by omega) (by omega))
      generalize pickN b (n0 - AP) = BP at *
      obtain ⟨c, hc, hc2⟩ := cnt_ok (k := 3) (a := AP) (b := AP + 1 + BP) (n := n0) (xs := []) (by omega) (by omega) (by omega) (by omega) (by omega) (by omega) (by omega)
      go_upto_region 10 with (first | (go_at_call 13; refine (hpa.out _).mono ?_; rintro e w' ⟨rfl, rfl⟩) | fail)
      have hF5 := F3.out.setA AP
      obtain ⟨W5, hW5⟩ : ∃ W5, W5 = wc.setCell ⟨w.heap.size + 2, 2, none⟩ (.int .i64 AP) := ⟨_, rfl⟩
      have hS5 : W5.cell? ⟨w.heap.size, 3, none⟩ = some (.int .i64 b) := by rw [hW5, World.cell?_setCell_other _ _ _ _ (by simp)]; exact q3
      rw [← hW5] at hF5 ⊢
      have F5 := hid hF5
      clear hF5 hW5 f0 f2 f3 f4 f5 q2 q3 q5 qf hpa
      have f2 := F5.out.c2
      have f3 := F5.out.c3
      have qf := F5.out.fz
      have wA : IntKind.i64.wrap (AP + 1) = AP + 1 := by rw [IntKind.wrap_i64]; omega
      have wD : IntKind.i64.wrap (n0 - AP) = n0 - AP := by rw [IntKind.wrap_i64]; omega
      have wB : IntKind.i64.wrap (AP + 1 + BP) = AP + 1 + BP := by rw [IntKind.wrap_i64]; omega
      have far2 : ∀ u, (W5.setCell ⟨w.heap.size + 2, 3, none⟩ u).drew.cell? ⟨w.heap.size + 2, 2, none⟩ = some (.int .i64 AP) := fun u => by
        show (W5.setCell ⟨w.heap.size + 2, 3, none⟩ u).cell? _ = _
        rw [World.cell?_setCell_other _ _ _ _ (by intro e; cases e)]; exact f2
      have far3 : ∀ u, (W5.setCell ⟨w.heap.size + 2, 3, none⟩ u).drew.cell? ⟨w.heap.size, 3, none⟩ = some (.int .i64 b) := fun u => by
        show (W5.setCell ⟨w.heap.size + 2, 3, none⟩ u).cell? _ = _
        rw [World.cell?_setCell_other _ _ _ _ (by simp)]; exact hS5
      go_region_held3 (fun w' => w'.cell? ⟨w.heap.size, 3, none⟩ = some (.int .i64 b) ∧ w'.cell? ⟨w.heap.size + 2, 2, none⟩ = some (.int .i64 AP)) (first | exact ⟨far3 _, far2 _⟩ | go_keep) (first
        | (go_at_call 13; (with_reducible refine Calls.mono (hpb.out _) ?_); rintro e w' ⟨rfl, rfl⟩))
      all_goals
        go_wp2_with fail
        go_meet
        case rel => exact ⟨AP, AP + 1 + BP, none, 0, [], c, F5.out.drew.setB _, rfl, hc, hc2, by simp⟩
    · subst h1
      clear f2 f3 hlh
      go_wp2_with fail
      go_loopw [6] (fun i' wr => ∃ (i : Nat) (ao5 : Option Addr) (cap5 : Nat) (ys : List Int), i' = .int .i64 i ∧ i ≤ xs.length ∧ ys.length ≤ i ∧ i ≤ 1024 ∧ Asc n0 ys ∧ FS w.heap.size wc wr 4 WD 0 0 n0 (.slice ao5 ys.length cap5) ys) (fun i' _ => xs.length - (intOf i').toNat)
      case atStart => exact ⟨0, none, 0, [], rfl, by omega, by simp, by omega, Asc.nil _, F3.out⟩
      case round =>
        obtain ⟨i, ao5, cap5, ys, rfl, hi, hyi, him, hasc, hF⟩ := hrel
        have FR := hid hF
        have HA := hid hasc
        have ROW := hid (show wr.ownsRow (w.heap.size + 3) 3 1 (.slice ao5 ys.length cap5) ys.length (ints ys) from by have := hF.row; rwa [show (ints ys).length = ys.length by simp [ints]] at this)
        have hge : w.heap.size + 3 ≤ wr.heap.size := hF.lt
        have HXr := hid (HX.out.below (HB3.out.trans (hF.gr.mono (Nat.le_add_right _ _))))
        clear f0 f4 f5 q2 q3 q5 qf
        have q5 := (HS3.out.upto hF.gr (by omega)).c5
        have f5 := hF.c5
        have qf := hF.fz
        clear hasc hF
        by_cases hlt : i < xs.length
        · by_cases h1024 : i < 1024
          · obtain ⟨b5, off, hao, hc⟩ := HXr.out.int (k := i) hlt
            have hcell := hc i hlt
            obtain ⟨y, hy⟩ : ∃ y, y = xs[i] := ⟨_, rfl⟩
            rw [← hy] at hcell
            obtain ⟨bX, bX'⟩ := pick_bounds y n0 (by omega)
            have hpx := hid (law_pick y n0 (by omega) (by omega))
            generalize pickN y n0 = x at *
            rw [hao] at q5
            clear hc hy hao
            by_cases h0 : ys.length = 0
            · obtain rfl : ys = [] := List.length_eq_zero_iff.1 h0
              clear h0
              go_wp2_with (first | (go_at_call 13; refine (hpx.out _).mono ?_; rintro e w' ⟨rfl, rfl⟩) | (at_builtin; refine wp_appendS (w.heap.size + 3) rfl (.tmp 97) (.tmp 99) 22 3 (.int .i64 0) 1 8 rfl Try.underlying22 info_int rfl (by decide) (by decide) _ 0 (ints []) [.int .i64 x] rfl _ rfl rfl rfl (by simp [Value.oneCell']) ROW.out hge (by omega) ?_; intro g cap1 w1 hown1 hb1; have f5' := (hb1.cell (p := ⟨w.heap.size + 2, 5, none⟩) (Nat.lt_succ_self _)).trans f5; have qf' := (hb1.frozen (p := ⟨w.heap.size + 2, 5, none⟩) (Nat.lt_succ_self _)).trans (FR.out.fz 5); have H1 := hid (show w1.ownsRow (w.heap.size + 3) 3 1 (.slice (some ⟨g, 0, none⟩) (([x] : List Int)).length cap1) (ints (([x] : List Int))).length (ints (([x] : List Int))) from by simpa [ints] using hown1); have B1 := hid hb1; clear hown1 hb1) | fail)
              go_roundw
              case rel => exact ⟨i + 1, some ⟨g, 0, none⟩, cap1, [x], by simp, by omega, by simp, by omega, (Asc.nil n0).push x bX bX' (by intro h; simp at h), FR.out.app B1.out H1.out⟩
              case measure => simp [intOf]; omega
            · have h0I : ((ys.length : Int) == 0) = false := beq_eq_false_iff_ne.2 (by omega)
              obtain ⟨m, hm⟩ : ∃ m, ys.length = m + 1 := ⟨ys.length - 1, by omega⟩
              obtain ⟨b6, off6, hao6, hc6⟩ := (own_at ROW.out).int (k := m) (by omega)
              have hcell6 := hc6 m (by omega)
              rw [← getD_of ys m (by omega)] at hcell6
              have hmI : ((ys.length : Int) - 1) = (m : Int) := by omega
              have HP := hid (fun (h : ys.getD m 0 < x) => HA.out.push x bX bX' (fun _ => by rw [show ys.length - 1 = m by omega]; exact h))
              generalize ys.getD m 0 = z at *
              have hml : m < ys.length := by omega
              have hmlI : (m : Int) < (ys.length : Int) := by omega
              have hm64 : IntKind.i64.wrap ((ys.length : Int) - 1) = (m : Int) := by rw [IntKind.wrap_i64]; omega
              clear hc6 h0 hm
              rw [hao6] at f5 ROW FR
              by_cases hz : z < x
              · go_wp2_with (first | (go_at_call 13; refine (hpx.out _).mono ?_; rintro e w' ⟨rfl, rfl⟩) | (at_builtin; refine wp_appendS (w.heap.size + 3) rfl (.tmp 97) (.tmp 99) 22 3 (.int .i64 0) 1 8 rfl Try.underlying22 info_int rfl (by decide) (by decide) _ ys.length (ints ys) [.int .i64 x] rfl _ rfl rfl rfl (by simp [Value.oneCell']) ROW.out hge (by omega) ?_; intro g cap1 w1 hown1 hb1; have f5' := (hb1.cell (p := ⟨w.heap.size + 2, 5, none⟩) (Nat.lt_succ_self _)).trans f5; have qf' := (hb1.frozen (p := ⟨w.heap.size + 2, 5, none⟩) (Nat.lt_succ_self _)).trans (FR.out.fz 5); have H1 := hid (show w1.ownsRow (w.heap.size + 3) 3 1 (.slice (some ⟨g, 0, none⟩) (ys ++ [x]).length cap1) (ints (ys ++ [x])).length (ints (ys ++ [x])) from by simpa [ints] using hown1); have B1 := hid hb1; clear hown1 hb1) | fail)
                go_roundw
                case rel => exact ⟨i + 1, some ⟨g, 0, none⟩, cap1, ys ++ [x], by simp, by omega, by simp; omega, by omega, HP.out hz, by have h := FR.out.app B1.out H1.out; rw [show (ys ++ [x]).length = ys.length + 1 by simp] at h ⊢; exact h⟩
                case measure => simp [intOf]; omega
              · go_wp2_with (first | (go_at_call 13; refine (hpx.out _).mono ?_; rintro e w' ⟨rfl, rfl⟩) | fail)
                go_roundw
                case rel => exact ⟨i + 1, some ⟨b6, off6, none⟩, cap5, ys, by simp, by omega, by omega, by omega, HA.out, FR.out⟩
                case measure => simp [intOf]; omega
          · have hg2 : ¬ (i : Int) < 1024 := by omega
            by_cases h0 : ys.length = 0
            · obtain rfl : ys = [] := List.length_eq_zero_iff.1 h0
              have e0 : Asc n0 [0] := (Asc.nil n0).push 0 (by omega) (by omega) (by intro h; simp at h)
              obtain ⟨c, hc, hc2⟩ := cnt_ok (k := 4) (a := 0) (b := 0) (n := n0) (xs := [0]) (by omega) (by omega) n1 n2 (by omega) (by omega) (fun _ => rising_asc e0 (by simp) (by simp))
              have HC := hid hc
              clear hc e0 h0
              go_wp2_with (first | (at_builtin; refine wp_appendS (w.heap.size + 3) rfl (.tmp 107) (.tmp 108) 22 3 (.int .i64 0) 1 8 rfl Try.underlying22 info_int rfl (by decide) (by decide) _ 0 (ints []) [.int .i64 0] rfl _ rfl rfl rfl (by simp [Value.oneCell']) ROW.out hge (by omega) ?_; intro g cap1 w1 hown1 hb1; have f5' := (hb1.cell (p := ⟨w.heap.size + 2, 5, none⟩) (Nat.lt_succ_self _)).trans f5; have qf' := (hb1.frozen (p := ⟨w.heap.size + 2, 5, none⟩) (Nat.lt_succ_self _)).trans (FR.out.fz 5); have H1 := hid (show w1.ownsRow (w.heap.size + 3) 3 1 (.slice (some ⟨g, 0, none⟩) (([0] : List Int)).length cap1) (ints (([0] : List Int))).length (ints (([0] : List Int))) from by simpa [ints] using hown1); have B1 := hid hb1; clear hown1 hb1) | fail)
              go_meet
              case rel => exact ⟨0, 0, some ⟨g, 0, none⟩, cap1, [0], c, FR.out.app B1.out H1.out, rfl, HC.out, hc2, by simp⟩
            · have h0I : ((ys.length : Int) == 0) = false := beq_eq_false_iff_ne.2 (by omega)
              obtain ⟨c, hc, hc2⟩ := cnt_ok (k := 4) (a := 0) (b := 0) (n := n0) (xs := ys) (by omega) (by omega) n1 n2 (by omega) (by omega) (fun _ => rising_asc HA.out (fun e => h0 (by rw [e]; rfl)) (by omega))
              have HC := hid hc
              clear hc h0
              go_wp2_with fail
              go_meet
              case rel => exact ⟨0, 0, ao5, cap5, ys, c, FR.out, rfl, HC.out, hc2, by omega⟩
        · have hg1 : ¬ (i : Int) < (xs.length : Int) := by omega
          by_cases h0 : ys.length = 0
          · obtain rfl : ys = [] := List.length_eq_zero_iff.1 h0
            have e0 : Asc n0 [0] := (Asc.nil n0).push 0 (by omega) (by omega) (by intro h; simp at h)
            obtain ⟨c, hc, hc2⟩ := cnt_ok (k := 4) (a := 0) (b := 0) (n := n0) (xs := [0]) (by omega) (by omega) n1 n2 (by omega) (by omega) (fun _ => rising_asc e0 (by simp) (by simp))
            have HC := hid hc
            clear hc e0 h0
            go_wp2_with (first | (at_builtin; refine wp_appendS (w.heap.size + 3) rfl (.tmp 107) (.tmp 108) 22 3 (.int .i64 0) 1 8 rfl Try.underlying22 info_int rfl (by decide) (by decide) _ 0 (ints []) [.int .i64 0] rfl _ rfl rfl rfl (by simp [Value.oneCell']) ROW.out hge (by omega) ?_; intro g cap1 w1 hown1 hb1; have f5' := (hb1.cell (p := ⟨w.heap.size + 2, 5, none⟩) (Nat.lt_succ_self _)).trans f5; have qf' := (hb1.frozen (p := ⟨w.heap.size + 2, 5, none⟩) (Nat.lt_succ_self _)).trans (FR.out.fz 5); have H1 := hid (show w1.ownsRow (w.heap.size + 3) 3 1 (.slice (some ⟨g, 0, none⟩) (([0] : List Int)).length cap1) (ints (([0] : List Int))).length (ints (([0] : List Int))) from by simpa [ints] using hown1); have B1 := hid hb1; clear hown1 hb1) | fail)
            go_meet
            case rel => exact ⟨0, 0, some ⟨g, 0, none⟩, cap1, [0], c, FR.out.app B1.out H1.out, rfl, HC.out, hc2, by simp⟩
          · have h0I : ((ys.length : Int) == 0) = false := beq_eq_false_iff_ne.2 (by omega)
            obtain ⟨c, hc, hc2⟩ := cnt_ok (k := 4) (a := 0) (b := 0) (n := n0) (xs := ys) (by omega) (by omega) n1 n2 (by omega) (by omega) (fun _ => rising_asc HA.out (fun e => h0 (by rw [e]; rfl)) (by omega))
            have HC := hid hc
            clear hc h0
            go_wp2_with fail
            go_meet
            case rel => exact ⟨0, 0, ao5, cap5, ys, c, FR.out, rfl, HC.out, hc2, by omega⟩
  case rest =>
  obtain ⟨A, B, ao5, cap5, ys, c, hF, hnm, hcn, hc2, hyl⟩ := hcut
  obtain ⟨wn, hwn⟩ : ∃ wn : Nat, WD = wn := ⟨WD.toNat, by omega⟩
  subst hwn
  rename_i wd1
  have HN := hid (show namedN K A B ys.length = true from hnm)
  have HC := hid hcn
  have F5 := hid hF
  have HB5 := hid (HB3.out.trans (hF.gr.mono (Nat.le_add_right _ _)))
  have HS5 := hid (HS3.out.upto hF.gr (by omega))
  have HR5 := hid (HR3.out.upto hF.gr (by omega))
  clear f0 f2 f3 f4 f5 q2 q3 q5 qf hnm hcn
  have f0 := hF.c0
  have f1 := hF.c1
  have f2 := hF.c2
  have f3 := hF.c3
  have f4 := hF.c4
  have f5 := hF.c5
  have hnum := hid law_num
  clear hF
  go_wp2_with fail
  refine (count_at K A B n0 ao5 ys cap5 c 0 HC.out _ (own_at (show World.ownsRow _ (w.heap.size + 3) 3 1 (.slice ao5 ys.length cap5) ys.length (ints ys) from by have := F5.out.row; rwa [show (ints ys).length = ys.length by simp [ints]] at this)) (by omega)).mono ?_
  rintro e w6 ⟨rfl, b6⟩
  have F6 := hid (F5.out.below b6)
  have HS6 := hid (HS5.out.below b6)
  have HR6 := hid (HR5.out.grown (grownBy_of_below b6 none) (by simp))
  have HB6 := hid (Below.then HB5.out HB5.out.size b6)
  clear b6 f0 f1 f2 f3 f4 f5
  have f1 := F6.out.c1
  have q6 := HS6.out.c6
  have cI : ¬ (70000 : Int) < (c : Int) := by omega
  have cI2 : ¬ (c : Int) < 0 := by omega
  go_wp2_with (first | (go_at_call 9; refine (hnum.out _ _).mono ?_; rintro e w' ⟨rfl, rfl⟩) | fail)
  refine (law_filled c wn ho hs hcap _ (by omega) (by omega) (HH.out.below HB6.out) hlh HSZ.out).mono ?_
  rintro e w7 ⟨zs, v7, rfl, hzl, hzs, hzo, b7⟩
  obtain ⟨ho7, cap7, rfl⟩ := own_val hzo
  rw [show (strs' zs).length = zs.length by simp [strs']] at hzo ⊢
  have F7 := hid (F6.out.below b7)
  have HR7 := hid (HR6.out.grown (grownBy_of_below b7 none) (by simp))
  have HB7 := hid (Below.then HB6.out HB6.out.size b7)
  have hz6 : w.heap.size + 3 ≤ w6.heap.size := F6.out.lt
  have HZ := hid hzo
  have HZL := hid hzl
  have HZS := hid hzs
  clear hzl hzs b7 f1 q6 cI cI2 hzo
  have f0 := F7.out.c0
  have f1 := F7.out.c1
  have f2 := F7.out.c2
  have f3 := F7.out.c3
  have f4 := F7.out.c4
  have f5 := F7.out.c5
  have f6 := F7.out.c6
  have qf := F7.out.fz
  obtain ⟨v0, g0⟩ := HR7.out.cell 0 (by omega)
  obtain ⟨v1, g1⟩ := HR7.out.cell 1 (by omega)
  obtain ⟨v2, g2⟩ := HR7.out.cell 2 (by omega)
  obtain ⟨v3, g3⟩ := HR7.out.cell 3 (by omega)
  obtain ⟨v4, g4⟩ := HR7.out.cell 4 (by omega)
  obtain ⟨v5, g5⟩ := HR7.out.cell 5 (by omega)
  obtain ⟨v6, g6⟩ := HR7.out.cell 6 (by omega)
  have hfr := HR7.out.fz
  go_wp2_with fail
  clear f0 f1 f2 f3 f4 f5 f6 qf g0 g1 g2 g3 g4 g5 g6 hfr
  have hw8 : w7.grownBy (w7.setCell ⟨w.heap.size + 2, 6, none⟩ (.slice ho7 zs.length cap7)) (some (w.heap.size + 2)) := grownBy_set _ _ _ _
  have HR8 := hid (HR7.out.grown hw8 (by intro e; have e2 := Option.some.inj e; omega))
  have hx8 := (show w7.ownsRow (w.heap.size + 3) 3 1 (.slice ao5 ys.length cap5) ys.length (ints ys) from by have := F7.out.row; rwa [show (ints ys).length = ys.length by simp [ints]] at this).kept hw8 (own_far _ (F7.out.row) (by omega))
  have hz8 := HZ.out.kept hw8 (own_far _ HZ.out (by omega))
  have hb8 := HB7.out.trans (below_of_grown (B := w.heap.size) hw8 (by have := HB7.out.size; omega) (fun k hk => by cases hk; omega))
  obtain ⟨w8, hw⟩ : ∃ w8, w8 = w7.setCell ⟨w.heap.size + 2, 6, none⟩ (.slice ho7 zs.length cap7) := ⟨_, rfl⟩
  rw [← hw] at HR8 hx8 hz8 hb8 ⊢
  clear hw8 hw
  have hst := store7_cells HR8.out (.int .i64 K) (.int .i64 wn) (.int .i64 A) (.int .i64 B) (.int .i64 n0) (.slice ao5 ys.length cap5) (.slice ho7 zs.length cap7)
  have hsg := store7_grown w8 (w.heap.size + 1) (.int .i64 K) (.int .i64 wn) (.int .i64 A) (.int .i64 B) (.int .i64 n0) (.slice ao5 ys.length cap5) (.slice ho7 zs.length cap7)
  obtain ⟨d0, d1, d2, d3, d4, d5, d6⟩ := hst
  show bodyPost Try.prog _ _ _ _ (store7 w8 (w.heap.size + 1) (.int .i64 K) (.int .i64 wn) (.int .i64 A) (.int .i64 B) (.int .i64 n0) (.slice ao5 ys.length cap5) (.slice ho7 zs.length cap7))
  refine bodyPost_ret (v := .tuple #[.agg #[.int .i64 K, .int .i64 wn, .int .i64 A, .int .i64 B, .int .i64 n0, .slice ao5 ys.length cap5, .slice ho7 zs.length cap7], .bool true]) (by simp [results, Try.results6, go_sem, d0, d1, d2, d3, d4, d5, d6]) rfl ?_
  refine ⟨K, wn, A, B, n0, ao5, ys, cap5, ho7, zs, cap7, rfl, ⟨by omega, by omega, w1, w32, HN.out, by rw [HC.out, HZL.out], fun x hx => by rw [HZS.out x hx]⟩, ?_, ?_, hyl, by have := HZL.out; omega, hb8.trans (below_of_grown (B := w.heap.size) hsg (by have := hb8.size; omega) (fun k hk => by cases hk; omega))⟩
  · exact own_lower (hx8.kept hsg (own_far _ hx8 (by omega))) (by omega)
  · exact own_lower (hz8.kept hsg (own_far _ hz8 (by omega))) (by omega)
end Go.Proofs.Ytocjjiacmedjmaa
