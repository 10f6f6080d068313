/- Walks of tiles.rest, tiles.All's function, tiles.rows and tiles.All. -/
import Derived.Test.YtaihdnfdikecnaaOwnS
import Derived.Handy
set_option maxRecDepth 100000
namespace Go.Proofs.Ytaihdnfdikecnaa
open Go Go.RowKit

/-- A tile's cells. -/
def tileC (h l i w : Nat) : List Value := [.int .i64 h, .int .i64 l, .int .i64 i, .int .i64 w]

theorem tiles_rest (h l n : Nat) (hh : h ≤ 8) (hh1 : 1 ≤ h) (hl : l ≤ 63) (hn : n ≤ 4611686018427387904) (w : World) :
    Calls Try.prog 10 #[.int .i64 h, .int .i64 l, .int .i64 n] w fun e w' =>
      e = .returned (.tuple #[.agg (tileC h l (n / 2 ^ h) (n - n / 2 ^ h * 2 ^ h)).toArray, .bool (decide (0 < n - n / 2 ^ h * 2 ^ h))]) ∧ Below w.heap.size w w' := by
  obtain ⟨q, hq⟩ : ∃ q, q = n / 2 ^ h := ⟨_, rfl⟩
  obtain ⟨m, hm⟩ : ∃ m, m = q * 2 ^ h := ⟨_, rfl⟩
  have hmn : m ≤ n := by rw [hm, hq]; exact Nat.div_mul_le_self _ _
  have hdiv : (n : Int) / 2 ^ h = (q : Int) := by rw [hq]; simp
  have hmul : (q : Int) * 2 ^ h = (m : Int) := by rw [hm]; simp
  rw [← hq, ← hm]
  clear hq hm
  go_enter Try.func10, Try.ntmps10
  go_wp2_with fail
  go_region
  all_goals go_wp2_with fail
  go_returns
  have hc : (n : Int) - m = ((n - m : Nat) : Int) := by omega
  have hd : decide (m < n) = decide (0 < n - m) := by congr 1; apply propext; omega
  simp only [hc, hd]
  refine ⟨rfl, ?_⟩
  exact (((Below.refl w.heap.size w).alloc (Nat.le_refl _) _).alloc (by simp) _).drew
theorem tile_one (h l i w : Nat) : ∀ u ∈ tileC h l i w, u.oneCell' = true := by
  simp only [tileC, List.mem_cons, List.mem_nil_iff, or_false]
  rintro u (rfl | rfl | rfl | rfl) <;> rfl
/-- The first k full tiles of a row; the row's rest; the row. -/
def fullC (h l k : Nat) : List Value := (List.range k).flatMap fun i => tileC h l i (2 ^ h)
def restC (h l n : Nat) : List Value := if 0 < n - n / 2 ^ h * 2 ^ h then tileC h l (n / 2 ^ h) (n - n / 2 ^ h * 2 ^ h) else []
def restN (h n : Nat) : Nat := if 0 < n - n / 2 ^ h * 2 ^ h then 1 else 0
def rowC (h l n : Nat) : List Value := fullC h l (n / 2 ^ h) ++ restC h l n
theorem fullC_step (h l k : Nat) : fullC h l (k + 1) = fullC h l k ++ tileC h l k (2 ^ h) := by
  unfold fullC; rw [List.range_succ, List.flatMap_append]; simp
theorem fullC_len (h l k : Nat) : (fullC h l k).length = 4 * k := by
  induction k with
  | zero => rfl
  | succ k ih => rw [fullC_step, List.length_append, ih]; simp [tileC]; omega
theorem restC_len (h l n : Nat) : (restC h l n).length = 4 * restN h n := by
  unfold restC restN; split <;> simp [tileC]
/-- What the function of tiles.All holds: the height, and the row xs of m tiles that the call made. -/
def TS (b h m : Nat) (xs : List Value) (w : World) : Prop :=
  w.cell? ⟨b, 0, none⟩ = some (.int .i64 h) ∧ w.frozen? ⟨b + 1, 0, none⟩ = false ∧ b + 2 ≤ w.heap.size ∧ ∃ v, w.cell? ⟨b + 1, 0, none⟩ = some v ∧ w.ownsRow (b + 2) 31 4 v m xs
theorem info_tile : (Try.prog.info? 31).map (fun i => (i.zero, i.size, i.bytes)) = some (some (.agg #[.int .i64 0, .int .i64 0, .int .i64 0, .int .i64 0]), 4, 32) := by kernel_rfl

set_option maxHeartbeats 1000000 in
theorem all_fn (b h l n m : Nat) (xs : List Value) (hh : h ≤ 8) (hh1 : 1 ≤ h) (hl : l ≤ 63) (hn : n ≤ 4611686018427387904) (hf : n / 2 ^ h ≤ 65536) (hm : m ≤ 65536) (w : World) (hs : TS b h m xs w) :
    Calls Try.prog 9 #[.int .i64 l, .int .i64 n, .pointer (some ⟨b, 0, none⟩), .pointer (some ⟨b + 1, 0, none⟩)] w fun e w' =>
      e = .returned (.bool (decide (m + n / 2 ^ h + restN h n ≤ 65536))) ∧ TS b h (m + n / 2 ^ h + restN h n) (xs ++ rowC h l n) w' ∧ Below b w w' := by
  obtain ⟨q, hq⟩ : ∃ q, q = n / 2 ^ h := ⟨_, rfl⟩
  have hdiv : (n : Int) / 2 ^ h = (q : Int) := by rw [hq]; simp
  obtain ⟨P, hP⟩ : ∃ P, P = 2 ^ h := ⟨_, rfl⟩
  have hpow : (2 : Int) ^ h = (P : Int) := by rw [hP]; simp
  have hP2 : P ≤ 256 := by rw [hP]; exact Nat.pow_le_pow_right (by decide) hh
  have hrow : rowC h l n = fullC h l q ++ restC h l n := by unfold rowC; rw [hq]
  have hst := fun i => fullC_step h l i
  rw [← hP] at hst
  have HST := hid hst
  have HROW := hid hrow
  rw [← hq]
  rw [← hq] at hf
  have hRest := fun W => tiles_rest h l n hh hh1 hl hn W
  have hRC : restC h l n = if 0 < n - q * 2 ^ h then tileC h l q (n - q * 2 ^ h) else [] := by unfold restC; rw [hq]
  have hRN : restN h n = if 0 < n - q * 2 ^ h then 1 else 0 := by unfold restN; rw [hq]
  have hrn : restN h n ≤ 1 := by unfold restN; split <;> omega
  rw [← hq] at hRest
  obtain ⟨r, hr⟩ : ∃ r, r = n - q * 2 ^ h := ⟨_, rfl⟩
  rw [← hr] at hRest hRC hRN
  unfold tileC at hRest
  have HRest := hid hRest
  have HRC := hid hRC
  have HRN := hid hRN
  have hrle : r ≤ 4611686018427387904 := by omega
  clear hst hrow hP hRest hr hRC hRN
  have HS := hid hs
  obtain ⟨c0, f1, hsz, v, c1, ho⟩ := hs
  clear ho
  have HPW := hid hpow
  clear hpow hq
  go_enter Try.func9, Try.ntmps9
  go_wp2_with fail
  go_loopw [7, 17] (fun _ i' wr => ∃ i : Nat, i' = .int .i64 i ∧ i ≤ q ∧ TS b h (m + i) (xs ++ fullC h l i) wr ∧ Below b w wr) (fun _ i' _ => (q - intOf i').toNat)
  case atStart => exact ⟨0, rfl, by omega, by simpa [fullC] using HS.out, Below.refl _ _⟩
  case round =>
    clear c0 f1 c1 hsz HS
    obtain ⟨i, rfl, hi, hs, hbw⟩ := hrel
    have HB := hid hbw
    clear hbw
    have HS := hid hs
    obtain ⟨c0, f1, hsz, v, c1, ho⟩ := hs
    have HO := hid ho
    clear ho
    by_cases hlt : i < q
    · have hpow := HPW.out
      have hwP : IntKind.i64.wrap (P : Int) = P := by rw [IntKind.wrap_i64]; omega
      clear hdiv
      go_wp2_with fail
      have d0 : ∀ o, (wr.alloc o).cell? ⟨b, 0, none⟩ = some (.int .i64 h) := fun o => (((Below.refl wr.heap.size wr).alloc (Nat.le_refl _) o).cell (show b < wr.heap.size by omega)).trans c0
      have d1 : ∀ o, (wr.alloc o).cell? ⟨b + 1, 0, none⟩ = some v := fun o => (((Below.refl wr.heap.size wr).alloc (Nat.le_refl _) o).cell (show b + 1 < wr.heap.size by omega)).trans c1
      go_region_law (refine step_appendSd (b + 2) (by rfl) (.tmp 20) (.tmp 27) 22 31 (.agg #[.int .i64 0, .int .i64 0, .int .i64 0, .int .i64 0]) 4 32 (by rfl) Try.underlying22 info_tile rfl (by decide) (by decide) v (m + i) (xs ++ fullC h l i) [.int .i64 h, .int .i64 l, .int .i64 i, .int .i64 P] (by rfl) (by rfl) rfl (tile_one h l i P) (by exact HO.out) hsz (by omega) ?_; intro g cap w1 hown1 hb1; have H1 := hid hown1; have e0 : w1.cell? ⟨b, 0, none⟩ = some (.int .i64 h) := (hb1.cell (show b < b + 2 by omega)).trans c0; have e1 : w1.cell? ⟨b + 1, 0, none⟩ = some v := (hb1.cell (show b + 1 < b + 2 by omega)).trans c1; have g1 : w1.frozen? ⟨b + 1, 0, none⟩ = false := (hb1.frozen (show b + 1 < b + 2 by omega)).trans f1; have HB1 := hid hb1; clear hown1 hb1)
      all_goals
        go_wp2_with fail
        go_roundw
        case rel =>
          refine ⟨i + 1, by go_num, by omega, ⟨?_, ?_, ?_, _, World.cell?_setCell_same _ _ _ e1, ?_⟩, ?_⟩
          · rw [World.cell?_setCell_other _ _ _ _ (by intro e; have := congrArg Addr.block e; simp at this)]; exact e0
          · simpa using g1
          · have := HB1.out.size; simp; omega
          · rw [HST.out i, ← List.append_assoc, ← Nat.add_assoc]
            exact RowKit.ownsRow_setCell_below (a := ⟨b + 1, 0, none⟩) H1.out (show b + 1 < b + 2 by omega) _
          · exact (HB.out.trans (HB1.out.mono (by omega))).setCell (show b ≤ b + 1 by omega) _
        case measure => simp [intOf]; omega
    · obtain rfl : i = q := by omega
      clear hdiv
      go_wp2_with fail
      refine (HRest.out _).mono ?_
      rintro e w2 ⟨rfl, b2⟩
      have f0 : w2.cell? ⟨b, 0, none⟩ = some (.int .i64 h) := (b2.cell (show b < wr.heap.size by omega)).trans c0
      have f2 : w2.cell? ⟨b + 1, 0, none⟩ = some v := (b2.cell (show b + 1 < wr.heap.size by omega)).trans c1
      have f3 : w2.frozen? ⟨b + 1, 0, none⟩ = false := (b2.frozen (show b + 1 < wr.heap.size by omega)).trans f1
      have hsz2 : b + 2 ≤ w2.heap.size := Nat.le_trans hsz b2.size
      have HO2 := hid (HO.out.kept (row := none) ⟨b2.os, b2.tape, b2.output, b2.size, fun k hk _ => b2.block k hk⟩ (by cases v.ownBlock <;> simp))
      have HB2 := hid (HB.out.trans (b2.mono (by omega)))
      clear b2 c0 c1 f1 hsz HO HB
      have k0 : ∀ o, (w2.alloc o).cell? ⟨b, 0, none⟩ = some (.int .i64 h) := fun o => (((Below.refl w2.heap.size w2).alloc (Nat.le_refl _) o).cell (show b < w2.heap.size by omega)).trans f0
      have k1 : ∀ o, (w2.alloc o).cell? ⟨b + 1, 0, none⟩ = some v := fun o => (((Below.refl w2.heap.size w2).alloc (Nat.le_refl _) o).cell (show b + 1 < w2.heap.size by omega)).trans f2
      by_cases hr : 0 < r
      · have hRC : Hid (rowC h l n = fullC h l i ++ [.int .i64 h, .int .i64 l, .int .i64 i, .int .i64 r]) := hid (by rw [HROW.out, HRC.out, if_pos hr]; rfl)
        have hRN : restN h n = 1 := by rw [HRN.out, if_pos hr]
        have hb3 : Hid (Below b w (w2.alloc (.cells #[.int .i64 h, .int .i64 l, .int .i64 i, .int .i64 r] 31))) := hid (HB2.out.alloc (by omega) _)
        go_wp2_with (first
          | (at_builtin; refine wp_appendS (b + 2) rfl (.tmp 38) (.tmp 40) 22 31 (.agg #[.int .i64 0, .int .i64 0, .int .i64 0, .int .i64 0]) 4 32 rfl Try.underlying22 info_tile rfl (by decide) (by decide) v (m + i) (xs ++ fullC h l i) [.int .i64 h, .int .i64 l, .int .i64 i, .int .i64 r] rfl (w2.heap.size + 1) (by simp) rfl rfl (tile_one h l i r) (HO2.out.alloc _) (by simp; omega) (by omega) ?_; intro g cap w1 hown1 hb1; have H1 := hid hown1; have e0 : w1.cell? ⟨b, 0, none⟩ = some (.int .i64 h) := (hb1.cell (show b < b + 2 by omega)).trans (k0 _); have e1 : w1.cell? ⟨b + 1, 0, none⟩ = some v := (hb1.cell (show b + 1 < b + 2 by omega)).trans (k1 _); have g1 : w1.frozen? ⟨b + 1, 0, none⟩ = false := (hb1.frozen (show b + 1 < b + 2 by omega)).trans ((((Below.refl w2.heap.size w2).alloc (Nat.le_refl _) _).frozen (show b + 1 < w2.heap.size by omega)).trans f3); have HB1 := hid hb1; clear hown1 hb1)
          | fail)
        go_ret
        rw [hRN, hRC.out]
        refine ⟨ret_bool (by congr 1; apply propext; omega), ⟨?_, ?_, ?_, _, World.cell?_setCell_same _ _ _ e1, ?_⟩, ?_⟩
        · rw [World.cell?_setCell_other _ _ _ _ (by intro e; have := congrArg Addr.block e; simp at this)]; exact e0
        · simpa using g1
        · have := HB1.out.size; simp at this ⊢; omega
        · rw [← List.append_assoc]
          exact RowKit.ownsRow_setCell_below (a := ⟨b + 1, 0, none⟩) H1.out (show b + 1 < b + 2 by omega) _
        · exact (hb3.out.trans (HB1.out.mono (by omega))).setCell (show b ≤ b + 1 by omega) _
      · have hRC : Hid (rowC h l n = fullC h l i) := hid (by rw [HROW.out, HRC.out, if_neg hr]; simp)
        have hRN : restN h n = 0 := by rw [HRN.out, if_neg hr]
        obtain ⟨ao, cp, rfl⟩ := own_val HO2.out
        go_wp2_with fail
        go_ret
        rw [hRN, hRC.out]
        refine ⟨ret_bool (by congr 1; apply propext; omega), ⟨k0 _, ?_, ?_, _, k1 _, ?_⟩, ?_⟩
        · exact (((Below.refl w2.heap.size w2).alloc (Nat.le_refl _) _).frozen (show b + 1 < w2.heap.size by omega)).trans f3
        · simp; omega
        · exact HO2.out.alloc _
        · exact HB2.out.alloc (by omega) _
end Go.Proofs.Ytaihdnfdikecnaa
