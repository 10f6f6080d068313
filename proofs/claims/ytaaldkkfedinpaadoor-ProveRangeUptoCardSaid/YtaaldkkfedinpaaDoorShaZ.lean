/- annalsref2.Sum, Cut: the reference's hash is the same. -/
import Derived.Test.YtaaldkkfedinpaaDoorShaQ
import Derived.Deep.RegionHeld3
set_option maxRecDepth 100000
namespace Go.Proofs.YtaaldkkfedinpaaDoor
open Go Go.RowKit

theorem ref_Width (k : Int) (w : World) : Calls Tryd.prog 94 #[.int .i64 k] w fun e w' => e = .returned (.int .i64 (wid k)) ∧ w = w' := by
  by_cases h1 : k < 1
  · have hw := hid (show wid k = 32 by unfold wid; rw [if_pos (.inl h1)])
    go_enter Tryd.func94, Tryd.ntmps94
    go_wp2_with fail
    go_ret
    exact ⟨ret_int (by rw [hw.out]; rfl), rfl⟩
  · by_cases h2 : 32 < k
    · have hw := hid (show wid k = 32 by unfold wid; rw [if_pos (.inr h2)])
      go_enter Tryd.func94, Tryd.ntmps94
      go_wp2_with fail
      go_ret
      exact ⟨ret_int (by rw [hw.out]; rfl), rfl⟩
    · have hw := hid (show wid k = k.toNat by unfold wid; rw [if_neg (by omega)])
      go_enter Tryd.func94, Tryd.ntmps94
      go_wp2_with fail
      go_ret
      exact ⟨ret_int (by rw [hw.out]; omega), rfl⟩

/-- n blocks of a text, one behind the other. -/
def runN (s : S8) (l : List UInt8) : Nat → S8
  | 0 => s
  | k + 1 => comp (runN s l k) ((l.drop (64 * k)).take 64)
theorem runN_ok {s : S8} (h : s.ok) (l : List UInt8) (k : Nat) : (runN s l k).ok := by
  cases k with
  | zero => exact h
  | succ k => exact comp_ok _ _
theorem runN_next (s : S8) (l : List UInt8) (k : Nat) : runN (comp s (l.take 64)) (l.drop 64) k = runN s l (k + 1) := by
  induction k with
  | zero => simp [runN]
  | succ k ih =>
    rw [runN, ih, runN, List.drop_drop, show 64 + 64 * k = 64 * (k + 1) by omega]
    rfl
theorem runN_all (k : Nat) : ∀ (s : S8) (l : List UInt8), l.length = 64 * k → runN s l k = (runB s l).1 := by
  induction k with
  | zero => intro s l h; rw [runB_less s l (by omega)]; rfl
  | succ k ih =>
    intro s l h
    rw [runB_more s l (by omega), ← ih _ _ (by simp; omega), runN_next]

theorem ref_Sum (t : ByteArray) (ht : t.size ≤ 140737488355328 - 200) (w : World) (hg : GlobR w) :
    Calls Tryd.prog 138 #[.string t] w fun e w' => e = .returned (.string ⟨(shaL t.data.toList).toArray⟩) ∧ Below w.heap.size w w' := by
  have HP := hid (ref_padded t ht w)
  have hlen : (t.data.toList ++ padT t.size).length % 64 = 0 := by
    have := padT_all t.size
    rw [List.length_append]; simpa using this
  have hlen2 : (t.data.toList ++ padT t.size).length ≤ 140737488355328 := by
    have : padZ t.size < 64 := Nat.mod_lt _ (by omega)
    rw [List.length_append, padT_length]; simp; omega
  have HE : Hid (shaL t.data.toList = txt (runB S0 (t.data.toList ++ padT t.size)).1) := by unfold Hid shaL; simp
  have hg0 := hg
  clear hg ht
  obtain ⟨m, hm⟩ : ∃ m, m = t.data.toList ++ padT t.size := ⟨_, rfl⟩
  rw [← hm] at HP hlen hlen2 HE
  clear hm
  have HG := hid hg0
  clear hg0
  go_enter Tryd.func138, Tryd.ntmps138
  go_wp2_with fail
  refine (HP.out).mono ?_
  rintro e w1 ⟨v, rfl, hq, hb1⟩
  obtain ⟨g, cap, hv, hgb, hrow⟩ := hq.cells
  rw [bytesV_length] at hv
  subst hv
  have HR := hid hrow
  have B1 := hid hb1
  have HG1 := HG.out.below hb1
  have G0 := HG1.1 0 (by omega)
  have G1 := HG1.1 1 (by omega)
  have G2 := HG1.1 2 (by omega)
  have G3 := HG1.1 3 (by omega)
  have G4 := HG1.1 4 (by omega)
  have G5 := HG1.1 5 (by omega)
  have G6 := HG1.1 6 (by omega)
  have G7 := HG1.1 7 (by omega)
  have HG2 := hid HG1
  clear HG1 HG HP hq hrow hb1
  generalize hS : S0 = s at *
  have e0 : HB.getD 0 0 = s.a := by rw [← hS]; rfl
  have e1 : HB.getD 1 0 = s.b := by rw [← hS]; rfl
  have e2 : HB.getD 2 0 = s.c := by rw [← hS]; rfl
  have e3 : HB.getD 3 0 = s.d := by rw [← hS]; rfl
  have e4 : HB.getD 4 0 = s.e := by rw [← hS]; rfl
  have e5 : HB.getD 5 0 = s.f := by rw [← hS]; rfl
  have e6 : HB.getD 6 0 = s.g := by rw [← hS]; rfl
  have e7 : HB.getD 7 0 = s.h := by rw [← hS]; rfl
  rw [e0] at G0
  rw [e1] at G1
  rw [e2] at G2
  rw [e3] at G3
  rw [e4] at G4
  rw [e5] at G5
  rw [e6] at G6
  rw [e7] at G7
  have HSok : Hid s.ok := by rw [← hS]; exact S0_ok
  clear e0 e1 e2 e3 e4 e5 e6 e7 hS
  go_wp2_with fail
  have ZA := hid (Arr.new w1 185 s.cells)
  have ZB := hid ((Below.refl w1.heap.size w1).alloc (Nat.le_refl _) (.cells s.cells.toArray 185))
  have HLN := hid hlen
  clear G0 G1 G2 G3 G4 G5 G6 G7 hlen
  go_loopw [5] (fun i wr => ∃ k p : Nat, i = .int .i64 p ∧ p = 64 * k ∧ p ≤ m.length ∧ Arr w1.heap.size 185 (runN s m k).cells wr ∧ Below w1.heap.size w1 wr) (fun i _ => m.length - (intOf i).toNat)
  case atStart => exact ⟨0, 0, rfl, rfl, by omega, ZA.out, ZB.out⟩
  case round =>
    clear ZA ZB
    obtain ⟨k, p, rfl, hpk, hp, hA, hB⟩ := hrel
    have HPK := hid hpk
    have HA := hid hA
    have HBw := hid hB
    by_cases hlt : p < m.length
    · have hp64 : p + 64 ≤ m.length := by have := HLN.out; omega
      have hblk := ref_block (runN s m k) (runN_ok HSok.out m k) g m cap p hp64 hlen2 wr (HR.out.below hB) (HG2.out.below hB)
      have hcomp : comp (runN s m k) ((m.drop p).take 64) = runN s m (k + 1) := by rw [hpk]; rfl
      rw [hcomp] at hblk
      obtain ⟨r', hr'⟩ : ∃ r', r' = runN s m (k + 1) := ⟨_, rfl⟩
      have A0 := hA.cell 0 (by simp [S8.cells])
      have A1 := hA.cell 1 (by simp [S8.cells])
      have A2 := hA.cell 2 (by simp [S8.cells])
      have A3 := hA.cell 3 (by simp [S8.cells])
      have A4 := hA.cell 4 (by simp [S8.cells])
      have A5 := hA.cell 5 (by simp [S8.cells])
      have A6 := hA.cell 6 (by simp [S8.cells])
      have A7 := hA.cell 7 (by simp [S8.cells])
      obtain ⟨r, hr⟩ : ∃ r, r = runN s m k := ⟨_, rfl⟩
      rw [← hr] at A0 A1 A2 A3 A4 A5 A6 A7
      rw [← hr, ← hr'] at hblk
      have HR' := hid hr'
      clear hr hr' hcomp hpk hA hB
      obtain ⟨ra, rb, rc, rd, re, rf, rg, rh⟩ := r
      obtain ⟨qa, qb, qc, qd, qe, qf, qg, qh⟩ := r'
      simp [S8.cells] at A0 A1 A2 A3 A4 A5 A6 A7
      simp only [S8.cells] at hblk
      have HBK := hid hblk
      clear hblk
      go_wp2_with fail
      refine (HBK.out).mono ?_
      rintro e w2 ⟨rfl, hb2⟩
      have HA2 := hid (HA.out.below hb2)
      have HB2 := hid (HBw.out.trans (hb2.mono HBw.out.size))
      have F0 := HA2.out.frozen 0
      have F1 := HA2.out.frozen 1
      have F2 := HA2.out.frozen 2
      have F3 := HA2.out.frozen 3
      have F4 := HA2.out.frozen 4
      have F5 := HA2.out.frozen 5
      have F6 := HA2.out.frozen 6
      have F7 := HA2.out.frozen 7
      have G0 := (HA2.out.cell 0 (by simp [S8.cells]))
      have G1 := (HA2.out.cell 1 (by simp [S8.cells]))
      have G2 := (HA2.out.cell 2 (by simp [S8.cells]))
      have G3 := (HA2.out.cell 3 (by simp [S8.cells]))
      have G4 := (HA2.out.cell 4 (by simp [S8.cells]))
      have G5 := (HA2.out.cell 5 (by simp [S8.cells]))
      have G6 := (HA2.out.cell 6 (by simp [S8.cells]))
      have G7 := (HA2.out.cell 7 (by simp [S8.cells]))
      clear hb2 A0 A1 A2 A3 A4 A5 A6 A7
      go_wp2_with fail
      go_roundw
      case rel =>
        refine ⟨k + 1, p + 64, by go_num, by have := HPK.out; omega, hp64, ?_, ((((((((HB2.out.setCell (by simp) _).setCell (by simp) _).setCell (by simp) _).setCell (by simp) _).setCell (by simp) _).setCell (by simp) _).setCell (by simp) _).setCell (by simp) _)⟩
        rw [← HR'.out]
        exact arr8 HA2.out rfl _ _ _ _ _ _ _ _
      case measure => simp [intOf]; omega
    · have hpe : 64 * k = m.length := by omega
      have hrn := runN_all k s m hpe.symm
      rw [hrn] at hA
      have HAR := hid hA
      have HOK : Hid (runB s m).1.ok := runB_ok _ _ _ (Nat.le_refl _) HSok.out
      have hBf := hid (Below.then' B1.out hB)
      have hsz1 := hA.lt
      obtain ⟨i0, hi, hz0, hz1, hz2⟩ := info_parts info_byte
      have HI := hid (And.intro hi (And.intro hz0 (And.intro hz1 hz2)))
      clear hi hz0 hz1 hz2 hpe hrn hA hB HA HPK hpk
      obtain ⟨r, hr⟩ : ∃ r, r = (runB s m).1 := ⟨_, rfl⟩
      rw [← hr] at HAR HOK HE
      clear hr
      go_wp2_with fail
      go_loopw [6, 7] (fun b' i w2 => ∃ k : Nat, k ≤ 8 ∧ i = .int .i64 k ∧ w2.ownsRow (w1.heap.size + 1) 5 1 b' (bytesV (txtP r k)).length (bytesV (txtP r k)) ∧ Arr w1.heap.size 185 r.cells w2 ∧ Below w.heap.size w w2) (fun _ i _ => 8 - (intOf i).toNat)
      case atStart => exact ⟨0, by omega, rfl, World.ownsRow_nil _ _ _ _, HAR.out, hBf.out⟩
      case round =>
        clear HAR hBf hsz1
        obtain ⟨k, hk, rfl, hown, hA, hB⟩ := hrel
        by_cases hlt : k < 8
        · have hc := hA.cell k (by rw [cells_length]; exact hlt)
          rw [cells_get] at hc
          have hu := S8.num_ok HOK.out k
          obtain ⟨x, hx⟩ := Int.eq_ofNat_of_zero_le hu.1
          have hx2 := hu.2
          rw [hx] at hc hx2
          have HT : Hid (bytesV (txtP r (k + 1)) = bytesV (txtP r k) ++ [.int .u8 ((x : Int) / 16777216 % 256), .int .u8 ((x : Int) / 65536 % 256), .int .u8 ((x : Int) / 256 % 256), .int .u8 ((x : Int) % 256)]) := by
            unfold Hid
            show bytesV (txtP r k ++ be _ 4) = _
            rw [hx, bytesV_append]
            congr 1
            simp [be, beP, bytesV, List.range_succ]
          have hL : (bytesV (txtP r k)).length = 4 * k := by rw [bytesV_length, txtP_length]
          have HO := hid hown
          have HA := hid hA
          have HB := hid hB
          have hsz2 := hA.lt
          have hln : (bytesV (txtP r k)).length + 4 ≤ 140737488355328 := by omega
          have hne := World.new_ne wr _ hc
          clear hown hA hB hu hx hL
          have i1 : (0 : Int) ≤ (k : Int) := by omega
          have i2 : (k : Int) < 8 := by omega
          go_wp2_with fail
          go_region_held3 (fun w' => w'.cell? ⟨w1.heap.size, k, none⟩ = some (.int .u32 (x : Int))) (first | go_keep | exact hcN)
            ((refine step_append_lies _ (by rfl) (.tmp 25) (.tmp 45) 137 (by rfl) (w1.heap.size + 1) 5 i0 (.int .u8 0) 1 1 Tryd.underlying137 HI.out.1 HI.out.2.1 HI.out.2.2.1 HI.out.2.2.2 rfl (by decide) _ _ _ (by rfl) (HO.out.alloc _) ⟨wr.heap.size, 0, none⟩ 4 4 [.int .u8 ((x : Int) / 16777216 % 256), .int .u8 ((x : Int) / 65536 % 256), .int .u8 ((x : Int) / 256 % 256), .int .u8 ((x : Int) % 256)] (by rfl) rfl (World.news_of_block (heap_alloc_new _ _)) (by simp [Value.oneCell']) (by decide) (by unfold maxLen; omega) (by omega) (by simp; omega) (wr.heap.size + 1) (by simp) ?_; intro g2 cap2 w3 hown3 hg3 hat3 hlt3; have hgk : w3.heap[w1.heap.size]? = wr.heap[w1.heap.size]? := (hg3.block _ (by simp; omega) (fun e => by have := (HO.out.lt _ e.symm).1; omega)).trans (Below.heap_alloc wr _ _ hsz2); have hcN : w3.cell? ⟨w1.heap.size, k, none⟩ = some (.int .u32 (x : Int)) := (World.cell?_of_block (w := wr) hgk).trans hc; have HGK := hid hgk; clear hgk; have H3 := hid hown3; have HG3 := hid hg3; clear hown3 hg3 hat3 hlt3))
          go_wp2_with fail
          go_roundw
          case rel =>
            refine ⟨k + 1, by omega, by go_num, ?_, ?_, ?_⟩
            · rw [HT.out, List.length_append]; exact H3.out
            · unfold Arr; rw [HGK.out]; exact HA.out
            · exact ((HB.out.alloc HB.out.size _).drew).grown HG3.out (by have := HB.out.size; simp; omega) (fun j hj => by have := (HO.out.lt j hj).1; have := B1.out.size; omega)
          case measure => simp [intOf]; omega
        · obtain rfl : k = 8 := by omega
          have hconv := conv_own (dst := 9) Tryd.underlying137 Tryd.underlying5 Tryd.underlying9 hown
          have HB := hid hB
          clear hown hA hB
          go_wp2_with fail
          go_ret
          exact ⟨ret_str (by rw [HE.out]; rfl), HB.out⟩

theorem ref_Cut (t : ByteArray) (ht : t.size ≤ 140737488355328 - 200) (k : Int) (w : World) (hg : GlobR w) :
    Calls Tryd.prog 120 #[.string t, .int .i64 k] w fun e w' => e = .returned (.string (cutS t.data.toList k)) ∧ Below w.heap.size w w' := by
  have HS := hid (ref_Sum t ht w hg)
  have HW := hid (ref_Width k)
  have hsz : (⟨(shaL t.data.toList).toArray⟩ : ByteArray).size = 32 := by rw [str_size, shaL_length]
  obtain ⟨h, hh⟩ : ∃ h : ByteArray, h = ⟨(shaL t.data.toList).toArray⟩ := ⟨_, rfl⟩
  have HC := cut_str t.data.toList k (wid k) rfl
  rw [← hh] at HS hsz HC
  have hw := wid_le k
  obtain ⟨n, hn⟩ : ∃ n, n = wid k := ⟨_, rfl⟩
  rw [← hn] at HC HW hw
  have hx := hid HC
  have hsl : ∀ W, (Instr.slice 9 (.string h) none (some (.int .i64 n)) none).run Tryd.prog W = .ok (.string (h.extract 0 n)) W := fun W => by
    have := slice_to (P := Tryd.prog) W 9 h .i64 (n : Int) Tryd.underlying9 (by omega) (by omega)
    rwa [Int.toNat_natCast] at this
  clear hg hh hn HC hsz
  go_enter Tryd.func120, Tryd.ntmps120
  go_wp2_with fail
  refine (HS.out).mono ?_
  rintro e w1 ⟨rfl, hb1⟩
  have B1 := hid hb1
  clear hb1
  go_wp2_with fail
  refine (HW.out _).mono ?_
  rintro e w2 ⟨rfl, rfl⟩
  go_wp2_with fail
  go_ret
  exact ⟨ret_str hx.out, B1.out⟩
end Go.Proofs.YtaaldkkfedinpaaDoor
