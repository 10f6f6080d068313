/- annalsref2.block: one block, the reference's. -/
import Derived.Test.YtaaldkkfedinpaaDoorShaT
import Derived.Test.YtaaldkkfedinpaaDoorShaR
set_option maxRecDepth 100000
namespace Go.Proofs.YtaaldkkfedinpaaDoor
open Go Go.RowKit

theorem ref_block (s : S8) (hs : s.ok) (g : Nat) (m : List UInt8) (cap p : Nat) (hp : p + 64 ≤ m.length) (hl : m.length ≤ 140737488355328) (w : World) (hr : RowAt w (some ⟨g, 0, none⟩) (bytesV m)) (hg : GlobR w) :
    Calls Tryd.prog 149 #[.agg s.cells.toArray, .slice (some ⟨g, 0, none⟩) m.length cap, .int .i64 p] w fun e w' => e = .returned (.agg (comp s ((m.drop p).take 64)).cells.toArray) ∧ Below w.heap.size w w' := by
  have HWd := hid (fun (W : World) (hW : Below w.heap.size w W) => ref_schedule g m cap p hp hl W (hr.below hW))
  have HS := hid hs
  have HG := hid hg
  clear hs hg hp
  obtain ⟨n, hn⟩ : ∃ n, n = m.length := ⟨_, rfl⟩
  obtain ⟨l, hl⟩ : ∃ l, l = (m.drop p).take 64 := ⟨_, rfl⟩
  rw [← hl] at HWd ⊢
  rw [← hn] at HWd ⊢
  clear hl hr hn
  have Z1 := hid ((Arr.new w 185 s.cells).alloc (.cells (List.replicate 8 (.int .u32 0)).toArray 185))
  have Z2 := hid (Arr.new (w.alloc (.cells s.cells.toArray 185)) 185 (List.replicate 8 (.int .u32 0)))
  have Z3 := hid (((Below.refl w.heap.size w).alloc (Nat.le_refl _) (.cells s.cells.toArray 185)).alloc (by simp) (.cells (List.replicate 8 (.int .u32 0)).toArray 185))
  have hzs : (w.alloc (.cells s.cells.toArray 185)).heap.size = w.heap.size + 1 := by simp
  rw [hzs] at Z2
  clear hzs
  unfold S8.cells
  go_enter Tryd.func149, Tryd.ntmps149
  go_wp2_with fail
  refine (HWd.out _ Z3.out).mono ?_
  rintro e w1 ⟨rfl, hb1⟩
  have hz1 := hb1.size
  simp at hz1
  have HA1 := hid (Z1.out.below hb1)
  have HR1 := hid (Z2.out.below hb1)
  have HB1 := hid (Z3.out.trans (hb1.mono Z3.out.size))
  have HG1 := hid (HG.out.below HB1.out)
  have hst := run_words w1 l
  have A0 := HA1.out.cell 0 (by simp [S8.cells])
  have A1 := HA1.out.cell 1 (by simp [S8.cells])
  have A2 := HA1.out.cell 2 (by simp [S8.cells])
  have A3 := HA1.out.cell 3 (by simp [S8.cells])
  have A4 := HA1.out.cell 4 (by simp [S8.cells])
  have A5 := HA1.out.cell 5 (by simp [S8.cells])
  have A6 := HA1.out.cell 6 (by simp [S8.cells])
  have A7 := HA1.out.cell 7 (by simp [S8.cells])
  simp [S8.cells] at A0 A1 A2 A3 A4 A5 A6 A7
  have hbl1 : w.heap.size < w1.heap.size := by omega
  have hne1 : ¬ w.heap.size = w1.heap.size := by omega
  have hne2 : ¬ w.heap.size = w1.heap.size + 1 := by omega
  clear hb1 HG HWd Z1 Z2 Z3
  go_wp2_with fail
  have ZW := hid ((Arr.new w1 195 (wcs l 64)).alloc (.cells s.cells.toArray 185))
  have ZV := hid (Arr.new (w1.alloc (.cells (wcs l 64).toArray 195)) 185 s.cells)
  have ZB := hid (((Below.refl w1.heap.size w1).alloc (Nat.le_refl _) (.cells (wcs l 64).toArray 195)).alloc (by simp) (.cells s.cells.toArray 185))
  have hzs : (w1.alloc (.cells (wcs l 64).toArray 195)).heap.size = w1.heap.size + 1 := by simp
  rw [hzs] at ZV
  clear hzs A0 A1 A2 A3 A4 A5 A6 A7 hst
  go_loopw [9] (fun i wr => ∃ k : Nat, k ≤ 64 ∧ i = .int .i64 k ∧ Arr w1.heap.size 195 (wcs l 64) wr ∧ Arr (w1.heap.size + 1) 185 (rnds l s k).cells wr ∧ Below w1.heap.size w1 wr) (fun i _ => 64 - (intOf i).toNat)
  case atStart => exact ⟨0, by omega, rfl, ZW.out, ZV.out, ZB.out⟩
  case round =>
    obtain ⟨k, hk, rfl, hA, hR, hB⟩ := hrel
    clear ZW ZV ZB
    by_cases hlt : k < 64
    · have hok := rnds_ok l HS.out k
      have hw := hA.cell k (by rw [wcs_length]; omega)
      rw [wcs_get _ _ _ hlt, if_pos hlt] at hw
      have hg := (HG1.out.below hB).2 k hlt
      have V0 := hR.cell 0 (by simp [S8.cells])
      have V1 := hR.cell 1 (by simp [S8.cells])
      have V2 := hR.cell 2 (by simp [S8.cells])
      have V3 := hR.cell 3 (by simp [S8.cells])
      have V4 := hR.cell 4 (by simp [S8.cells])
      have V5 := hR.cell 5 (by simp [S8.cells])
      have V6 := hR.cell 6 (by simp [S8.cells])
      have V7 := hR.cell 7 (by simp [S8.cells])
      have F0 := hR.frozen 0
      have F1 := hR.frozen 1
      have F2 := hR.frozen 2
      have F3 := hR.frozen 3
      have F4 := hR.frozen 4
      have F5 := hR.frozen 5
      have F6 := hR.frozen 6
      have F7 := hR.frozen 7
      have HA := hid hA; have HR := hid hR; have HB := hid hB
      clear hA hR hB
      have HN : Hid (rnds l s (k + 1) = rnd (rnds l s k) (KT.getD k 0) (sch l k)) := rfl
      obtain ⟨y, hy⟩ : ∃ y, y = KT.getD k 0 := ⟨_, rfl⟩
      obtain ⟨x, hx⟩ : ∃ x, x = sch l k := ⟨_, rfl⟩
      rw [← hy] at hg HN
      rw [← hx] at hw HN
      obtain ⟨r, hr⟩ : ∃ r, r = rnds l s k := ⟨_, rfl⟩
      rw [← hr] at V0 V1 V2 V3 V4 V5 V6 V7 HR HN hok
      clear hy hx hr
      obtain ⟨ra, rb, rc, rd, re, rf, rg, rh⟩ := r
      simp [S8.cells] at V0 V1 V2 V3 V4 V5 V6 V7
      obtain ⟨ha1, ha2⟩ := hok.a
      obtain ⟨he1, he2⟩ := hok.e
      simp only at ha1 ha2 he1 he2
      clear hok
      have HT := hid rotr_any
      go_wp2_with fail
      go_quiet ((go_at_call 156; exact q_one (HT.out _ _ (by decide) (by assumption) (by assumption) _)))
      go_wp2_with fail
      go_quiet ((go_at_call 156; exact q_add (HT.out _ _ (by decide) (by assumption) (by assumption) _)))
      go_wp2_with fail
      go_roundw
      case rel =>
        refine ⟨k + 1, by omega, by go_num, ?_, ?_, ?_⟩
        · exact ((((((((HA.out.drewN _).other _ (by simp) _).other _ (by simp) _).other _ (by simp) _).other _ (by simp) _).other _ (by simp) _).other _ (by simp) _).other _ (by simp) _).other _ (by simp) _
        · rw [HN.out]
          exact arr8 (HR.out.drewN _) rfl _ _ _ _ _ _ _ _
        · exact (((((((((below_drewN HB.out _).setCell (by simp) _).setCell (by simp) _).setCell (by simp) _).setCell (by simp) _).setCell (by simp) _).setCell (by simp) _).setCell (by simp) _).setCell (by simp) _)
      case measure => simp [intOf]; omega
    · obtain rfl : k = 64 := by omega
      have HA := hid hA; have HR := hid hR; have HB := hid hB
      have HBW := hid (HB1.out.trans (hB.mono HB1.out.size))
      have HA2 := hid (HA1.out.below hB)
      have HR2 := hid (HR1.out.below hB)
      have hzr := hB.size
      clear hA hR hB hk hlt HA1 HG1 HB1 HR1
      go_wp2_with fail
      have hsm := hid (comp_mix s l)
      have hmx := hid (mixC_zero s (rnds l s 64))
      go_loopw [14] (fun i w2 => ∃ k : Nat, k ≤ 8 ∧ i = .int .i64 k ∧ Arr w.heap.size 185 (mixC s (rnds l s 64) k) w2 ∧ Arr (w1.heap.size + 1) 185 (rnds l s 64).cells w2 ∧ Arr (w.heap.size + 1) 185 (List.replicate 8 (.int .u32 0)) w2 ∧ Below w.heap.size w w2) (fun i _ => 8 - (intOf i).toNat)
      case atStart => exact ⟨0, by omega, rfl, by rw [hmx.out]; exact HA2.out, HR.out, HR2.out, HBW.out⟩
      case round =>
        clear HA HR HB HBW HA2 HR2
        obtain ⟨k, hk, rfl, hA, hR, hZ, hG⟩ := hrel
        by_cases hlt : k < 8
        · have hc := hA.cell k (by simp [mixC_length]; omega)
          rw [mixC_get _ _ _ _ hlt, if_neg (by omega)] at hc
          have hv := hR.cell k (by rw [cells_length]; exact hlt)
          rw [cells_get] at hv
          have hf := hA.frozen k
          have hN := hid (hA.set k (.int .u32 ((s.nums.getD k 0 + (rnds l s 64).nums.getD k 0) % 4294967296)))
          rw [mixC_set] at hN
          have HR := hid hR; have HGB := hid hG; have HZ := hid hZ
          clear hA hR hG hZ
          obtain ⟨x, hx⟩ : ∃ x, x = s.nums.getD k 0 := ⟨_, rfl⟩
          obtain ⟨y, hy⟩ : ∃ y, y = (rnds l s 64).nums.getD k 0 := ⟨_, rfl⟩
          rw [← hx] at hc hN
          rw [← hy] at hv hN
          clear hx hy
          have i1 : (0 : Int) ≤ (k : Int) := by omega
          have i2 : (k : Int) < 8 := by omega
          go_wp2_with fail
          go_region
          go_wp2_with fail
          go_roundw
          case rel => exact ⟨k + 1, by omega, by go_num, hN.out.drew, (HR.out.other _ (by simp; omega) _).drew, (HZ.out.other _ (by simp) _).drew, (HGB.out.setCell (by simp) _).drew⟩
          case measure => simp [intOf]; omega
        · obtain rfl : k = 8 := by omega
          rw [hsm.out] at hA
          have HZ := hid hZ
          have HA := hid hA; have HG := hid hG
          have A0 := HA.out.cell 0 (by simp [S8.cells])
          have A1 := HA.out.cell 1 (by simp [S8.cells])
          have A2 := HA.out.cell 2 (by simp [S8.cells])
          have A3 := HA.out.cell 3 (by simp [S8.cells])
          have A4 := HA.out.cell 4 (by simp [S8.cells])
          have A5 := HA.out.cell 5 (by simp [S8.cells])
          have A6 := HA.out.cell 6 (by simp [S8.cells])
          have A7 := HA.out.cell 7 (by simp [S8.cells])
          clear hA hG hR hk hlt hZ hsm hmx HA
          obtain ⟨r, hr⟩ : ∃ r, r = comp s l := ⟨_, rfl⟩
          rw [← hr] at A0 A1 A2 A3 A4 A5 A6 A7
          have HRR := hid hr
          clear hr
          obtain ⟨ra, rb, rc, rd, re, rf, rg, rh⟩ := r
          simp [S8.cells] at A0 A1 A2 A3 A4 A5 A6 A7
          have F0 := HZ.out.frozen 0
          have F1 := HZ.out.frozen 1
          have F2 := HZ.out.frozen 2
          have F3 := HZ.out.frozen 3
          have F4 := HZ.out.frozen 4
          have F5 := HZ.out.frozen 5
          have F6 := HZ.out.frozen 6
          have F7 := HZ.out.frozen 7
          have G0 := HZ.out.cell 0 (by simp)
          have G1 := HZ.out.cell 1 (by simp)
          have G2 := HZ.out.cell 2 (by simp)
          have G3 := HZ.out.cell 3 (by simp)
          have G4 := HZ.out.cell 4 (by simp)
          have G5 := HZ.out.cell 5 (by simp)
          have G6 := HZ.out.cell 6 (by simp)
          have G7 := HZ.out.cell 7 (by simp)
          simp at G0 G1 G2 G3 G4 G5 G6 G7
          go_wp2_with fail
          exact bodyPost_ret (v := .agg #[.int .u32 ra, .int .u32 rb, .int .u32 rc, .int .u32 rd, .int .u32 re, .int .u32 rf, .int .u32 rg, .int .u32 rh]) (results_cell_row rfl _ _ (w.heap.size + 1) 185 #[.int .u32 ra, .int .u32 rb, .int .u32 rc, .int .u32 rd, .int .u32 re, .int .u32 rf, .int .u32 rg, .int .u32 rh] (0, 0) _ rfl (arr8 HZ.out (by simp) _ _ _ _ _ _ _ _) Tryd.underlying185 rfl (by kernel_rfl)) rfl ⟨by rw [← HRR.out], (((((((((HG.out).setCell (by simp) _).setCell (by simp) _).setCell (by simp) _).setCell (by simp) _).setCell (by simp) _).setCell (by simp) _).setCell (by simp) _).setCell (by simp) _)⟩
end Go.Proofs.YtaaldkkfedinpaaDoor
