/- (*sha.state).take: one block. -/
import Derived.Test.YtaaldkkfedinpaaDoorShaA
import Derived.Lib.BufferOwn
set_option maxRecDepth 100000
namespace Go.Proofs.YtaaldkkfedinpaaDoor
open Go Go.RowKit

theorem grown_of {w w' : World} (h : Below w.heap.size w w') (r : Option Nat) : w.grownBy w' r := ⟨h.os, h.tape, h.output, h.size, fun k hk _ => h.block k hk⟩

theorem q_add {P : Program} {f : FuncId} {args : Array Value} {w : World} {a n : Nat} {v : Value} (h : Calls P f args (w.drewN (a + n)) fun e w' => e = .returned v ∧ w.drewN (a + n) = w') :
    Calls P f args (w.drewN (a + n)) fun e w'' => e = .returned v ∧ ∃ m, w'' = w.drewN (a + m) := h.mono fun _ _ ⟨he, hm⟩ => ⟨he, n, hm.symm⟩
theorem q_one {P : Program} {f : FuncId} {args : Array Value} {w : World} {n : Nat} {v : Value} (h : Calls P f args (w.drewN n) fun e w' => e = .returned v ∧ w.drewN n = w') :
    Calls P f args (w.drewN n) fun e w'' => e = .returned v ∧ ∃ m, w'' = w.drewN m := h.mono fun _ _ ⟨he, hm⟩ => ⟨he, n, hm.symm⟩
theorem run_words (w : World) (l : List UInt8) : (storeCells ⟨w.heap.size, 0, none⟩ (wcs l 64)).run Tryd.prog (w.alloc (.cells #[.int .u32 0, .int .u32 0, .int .u32 0, .int .u32 0, .int .u32 0, .int .u32 0, .int .u32 0, .int .u32 0, .int .u32 0, .int .u32 0, .int .u32 0, .int .u32 0, .int .u32 0, .int .u32 0, .int .u32 0, .int .u32 0, .int .u32 0, .int .u32 0, .int .u32 0, .int .u32 0, .int .u32 0, .int .u32 0, .int .u32 0, .int .u32 0, .int .u32 0, .int .u32 0, .int .u32 0, .int .u32 0, .int .u32 0, .int .u32 0, .int .u32 0, .int .u32 0, .int .u32 0, .int .u32 0, .int .u32 0, .int .u32 0, .int .u32 0, .int .u32 0, .int .u32 0, .int .u32 0, .int .u32 0, .int .u32 0, .int .u32 0, .int .u32 0, .int .u32 0, .int .u32 0, .int .u32 0, .int .u32 0, .int .u32 0, .int .u32 0, .int .u32 0, .int .u32 0, .int .u32 0, .int .u32 0, .int .u32 0, .int .u32 0, .int .u32 0, .int .u32 0, .int .u32 0, .int .u32 0, .int .u32 0, .int .u32 0, .int .u32 0, .int .u32 0] 195)) = .ok () (w.alloc (.cells (wcs l 64).toArray 195)) := by
  have h := run_storeCells_new (P := Tryd.prog) w 195 (List.replicate 64 (.int .u32 0)).toArray (wcs l 64).toArray (by rw [List.size_toArray, wcs_length]; kernel_rfl) (by simp [wcs_length]) (wcs_one l 64)
  exact h
theorem grown_set {w0 w : World} {b : Nat} (h : w0.grownBy w (some b)) (j : Nat) (v : Value) : w0.grownBy (w.setCell ⟨b, j, none⟩ v) (some b) :=
  Go.Lib.grownBy_trans h ⟨rfl, rfl, rfl, by simp, fun k _ hk => Below.heap_setCell w ⟨b, j, none⟩ v k (fun e => hk (by rw [e]))⟩
theorem grown_drew {w0 w : World} {r : Option Nat} (h : w0.grownBy w r) : w0.grownBy w.drew r := ⟨h.os, h.tape, h.output, h.size, h.block⟩
theorem comp_mix (s : S8) (l : List UInt8) : mixC s (rnds l s 64) 8 = (comp s l).cells := rfl
theorem sha_take (b : Nat) (ty : TypeId) (s : S8) (hs : s.ok) (tl : List Value) (blk : ByteArray) (hsz : blk.size = 64) (w : World) (h : Arr b ty (s.cells ++ tl) w) (hg : GlobP w) :
    Calls Tryd.prog 158 #[.pointer (some ⟨b, 0, none⟩), .string blk] w fun e w' => e = .returned (.tuple #[]) ∧ Arr b ty ((comp s blk.data.toList).cells ++ tl) w' ∧ w.grownBy w' (some b) := by
  have HWd := hid (sha_words blk hsz w)
  have HA := hid h
  have HS := hid hs
  have HG := hid hg
  have hbl := h.lt
  clear h hs hg hsz
  obtain ⟨l, hl⟩ : ∃ l, l = blk.data.toList := ⟨_, rfl⟩
  rw [← hl] at HWd ⊢
  clear hl
  go_enter Tryd.func158, Tryd.ntmps158
  go_wp2_with fail
  refine (HWd.out).mono ?_
  rintro e w1 ⟨rfl, hb1⟩
  have hz1 := hb1.size
  have HA1 := hid (HA.out.below hb1)
  have HG1 := hid (HG.out.below hb1)
  have HB1 := hid hb1
  have hm1 := hid (wcs_one l 64)
  have A0 := HA1.out.cell 0 (by simp [S8.cells])
  have A1 := HA1.out.cell 1 (by simp [S8.cells])
  have A2 := HA1.out.cell 2 (by simp [S8.cells])
  have A3 := HA1.out.cell 3 (by simp [S8.cells])
  have A4 := HA1.out.cell 4 (by simp [S8.cells])
  have A5 := HA1.out.cell 5 (by simp [S8.cells])
  have A6 := HA1.out.cell 6 (by simp [S8.cells])
  have A7 := HA1.out.cell 7 (by simp [S8.cells])
  simp [S8.cells] at A0 A1 A2 A3 A4 A5 A6 A7
  clear hb1 HA HG HWd
  have hst := run_words w1 l
  have hbl1 : b < w1.heap.size := by omega
  have hne1 : ¬ b = w1.heap.size := by omega
  have hne2 : ¬ b = w1.heap.size + 1 := by omega
  go_wp2_with fail
  have ZW := hid ((Arr.new w1 195 (wcs l 64)).alloc (.cells s.cells.toArray 198))
  have ZV := hid (Arr.new (w1.alloc (.cells (wcs l 64).toArray 195)) 198 s.cells)
  have ZB := hid (((Below.refl w1.heap.size w1).alloc (Nat.le_refl _) (.cells (wcs l 64).toArray 195)).alloc (by simp) (.cells s.cells.toArray 198))
  have hzs : (w1.alloc (.cells (wcs l 64).toArray 195)).heap.size = w1.heap.size + 1 := by simp
  rw [hzs] at ZV
  clear hzs A0 A1 A2 A3 A4 A5 A6 A7 hst hm1
  go_loopw [17] (fun i wr => ∃ k : Nat, k ≤ 64 ∧ i = .int .i64 k ∧ Arr w1.heap.size 195 (wcs l 64) wr ∧ Arr (w1.heap.size + 1) 198 (rnds l s k).cells wr ∧ Below w1.heap.size w1 wr) (fun i _ => 64 - (intOf i).toNat)
  case atStart => exact ⟨0, by omega, rfl, ZW.out, ZV.out, ZB.out⟩
  case round =>
    obtain ⟨k, hk, rfl, hA, hR, hB⟩ := hrel
    clear ZW ZV ZB
    by_cases hlt : k < 64
    · have hok := rnds_ok l HS.out k
      have hw := hA.cell k (by rw [wcs_length]; omega)
      rw [wcs_get _ _ _ hlt, if_pos hlt] at hw
      have hg := (HG1.out.below hB).2 k hlt
      have V0 := hR.cell 0 (by simp [S8.cells])
      have V1 := hR.cell 1 (by simp [S8.cells])
      have V2 := hR.cell 2 (by simp [S8.cells])
      have V3 := hR.cell 3 (by simp [S8.cells])
      have V4 := hR.cell 4 (by simp [S8.cells])
      have V5 := hR.cell 5 (by simp [S8.cells])
      have V6 := hR.cell 6 (by simp [S8.cells])
      have V7 := hR.cell 7 (by simp [S8.cells])
      have F0 := hR.frozen 0
      have F1 := hR.frozen 1
      have F2 := hR.frozen 2
      have F3 := hR.frozen 3
      have F4 := hR.frozen 4
      have F5 := hR.frozen 5
      have F6 := hR.frozen 6
      have F7 := hR.frozen 7
      have HA := hid hA; have HR := hid hR; have HB := hid hB
      clear hA hR hB
      have HN : Hid (rnds l s (k + 1) = rnd (rnds l s k) (KT.getD k 0) (sch l k)) := rfl
      obtain ⟨y, hy⟩ : ∃ y, y = KT.getD k 0 := ⟨_, rfl⟩
      obtain ⟨x, hx⟩ : ∃ x, x = sch l k := ⟨_, rfl⟩
      rw [← hy] at hg HN
      rw [← hx] at hw HN
      obtain ⟨r, hr⟩ : ∃ r, r = rnds l s k := ⟨_, rfl⟩
      rw [← hr] at V0 V1 V2 V3 V4 V5 V6 V7 HR HN hok
      clear hy hx hr
      obtain ⟨ra, rb, rc, rd, re, rf, rg, rh⟩ := r
      simp [S8.cells] at V0 V1 V2 V3 V4 V5 V6 V7
      obtain ⟨ha1, ha2⟩ := hok.a
      obtain ⟨he1, he2⟩ := hok.e
      simp only at ha1 ha2 he1 he2
      clear hok
      have HT := hid turned_any
      go_wp2_with fail
      go_quiet (fail)
      go_wp2_with fail
      go_quiet ((go_at_call 167; exact q_add (HT.out _ _ (by decide) (by assumption) (by assumption) _)))
      go_wp2_with fail
      go_quiet ((go_at_call 167; exact q_add (HT.out _ _ (by decide) (by assumption) (by assumption) _)))
      go_wp2_with fail
      go_roundw
      case rel =>
        refine ⟨k + 1, by omega, by go_num, ?_, ?_, ?_⟩
        · exact ((((((((HA.out.drewN _).other _ (by simp) _).other _ (by simp) _).other _ (by simp) _).other _ (by simp) _).other _ (by simp) _).other _ (by simp) _).other _ (by simp) _).other _ (by simp) _
        · rw [HN.out]
          exact arr8 (HR.out.drewN _) rfl _ _ _ _ _ _ _ _
        · exact (((((((((below_drewN HB.out _).setCell (by simp) _).setCell (by simp) _).setCell (by simp) _).setCell (by simp) _).setCell (by simp) _).setCell (by simp) _).setCell (by simp) _).setCell (by simp) _)
      case measure => simp [intOf]; omega
    · obtain rfl : k = 64 := by omega
      have HA := hid hA; have HR := hid hR; have HB := hid hB
      have HBW := hid (Below.then' HB1.out hB)
      have HA2 := hid (HA1.out.below hB)
      have hzr := hB.size
      clear hA hR hB hk hlt HA1 HG1 HB1
      go_wp2_with fail
      have hsm := hid (comp_mix s l)
      have hmx := hid (mixC_zero s (rnds l s 64))
      go_loopw [99] (fun i w2 => ∃ k : Nat, k ≤ 8 ∧ i = .int .i64 k ∧ Arr b ty (mixC s (rnds l s 64) k ++ tl) w2 ∧ Arr (w1.heap.size + 1) 198 (rnds l s 64).cells w2 ∧ w.grownBy w2 (some b)) (fun i _ => 8 - (intOf i).toNat)
      case atStart => exact ⟨0, by omega, rfl, by rw [hmx.out]; exact HA2.out, HR.out, grown_of HBW.out _⟩
      case round =>
        clear HA HR HB HBW HA2
        obtain ⟨k, hk, rfl, hA, hR, hG⟩ := hrel
        by_cases hlt : k < 8
        · have hc := hA.cell k (by simp [mixC_length]; omega)
          rw [List.getElem_append_left (by rw [mixC_length]; exact hlt), mixC_get _ _ _ _ hlt, if_neg (by omega)] at hc
          have hv := hR.cell k (by rw [cells_length]; exact hlt)
          rw [cells_get] at hv
          have hf := hA.frozen k
          have hN := hid (hA.set k (.int .u32 ((s.nums.getD k 0 + (rnds l s 64).nums.getD k 0) % 4294967296)))
          rw [List.set_append_left _ _ (by rw [mixC_length]; exact hlt), mixC_set] at hN
          have HR := hid hR; have HGB := hid hG
          clear hA hR hG
          obtain ⟨x, hx⟩ : ∃ x, x = s.nums.getD k 0 := ⟨_, rfl⟩
          obtain ⟨y, hy⟩ : ∃ y, y = (rnds l s 64).nums.getD k 0 := ⟨_, rfl⟩
          rw [← hx] at hc hN
          rw [← hy] at hv hN
          clear hx hy
          have i1 : (0 : Int) ≤ (k : Int) := by omega
          have i2 : (k : Int) < 8 := by omega
          go_wp2_with fail
          go_region
          go_wp2_with fail
          go_roundw
          case rel => exact ⟨k + 1, by omega, by go_num, hN.out.drew, (HR.out.other _ (by simp; omega) _).drew, grown_drew (grown_set HGB.out _ _)⟩
          case measure => simp [intOf]; omega
        · obtain rfl : k = 8 := by omega
          rw [hsm.out] at hA
          have HA := hid hA; have HG := hid hG
          clear hA hG hR hk hlt
          go_wp2_with fail
          go_end0
          exact ⟨rfl, HA.out, HG.out⟩
end Go.Proofs.YtaaldkkfedinpaaDoor
