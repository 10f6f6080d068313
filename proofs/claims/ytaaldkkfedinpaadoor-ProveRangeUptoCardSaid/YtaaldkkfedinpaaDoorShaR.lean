/- annalsref2.schedule: the words of a block that lies in a row of bytes. -/
import Derived.Test.YtaaldkkfedinpaaDoorShaA
set_option maxRecDepth 100000
namespace Go.Proofs.YtaaldkkfedinpaaDoor
open Go Go.RowKit

theorem bytes_cells {w : World} {g : Nat} {m : List UInt8} (h : RowAt w (some ⟨g, 0, none⟩) (bytesV m)) : ∀ i (hi : i < m.length), w.cell? ⟨g, i, none⟩ = some (.int .u8 (m[i]'hi).toNat) := by
  intro i hi
  obtain ⟨b, off, e, hc⟩ := h.get (k := i) (by rw [bytesV_length]; exact hi)
  cases e
  have := hc i (by rw [bytesV_length]; exact hi)
  rwa [Nat.zero_add, bytesV_get m i hi] at this
theorem wAt_in (m : List UInt8) (p t : Nat) (ht : t < 16) : ((beN ((m.drop (p + 4 * t)).take 4) : Nat) : Int) = wAt ((m.drop p).take 64) t := by
  unfold wAt
  rw [List.drop_take, List.drop_drop, List.take_take, show min 4 (64 - 4 * t) = 4 by omega]
theorem ref_schedule (g : Nat) (m : List UInt8) (cap p : Nat) (hp : p + 64 ≤ m.length) (hl : m.length ≤ 140737488355328) (w : World) (hr : RowAt w (some ⟨g, 0, none⟩) (bytesV m)) :
    Calls Tryd.prog 155 #[.slice (some ⟨g, 0, none⟩) m.length cap, .int .i64 p] w fun e w' => e = .returned (.agg (wcs ((m.drop p).take 64) 64).toArray) ∧ Below w.heap.size w w' := by
  have HW := hid (fun (t : Nat) (ht : t < 16) (W : World) (hW : Below w.heap.size w W) => ref_word g m cap (p + 4 * t) (by omega) hl W (bytes_cells (hr.below hW)))
  obtain ⟨l, hlv⟩ : ∃ l, l = (m.drop p).take 64 := ⟨_, rfl⟩
  have HI := hid (wAt_in m p)
  rw [← hlv] at HI ⊢
  obtain ⟨n, hn⟩ : ∃ n, n = m.length := ⟨_, rfl⟩
  rw [← hn] at hp hl HW ⊢
  clear hlv hn hr
  go_enter Tryd.func155, Tryd.ntmps155
  go_wp2_with fail
  have Z1 := hid (Arr.new w 195 (List.replicate 64 (.int .u32 0)))
  have Z2 := hid ((Z1.out.alloc (.cells (List.replicate 64 (.int .u32 0)).toArray 195)))
  have Z3 := hid (Arr.new (w.alloc (.cells (List.replicate 64 (.int .u32 0)).toArray 195)) 195 (List.replicate 64 (.int .u32 0)))
  have ZB := hid (((Below.refl w.heap.size w).alloc (Nat.le_refl _) (.cells (List.replicate 64 (.int .u32 0)).toArray 195)).alloc (by simp) (.cells (List.replicate 64 (.int .u32 0)).toArray 195))
  have hzs : (w.alloc (.cells (List.replicate 64 (.int .u32 0)).toArray 195)).heap.size = w.heap.size + 1 := by simp
  rw [hzs, ← wcs_zero l] at Z3
  clear hzs
  go_loopw [6] (fun i wr => ∃ k : Nat, k ≤ 16 ∧ i = .int .i64 k ∧ Arr (w.heap.size + 1) 195 (wcs l k) wr ∧ Arr w.heap.size 195 (List.replicate 64 (.int .u32 0)) wr ∧ Below w.heap.size w wr) (fun i _ => 16 - (intOf i).toNat)
  case atStart => exact ⟨0, by omega, rfl, Z3.out, Z2.out, ZB.out⟩
  case round =>
    obtain ⟨k, hk, rfl, hA, hR, hB⟩ := hrel
    clear Z1 Z2 Z3 ZB
    by_cases hlt : k < 16
    · have HA := hid hA; have HR := hid hR; have HB := hid hB
      clear hA hR hB
      have HN := hid (HW.out k hlt _ HB.out)
      go_wp2_with fail
      refine (HN.out).mono ?_
      rintro e w' ⟨rfl, hb⟩
      have HA2 := hid (HA.out.below hb); have HR2 := hid (HR.out.below hb); have HB2 := hid (HB.out.trans (hb.mono HB.out.size))
      have hc := HA2.out.cell k (by rw [wcs_length]; omega)
      have hf := HA2.out.frozen k
      rw [wcs_get _ _ _ (by omega)] at hc
      clear hb HA HR HB HN
      go_wp2_with fail
      go_roundw
      case rel => exact ⟨k + 1, by omega, by go_num, by have := HA2.out.set k (.int .u32 (sch l k)); rw [wcs_set, sch_low _ _ hlt, ← HI.out k hlt] at this; exact this, HR2.out.other _ (by simp) _, HB2.out.setCell (by simp) _⟩
      case measure => simp [intOf]; omega
    · have HA := hid hA; have HR := hid hR; have HB := hid hB
      have HE : Hid (k = 16) := by unfold Hid; omega
      clear hA hR hB hk HW HI
      go_wp2_with fail
      go_loopw [7] (fun i wr => ∃ k : Nat, 16 ≤ k ∧ k ≤ 64 ∧ i = .int .i64 k ∧ Arr (w.heap.size + 1) 195 (wcs l k) wr ∧ Arr w.heap.size 195 (List.replicate 64 (.int .u32 0)) wr ∧ Below w.heap.size w wr) (fun i _ => 64 - (intOf i).toNat)
      case atStart => exact ⟨16, by omega, by omega, rfl, by have := HA.out; rwa [HE.out] at this, HR.out, HB.out⟩
      case round =>
        clear HA HR HB HE
        obtain ⟨k, hk, hk', rfl, hA, hR, hB⟩ := hrel
        by_cases hlt : k < 64
        · have hc := hA.cell k (by rw [wcs_length]; omega)
          have hf := hA.frozen k
          have hc2 := hA.cell (k - 2) (by rw [wcs_length]; omega)
          have hc7 := hA.cell (k - 7) (by rw [wcs_length]; omega)
          have hc15 := hA.cell (k - 15) (by rw [wcs_length]; omega)
          have hc16 := hA.cell (k - 16) (by rw [wcs_length]; omega)
          rw [wcs_get _ _ _ (by omega)] at hc hc2 hc7 hc15 hc16
          rw [if_pos (by omega)] at hc2 hc7 hc15 hc16
          have HA := hid hA; have HR := hid hR; have HB := hid hB
          clear hA hR hB
          have w2 := i64_in' ((k : Int) - 2) (by omega)
          have w7 := i64_in' ((k : Int) - 7) (by omega)
          have w15 := i64_in' ((k : Int) - 15) (by omega)
          have w16 := i64_in' ((k : Int) - 16) (by omega)
          have t2 : ((k : Int) - 2).toNat = k - 2 := by omega
          have t7 : ((k : Int) - 7).toNat = k - 7 := by omega
          have t15 : ((k : Int) - 15).toNat = k - 15 := by omega
          have t16 : ((k : Int) - 16).toNat = k - 16 := by omega
          have g2 : (0 : Int) ≤ (k : Int) - 2 := by omega
          have g7 : (0 : Int) ≤ (k : Int) - 7 := by omega
          have g15 : (0 : Int) ≤ (k : Int) - 15 := by omega
          have g16 : (0 : Int) ≤ (k : Int) - 16 := by omega
          have l2 : (k : Int) - 2 < 64 := by omega
          have l7 : (k : Int) - 7 < 64 := by omega
          have l15 : (k : Int) - 15 < 64 := by omega
          have l16 : (k : Int) - 16 < 64 := by omega
          have s2 := sch_lo l (k - 2)
          have S2 := sch_hi l (k - 2)
          have s15 := sch_lo l (k - 15)
          have S15 := sch_hi l (k - 15)
          have E := hid (sch_high l k hk)
          obtain ⟨x2, hx2⟩ : ∃ x, x = sch l (k - 2) := ⟨_, rfl⟩
          obtain ⟨x7, hx7⟩ : ∃ x, x = sch l (k - 7) := ⟨_, rfl⟩
          obtain ⟨x15, hx15⟩ : ∃ x, x = sch l (k - 15) := ⟨_, rfl⟩
          obtain ⟨x16, hx16⟩ : ∃ x, x = sch l (k - 16) := ⟨_, rfl⟩
          rw [← hx2, ← hx7, ← hx15, ← hx16] at E
          rw [← hx2] at hc2 s2 S2
          rw [← hx7] at hc7
          rw [← hx15] at hc15 s15 S15
          rw [← hx16] at hc16
          clear hx2 hx7 hx15 hx16
          have c7 := hid (rotr_7 x15 s15 S15)
          have c18 := hid (rotr_18 x15 s15 S15)
          have c17 := hid (rotr_17 x2 s2 S2)
          have c19 := hid (rotr_19 x2 s2 S2)
          go_wp2_with fail
          refine (c7.out _).mono ?_
          rintro e w' ⟨rfl, rfl⟩
          go_wp2_with fail
          refine (c18.out _).mono ?_
          rintro e w' ⟨rfl, rfl⟩
          go_wp2_with fail
          refine (c17.out _).mono ?_
          rintro e w' ⟨rfl, rfl⟩
          go_wp2_with fail
          refine (c19.out _).mono ?_
          rintro e w' ⟨rfl, rfl⟩
          go_wp2_with fail
          have hd7 := hc7; have hd16 := hc16; have hd := hc; have hfd := hf
          have f7 : (7 : Int) ≤ (k : Int) := by omega
          have f16 : (16 : Int) ≤ (k : Int) := by omega
          have b7 : (k : Int) < 71 := by omega
          have b16 : (k : Int) < 80 := by omega
          have n7 : k - 7 ≠ k := by omega
          have n16 : k - 16 ≠ k := by omega
          have K7 : ∀ v, (wr.setCell ⟨w.heap.size + 1, k, none⟩ v).cell? ⟨w.heap.size + 1, k - 7, none⟩ = some (.int .u32 x7) := fun v => by
            rw [World.cell?_setCell_other _ _ _ _ (by simp <;> omega)]; exact hc7
          have K16 : ∀ v, (wr.setCell ⟨w.heap.size + 1, k, none⟩ v).cell? ⟨w.heap.size + 1, k - 16, none⟩ = some (.int .u32 x16) := fun v => by
            rw [World.cell?_setCell_other _ _ _ _ (by simp <;> omega)]; exact hc16
          go_region_held3 (fun w' => w'.cell? ⟨w.heap.size + 1, k - 7, none⟩ = some (.int .u32 x7) ∧ w'.cell? ⟨w.heap.size + 1, k - 16, none⟩ = some (.int .u32 x16)) (go_keep) (fail)
          rw [IntKind.wrap_u32', IntKind.wrap_u32', IntKind.wrap_u32']
          go_wp2_with fail
          go_roundw
          case rel =>
            refine ⟨k + 1, by omega, by omega, by go_num, ?_, (HR.out.other _ (by simp) _).drew, (HB.out.setCell (by simp) _).drew⟩
            have := (HA.out.set k (.int .u32 (sch l k))).drew
            rw [wcs_set, E.out] at this
            exact this
          case measure => simp [intOf]; omega
        · obtain rfl : k = 64 := by omega
          have HA := hid hA; have HR := hid hR; have HB := hid hB
          clear hA hR hB hlt hk hk'
          have hm1 := hid (wcs_one l 64)
          go_wp2_with (first
            | (refine wpList_load_row rfl 195 _ rfl (w.heap.size + 1) rfl 195 (wcs l 64).toArray (0, 0) _ HA.out Tryd.underlying195 rfl (by rw [List.size_toArray, wcs_length]; kernel_rfl) ?_)
            | (refine wpList_store_mid rfl 195 _ _ rfl w.heap.size 0 (wcs l 64).toArray rfl rfl (HR.out.there (by simp [wcs_length])) (by rw [List.size_toArray, wcs_length]; kernel_rfl) hm1.out ?_))
          exact bodyPost_ret (v := .agg (wcs l 64).toArray) (results_cell_row rfl _ _ w.heap.size 195 (wcs l 64).toArray (0, 0) _ rfl (HR.out.setCells _ (by simp [wcs_length])) Tryd.underlying195 rfl (by rw [List.size_toArray, wcs_length]; kernel_rfl)) rfl ⟨rfl, below_setCells HB.out (Nat.le_refl _) _ _⟩
end Go.Proofs.YtaaldkkfedinpaaDoor
