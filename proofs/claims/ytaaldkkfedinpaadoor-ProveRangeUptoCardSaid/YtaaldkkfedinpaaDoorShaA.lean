/- Arrays in a block of their own; the words of a block, both sides. -/
import Derived.Test.YtaaldkkfedinpaaDoorShaN
import Derived.Deep.WholeRow
import Derived.Deep.MidRow
import Derived.Lib.SmallJoins
import Derived.Deep.RegionHeld3
import Derived.StillTailTactics
set_option maxRecDepth 100000
namespace Go.Proofs.YtaaldkkfedinpaaDoor
open Go Go.RowKit

/-- Block B is the variable of type ty that holds these cells. -/
def Arr (B : Nat) (ty : TypeId) (cs : List Value) (w : World) : Prop := w.heap[B]? = some (.cells cs.toArray ty (0, 0))
theorem Arr.lt {B : Nat} {ty : TypeId} {cs : List Value} {w : World} (h : Arr B ty cs w) : B < w.heap.size := (Array.getElem?_eq_some_iff.1 h).1
theorem Arr.cell {B : Nat} {ty : TypeId} {cs : List Value} {w : World} (h : Arr B ty cs w) (j : Nat) (hj : j < cs.length) : w.cell? ⟨B, j, none⟩ = some cs[j] := by
  rw [cell_of_row w B j cs.toArray ty (0, 0) h]; simp [hj]
theorem Arr.frozen {B : Nat} {ty : TypeId} {cs : List Value} {w : World} (h : Arr B ty cs w) (j : Nat) : w.frozen? ⟨B, j, none⟩ = false := by simp [World.frozen?, show w.heap[B]? = _ from h]
theorem Arr.set {B : Nat} {ty : TypeId} {cs : List Value} {w : World} (h : Arr B ty cs w) (j : Nat) (v : Value) : Arr B ty (cs.set j v) (w.setCell ⟨B, j, none⟩ v) := by
  have := Go.Joins.block_setCell (i := j) h v
  rw [List.setIfInBounds_toArray] at this; exact this
theorem Arr.other {B : Nat} {ty : TypeId} {cs : List Value} {w : World} (h : Arr B ty cs w) (a : Addr) (ha : a.block ≠ B) (v : Value) : Arr B ty cs (w.setCell a v) := by
  unfold Arr; rw [Below.heap_setCell w a v B (fun e => ha e.symm)]; exact h
theorem Arr.drewN {B : Nat} {ty : TypeId} {cs : List Value} {w : World} (h : Arr B ty cs w) (n : Nat) : Arr B ty cs (w.drewN n) := h
theorem Arr.drew {B : Nat} {ty : TypeId} {cs : List Value} {w : World} (h : Arr B ty cs w) : Arr B ty cs w.drew := h
theorem Arr.alloc {B : Nat} {ty : TypeId} {cs : List Value} {w : World} (h : Arr B ty cs w) (o : Obj) : Arr B ty cs (w.alloc o) := by
  unfold Arr; rw [Below.heap_alloc w o B h.lt]; exact h
theorem Arr.below {B : Nat} {ty : TypeId} {cs : List Value} {w w' : World} (h : Arr B ty cs w) (hb : Below w.heap.size w w') : Arr B ty cs w' := by
  unfold Arr; rw [hb.block B h.lt]; exact h
theorem Arr.new (w : World) (ty : TypeId) (cs : List Value) : Arr w.heap.size ty cs (w.alloc (.cells cs.toArray ty)) := heap_alloc_new w _
theorem Arr.at {B : Nat} {ty : TypeId} {cs : List Value} {w : World} (h : Arr B ty cs w) : w.rangeAt B 0 cs := fun j v hv => by
  obtain ⟨hj, rfl⟩ := List.getElem?_eq_some_iff.1 hv
  rw [Nat.zero_add]; exact h.cell j hj
theorem Arr.there {B : Nat} {ty : TypeId} {cs : List Value} {w : World} (h : Arr B ty cs w) {n : Nat} (hn : n ≤ cs.length) : w.there B 0 n := fun j hj => by
  rw [Nat.zero_add]; exact ⟨by rw [h.cell j (by omega)]; rfl, h.frozen j⟩
/-- All of it is written. -/
theorem Arr.setCells {B : Nat} {ty : TypeId} {cs : List Value} {w : World} (h : Arr B ty cs w) (vs : List Value) (hn : vs.length = cs.length) : Arr B ty vs (w.setCells B 0 vs) := by
  have key : ∀ (vs : List Value) (o : Nat) (w : World) (cs : List Value), Arr B ty cs w → o + vs.length = cs.length → Arr B ty (cs.take o ++ vs) (w.setCells B o vs) := by
    intro vs
    induction vs with
    | nil => intro o w cs h hn; simp at hn; subst hn; simpa [World.setCells] using h
    | cons v r ih =>
      intro o w cs h hn
      simp at hn
      have := ih (o + 1) _ _ (h.set o v) (by simp; omega)
      rw [World.setCells]
      have e : List.take (o + 1) (cs.set o v) ++ r = cs.take o ++ v :: r := by
        rw [List.take_succ_eq_append_getElem (by simp; omega), List.take_set_of_le (by omega)]; simp
      rw [e] at this
      exact this
  simpa using key vs 0 w cs h (by omega)
/-- Eight cells written one behind the other. -/
theorem arr8 {B : Nat} {ty : TypeId} {cs : List Value} {w : World} (h : Arr B ty cs w) (hc : cs.length = 8) (v0 v1 v2 v3 v4 v5 v6 v7 : Value) :
    Arr B ty [v0, v1, v2, v3, v4, v5, v6, v7] ((((((((w.setCell ⟨B, 0, none⟩ v0).setCell ⟨B, 1, none⟩ v1).setCell ⟨B, 2, none⟩ v2).setCell ⟨B, 3, none⟩ v3).setCell ⟨B, 4, none⟩ v4).setCell ⟨B, 5, none⟩ v5).setCell ⟨B, 6, none⟩ v6).setCell ⟨B, 7, none⟩ v7) := by
  match cs, hc with
  | [c0, c1, c2, c3, c4, c5, c6, c7], _ => exact (((((((h.set 0 v0).set 1 v1).set 2 v2).set 3 v3).set 4 v4).set 5 v5).set 6 v6).set 7 v7
theorem setCells_heap (b : Nat) : ∀ (vs : List Value) (o : Nat) (w : World) (k : Nat), k ≠ b → (w.setCells b o vs).heap[k]? = w.heap[k]?
  | [], _, _, _, _ => rfl
  | v :: r, o, w, k, h => by rw [World.setCells, setCells_heap b r (o + 1) _ k h]; exact Below.heap_setCell w ⟨b, o, none⟩ v k h
theorem setCells_size (b : Nat) : ∀ (vs : List Value) (o : Nat) (w : World), (w.setCells b o vs).heap.size = w.heap.size
  | [], _, _ => rfl
  | v :: r, o, w => by rw [World.setCells, setCells_size b r (o + 1)]; simp
theorem setCells_rest (b : Nat) : ∀ (vs : List Value) (o : Nat) (w : World), (w.setCells b o vs).os = w.os ∧ (w.setCells b o vs).tape = w.tape ∧ (w.setCells b o vs).output = w.output
  | [], _, _ => ⟨rfl, rfl, rfl⟩
  | v :: r, o, w => by rw [World.setCells]; exact setCells_rest b r (o + 1) _
theorem grownBy_setCells (w : World) (b o : Nat) (vs : List Value) : w.grownBy (w.setCells b o vs) (some b) :=
  ⟨(setCells_rest b vs o w).1, (setCells_rest b vs o w).2.1, (setCells_rest b vs o w).2.2, by rw [setCells_size]; exact Nat.le_refl _, fun k _ hk => setCells_heap b vs o w k (fun e => hk (by rw [e]))⟩
theorem below_setCells {B : Nat} {a w : World} (h : Below B a w) {b : Nat} (hb : B ≤ b) (o : Nat) (vs : List Value) : Below B a (w.setCells b o vs) :=
  h.trans ⟨(setCells_rest b vs o w).1, (setCells_rest b vs o w).2.1, (setCells_rest b vs o w).2.2, by rw [setCells_size]; exact Nat.le_refl _, fun k hk => setCells_heap b vs o w k (by omega)⟩
theorem Arr.apart {B : Nat} {ty : TypeId} {cs : List Value} {w : World} (h : Arr B ty cs w) {b : Nat} (hb : B ≠ b) (o : Nat) (vs : List Value) : Arr B ty cs (w.setCells b o vs) := by
  unfold Arr; rw [setCells_heap b vs o w B hb]; exact h

/-- The words so far, the rest nought. -/
def wcs (l : List UInt8) (k : Nat) : List Value := (List.range 64).map fun j => .int .u32 (if j < k then sch l j else 0)
theorem wcs_length (l : List UInt8) (k : Nat) : (wcs l k).length = 64 := by simp [wcs]
theorem wcs_get (l : List UInt8) (k j : Nat) (h : j < 64) : (wcs l k)[j]'(by rw [wcs_length]; exact h) = .int .u32 (if j < k then sch l j else 0) := by simp [wcs]
theorem wcs_set (l : List UInt8) (k : Nat) : (wcs l k).set k (.int .u32 (sch l k)) = wcs l (k + 1) := by
  refine List.ext_getElem (by simp [wcs_length]) (fun i h1 h2 => ?_)
  rw [wcs_length] at h2
  rw [List.getElem_set, wcs_get l (k + 1) i h2]
  by_cases e : k = i
  · subst e; rw [if_pos rfl, if_pos (by omega)]
  · rw [if_neg e, wcs_get l k i h2]
    by_cases h : i < k
    · rw [if_pos h, if_pos (by omega)]
    · rw [if_neg h, if_neg (by omega)]
theorem wcs_zero (l : List UInt8) : wcs l 0 = List.replicate 64 (.int .u32 0) := by
  refine List.ext_getElem (by simp [wcs_length]) (fun i h1 h2 => ?_)
  rw [wcs_length] at h1
  rw [wcs_get l 0 i h1, List.getElem_replicate, if_neg (by omega)]

theorem wcs_one (l : List UInt8) (k : Nat) : (wcs l k).toArray.all (·.oneCell') = true := by
  rw [Array.all_eq_true_iff_forall_mem]
  intro v hv
  simp only [List.mem_toArray, wcs, List.mem_map] at hv
  obtain ⟨j, _, rfl⟩ := hv
  rfl
theorem extract_list (s : ByteArray) (a b : Nat) : (s.extract a b).data.toList = (s.data.toList.drop a).take (b - a) := by
  simp [List.extract_eq_take_drop]
theorem sha_words (s : ByteArray) (hs : s.size = 64) (w : World) :
    Calls Tryd.prog 166 #[.string s] w fun e w' => e = .returned (.agg (wcs s.data.toList 64).toArray) ∧ Below w.heap.size w w' := by
  have hsz : s.size ≤ 9223372036854775807 := by omega
  have hs64 : (64 : Int) ≤ s.size := by omega
  have H64 := hid hs
  clear hs
  go_enter Tryd.func166, Tryd.ntmps166
  go_wp2_with fail
  have Z1 := hid (Arr.new w 195 (List.replicate 64 (.int .u32 0)))
  have Z2 := hid ((Z1.out.alloc (.cells (List.replicate 64 (.int .u32 0)).toArray 195)))
  have Z3 := hid (Arr.new (w.alloc (.cells (List.replicate 64 (.int .u32 0)).toArray 195)) 195 (List.replicate 64 (.int .u32 0)))
  have ZB := hid (((Below.refl w.heap.size w).alloc (Nat.le_refl _) (.cells (List.replicate 64 (.int .u32 0)).toArray 195)).alloc (by simp) (.cells (List.replicate 64 (.int .u32 0)).toArray 195))
  have hzs : (w.alloc (.cells (List.replicate 64 (.int .u32 0)).toArray 195)).heap.size = w.heap.size + 1 := by simp
  rw [hzs, ← wcs_zero s.data.toList] at Z3
  clear hzs
  go_loopw [10] (fun i wr => ∃ k : Nat, k ≤ 16 ∧ i = .int .i64 k ∧ Arr (w.heap.size + 1) 195 (wcs s.data.toList k) wr ∧ Arr w.heap.size 195 (List.replicate 64 (.int .u32 0)) wr ∧ Below w.heap.size w wr) (fun i _ => 16 - (intOf i).toNat)
  case atStart => exact ⟨0, by omega, rfl, Z3.out, Z2.out, ZB.out⟩
  case round =>
    obtain ⟨k, hk, rfl, hA, hR, hB⟩ := hrel
    clear Z1 Z2 Z3 ZB
    by_cases hlt : k < 16
    · have hc := hA.cell k (by rw [wcs_length]; omega)
      have hf := hA.frozen k
      rw [wcs_get _ _ _ (by omega)] at hc
      have HA := hid hA; have HR := hid hR; have HB := hid hB
      clear hA hR hB
      have HN := hid (sha_number (s.extract (4 * k) (4 * k + 4)) (by simp; omega))
      have hsl : ∀ W, (Instr.slice 9 (.string s) (some (.int .i64 (4 * (k : Int)))) (some (.int .i64 (4 * (k : Int) + 4))) none).run Tryd.prog W = .ok (.string (s.extract (4 * k) (4 * k + 4))) W := fun W => by
        have := run_slice_string (P := Tryd.prog) W 9 s .i64 .i64 (4 * (k : Int)) (4 * (k : Int) + 4) Tryd.underlying9 (by omega) (by omega) (by omega)
        rwa [show (4 * (k : Int)).toNat = 4 * k by omega, show (4 * (k : Int) + 4).toNat = 4 * k + 4 by omega] at this
      go_wp2_with fail
      refine (HN.out _).mono ?_
      rintro e w' ⟨rfl, rfl⟩
      go_wp2_with fail
      go_roundw
      case rel => exact ⟨k + 1, by omega, by go_num, by have := HA.out.set k (.int .u32 (sch s.data.toList k)); rw [wcs_set, sch_low _ _ hlt] at this; exact this, HR.out.other _ (by simp) _, HB.out.setCell (by simp) _⟩
      case measure => simp [intOf]; omega
    · have HA := hid hA; have HR := hid hR; have HB := hid hB
      have HE : Hid (k = 16) := by unfold Hid; omega
      clear hA hR hB hk
      go_wp2_with fail
      go_loopw [5] (fun i wr => ∃ k : Nat, 16 ≤ k ∧ k ≤ 64 ∧ i = .int .i64 k ∧ Arr (w.heap.size + 1) 195 (wcs s.data.toList k) wr ∧ Arr w.heap.size 195 (List.replicate 64 (.int .u32 0)) wr ∧ Below w.heap.size w wr) (fun i _ => 64 - (intOf i).toNat)
      case atStart => exact ⟨16, by omega, by omega, rfl, by have := HA.out; rwa [HE.out] at this, HR.out, HB.out⟩
      case round =>
        clear HA HR HB HE
        obtain ⟨k, hk, hk', rfl, hA, hR, hB⟩ := hrel
        by_cases hlt : k < 64
        · have hc := hA.cell k (by rw [wcs_length]; omega)
          have hf := hA.frozen k
          have hc2 := hA.cell (k - 2) (by rw [wcs_length]; omega)
          have hc7 := hA.cell (k - 7) (by rw [wcs_length]; omega)
          have hc15 := hA.cell (k - 15) (by rw [wcs_length]; omega)
          have hc16 := hA.cell (k - 16) (by rw [wcs_length]; omega)
          rw [wcs_get _ _ _ (by omega)] at hc hc2 hc7 hc15 hc16
          rw [if_pos (by omega)] at hc2 hc7 hc15 hc16
          have HA := hid hA; have HR := hid hR; have HB := hid hB
          clear hA hR hB
          have w2 := i64_in' ((k : Int) - 2) (by omega)
          have w7 := i64_in' ((k : Int) - 7) (by omega)
          have w15 := i64_in' ((k : Int) - 15) (by omega)
          have w16 := i64_in' ((k : Int) - 16) (by omega)
          have t2 : ((k : Int) - 2).toNat = k - 2 := by omega
          have t7 : ((k : Int) - 7).toNat = k - 7 := by omega
          have t15 : ((k : Int) - 15).toNat = k - 15 := by omega
          have t16 : ((k : Int) - 16).toNat = k - 16 := by omega
          have g2 : (0 : Int) ≤ (k : Int) - 2 := by omega
          have g7 : (0 : Int) ≤ (k : Int) - 7 := by omega
          have g15 : (0 : Int) ≤ (k : Int) - 15 := by omega
          have g16 : (0 : Int) ≤ (k : Int) - 16 := by omega
          have l2 : (k : Int) - 2 < 64 := by omega
          have l7 : (k : Int) - 7 < 64 := by omega
          have l15 : (k : Int) - 15 < 64 := by omega
          have l16 : (k : Int) - 16 < 64 := by omega
          have s2 := sch_lo s.data.toList (k - 2)
          have S2 := sch_hi s.data.toList (k - 2)
          have s15 := sch_lo s.data.toList (k - 15)
          have S15 := sch_hi s.data.toList (k - 15)
          have E := hid (sch_high s.data.toList k hk)
          obtain ⟨x2, hx2⟩ : ∃ x, x = sch s.data.toList (k - 2) := ⟨_, rfl⟩
          obtain ⟨x7, hx7⟩ : ∃ x, x = sch s.data.toList (k - 7) := ⟨_, rfl⟩
          obtain ⟨x15, hx15⟩ : ∃ x, x = sch s.data.toList (k - 15) := ⟨_, rfl⟩
          obtain ⟨x16, hx16⟩ : ∃ x, x = sch s.data.toList (k - 16) := ⟨_, rfl⟩
          rw [← hx2, ← hx7, ← hx15, ← hx16] at E
          rw [← hx2] at hc2 s2 S2
          rw [← hx7] at hc7
          rw [← hx15] at hc15 s15 S15
          rw [← hx16] at hc16
          clear hx2 hx7 hx15 hx16
          have c7 := hid (turned_7 x15 s15 S15)
          have c18 := hid (turned_18 x15 s15 S15)
          have c17 := hid (turned_17 x2 s2 S2)
          have c19 := hid (turned_19 x2 s2 S2)
          go_wp2_with fail
          go_quiet (fail)
          go_wp2_with fail
          refine (c7.out _).mono ?_
          rintro e w' ⟨rfl, rfl⟩
          go_wp2_with fail
          refine (c18.out _).mono ?_
          rintro e w' ⟨rfl, rfl⟩
          go_wp2_with fail
          refine (c17.out _).mono ?_
          rintro e w' ⟨rfl, rfl⟩
          go_wp2_with fail
          refine (c19.out _).mono ?_
          rintro e w' ⟨rfl, rfl⟩
          go_wp2_with fail
          have hd7 := hc7; have hd16 := hc16; have hd := hc; have hfd := hf
          have f7 : (7 : Int) ≤ (k : Int) := by omega
          have f16 : (16 : Int) ≤ (k : Int) := by omega
          have b7 : (k : Int) < 71 := by omega
          have b16 : (k : Int) < 80 := by omega
          have n7 : k - 7 ≠ k := by omega
          have n16 : k - 16 ≠ k := by omega
          go_region_held3 (fun w' => w'.cell? ⟨w.heap.size + 1, k - 7, none⟩ = some (.int .u32 x7) ∧ w'.cell? ⟨w.heap.size + 1, k - 16, none⟩ = some (.int .u32 x16)) (first | go_keep | (refine ⟨?_, ?_⟩ <;> (rw [World.cell?_setCell_other _ _ _ _ (by simp <;> omega)]; assumption))) (fail)
          rw [IntKind.wrap_u32', IntKind.wrap_u32', IntKind.wrap_u32']
          go_wp2_with fail
          go_roundw
          case rel =>
            refine ⟨k + 1, by omega, by omega, by go_num, ?_, (HR.out.drewN _).other _ (by simp) _, (below_drewN HB.out _).setCell (by simp) _⟩
            have := (HA.out.drewN (nq + 1)).set k (.int .u32 (sch s.data.toList k))
            rw [wcs_set, E.out] at this
            exact this
          case measure => simp [intOf]; omega
        · obtain rfl : k = 64 := by omega
          have HA := hid hA; have HR := hid hR; have HB := hid hB
          clear hA hR hB hlt hk hk'
          have hm1 := hid (wcs_one s.data.toList 64)
          go_wp2_with (first
            | (refine wpList_load_row rfl 195 _ rfl (w.heap.size + 1) rfl 195 (wcs s.data.toList 64).toArray (0, 0) _ HA.out Tryd.underlying195 rfl (by rw [List.size_toArray, wcs_length]; kernel_rfl) ?_)
            | (refine wpList_store_mid rfl 195 _ _ rfl w.heap.size 0 (wcs s.data.toList 64).toArray rfl rfl (HR.out.there (by simp [wcs_length])) (by rw [List.size_toArray, wcs_length]; kernel_rfl) hm1.out ?_))
          exact bodyPost_ret (v := .agg (wcs s.data.toList 64).toArray) (results_cell_row rfl _ _ w.heap.size 195 (wcs s.data.toList 64).toArray (0, 0) _ rfl (HR.out.setCells _ (by simp [wcs_length])) Tryd.underlying195 rfl (by rw [List.size_toArray, wcs_length]; kernel_rfl)) rfl ⟨rfl, below_setCells HB.out (Nat.le_refl _) _ _⟩
end Go.Proofs.YtaaldkkfedinpaaDoor
