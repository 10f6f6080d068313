/- slices.Concat over slices of strings; slices of strings that are read. -/
import Derived.Test.YtcgfeeommhljgaaDoorKit
import Derived.Test.YtcgfeeommhljgaaDoorRowAt
import Derived.Test.YtcgfeeommhljgaaDoorArgs
import Derived.Lib.AppendZerosOnto
set_option maxRecDepth 100000
namespace Go.Proofs.YtcgfeeommhljgaaDoor
open Go Go.RowKit

theorem strsG (xs : List ByteArray) (k : Nat) (h : k < xs.length) : (strs' xs)[k]'(by simpa [strs'] using h) = .string xs[k] := by simp [strs']
theorem RowAt.strG {w : World} {ao : Option Addr} {xs : List ByteArray} (h : RowAt w ao (strs' xs)) {k : Nat} (hk : k < xs.length) :
    ∃ b off, ao = some ⟨b, off, none⟩ ∧ ∀ i (h : i < xs.length), w.cell? ⟨b, off + i, none⟩ = some (.string xs[i]) := by
  obtain ⟨b, off, e, hc⟩ := h.get (k := k) (by simpa [strs'] using hk)
  exact ⟨b, off, e, fun i hi => by rw [hc i (by simpa [strs'] using hi), strsG]⟩
theorem strs_one (xs : List ByteArray) : ∀ u ∈ strs' xs, u.oneCell' = true := by
  intro u hu
  obtain ⟨x, _, rfl⟩ := List.mem_map.1 hu
  rfl
theorem info_str : (Tryd.prog.info? 9).map (fun i => (i.zero, i.size, i.bytes)) = some (some (.string ⟨#[]⟩), 1, 16) := by kernel_rfl

/-- A slice of strings among others. -/
structure Pc where
  (ao : Option Addr) (xs : List ByteArray) (cap : Nat)
def Pc.val (p : Pc) : Value := .slice p.ao p.xs.length p.cap
def pcs (ps : List Pc) : List ByteArray := (ps.map (·.xs)).flatten
theorem pcs_snoc (ps : List Pc) (i : Nat) (h : i < ps.length) : pcs (ps.take (i + 1)) = pcs (ps.take i) ++ ps[i].xs := by
  unfold pcs
  rw [List.take_succ_eq_append_getElem h, List.map_append, List.flatten_append, List.map_cons, List.map_nil, List.flatten_cons, List.flatten_nil, List.append_nil]
theorem pcs_le (ps : List Pc) (i : Nat) : (pcs (ps.take i)).length ≤ (pcs ps).length := by
  have : pcs ps = pcs (ps.take i) ++ pcs (ps.drop i) := by
    unfold pcs
    rw [← List.flatten_append, ← List.map_append, List.take_append_drop]
  rw [this, List.length_append]; omega
/-- They lie there. -/
structure PcsAt (b : Nat) (ps : List Pc) (w : World) : Prop where
  cell : ∀ j (h : j < ps.length), w.cell? ⟨b, j, none⟩ = some ps[j].val
  row : ∀ j (h : j < ps.length), RowAt w ps[j].ao (strs' ps[j].xs)
  nil : ∀ j (h : j < ps.length), ps[j].ao = none → ps[j].xs.length = 0 ∧ ps[j].cap = 0
theorem PcsAt.below {b : Nat} {ps : List Pc} {w w' : World} (h : PcsAt b ps w) (hb : Below w.heap.size w w') : PcsAt b ps w' :=
  ⟨fun j hj => (hb.cell (World.block_lt_of_cell? w _ (h.cell j hj))).trans (h.cell j hj), fun j hj => (h.row j hj).below hb, h.nil⟩

theorem wp_append_run {P : Program} (w : World) {ops : Array Oper} {rest : List Oper} {o : Oper} {a : Act} {Q : Exit → Act → World → Prop} (hgd : o.guard = none) (d s : Operand) (t t' : TypeId)
    (ho : o.op = .call { callee := .builtin .append, args := #[d, s], argTypes := #[t, t'] }) (v u : Value) (hd : a.eval d = v) (hs : a.eval s = u) {v' : Value} {w' : World}
    (hr : (Builtin.append_ #[t, t'] o.type #[v, u]).run P w = .ok v' w') (h : wpList P ops Q rest (a.put o.dst v') w') : wpList P ops Q (o :: rest) a w := by
  refine wpList_plain hgd fun K hK => ?_
  unfold Oper.wp
  simp [execOp, ho, resolve, invoke, builtin, hd, hs, hr, Result.andThen]
  exact hK _ _ h
theorem slices_Grow (n : Nat) (hn : n * 16 ≤ 140737488355328) (w : World) :
    Calls Tryd.prog 97 #[.slice none 0 0, .int .i64 n] w fun e w' => ∃ v, e = .returned v ∧ w'.ownsRow w.heap.size 9 1 v 0 [] ∧ Below w.heap.size w w' := by
  rcases Nat.eq_zero_or_pos n with rfl | h0
  · go_enter Tryd.func97, Tryd.ntmps97
    go_wp2_with fail
    go_ret
    exact ⟨_, rfl, World.ownsRow_nil _ _ _ _, Below.refl _ _⟩
  · obtain ⟨i0, hi, hz0, hz1, hz2⟩ := info_parts info_str
    have hrz : ∀ ty, (Builtin.append_ #[22, 3] ty #[.slice none 0 0, .int .i64 (n : Int)]).run Tryd.prog w = .ok (.slice (some ⟨w.heap.size, 0, none⟩) n (grownCap w n 0 9)) (w.drew.alloc (.cells (Builtin.zeroCells (Value.cells (.string ⟨#[]⟩)) n ++ Builtin.zeroCells (Value.cells (.string ⟨#[]⟩)) (grownCap w n 0 9 - n)) 9)) := fun ty => by
      have h := Lib.run_append_grow_zeros w 22 3 ty 9 i0 (.string ⟨#[]⟩) .i64 .i64 Tryd.underlying22 Tryd.underlying3 hi hz0 none 0 0 [] (run_firstCells_none w.drew i0.size 0 0 0) n h0 (by omega) (by omega) (by omega) (by rw [hz2]; omega)
        (growslice_fits (by omega) (by rw [hz2]; omega))
      simpa using h
    have hG := grownCap_ge w n 0 9
    have hG2 := grownCap_le_maxLen w n 0 9 (by unfold maxLen; omega)
    obtain ⟨G, hGe⟩ : ∃ G, G = grownCap w n 0 9 := ⟨_, rfl⟩
    rw [← hGe] at hrz hG hG2
    unfold maxLen at hG2
    have HM := hid (World.ownsRow_made (e := 9) (base := w.heap.size) (size := 1) w.drew (Builtin.zeroCells (Value.cells (.string ⟨#[]⟩)) n ++ Builtin.zeroCells (Value.cells (.string ⟨#[]⟩)) (G - n)) G (Nat.le_refl _) (by unfold maxLen; omega) (by simp only [Array.size_append, size_zeroCells]; simp [Value.cells]; omega))
    have hni : (0 : Int) < (n : Int) := by omega
    have HRZ := hid hrz
    clear hGe hi hz0 hz1 hz2 hrz
    have hrz := HRZ.out
    clear HRZ
    generalize Builtin.zeroCells (Value.cells (.string ⟨#[]⟩)) n ++ Builtin.zeroCells (Value.cells (.string ⟨#[]⟩)) (G - n) = cells at *
    have HRZ := hid hrz
    clear hrz
    go_enter Tryd.func97, Tryd.ntmps97
    go_wp2_with (at_builtin; refine wp_append_run w rfl (.tmp 20) (.tmp 21) 22 3 rfl _ _ rfl rfl (HRZ.out _) ?_)
    go_ret
    exact ⟨_, rfl, HM.out, (Below.refl _ _).drew.alloc (Nat.le_refl _) _⟩

theorem slices_Concat (b : Nat) (ps : List Pc) (cap : Nat) (hps : ps.length ≤ 1000) (hl : (pcs ps).length * 16 ≤ 140737488355328) (w : World) (hp : PcsAt b ps w) :
    Calls Tryd.prog 72 #[.slice (some ⟨b, 0, none⟩) ps.length cap] w fun e w' => ∃ v, e = .returned v ∧ w'.ownsRow w.heap.size 9 1 v (strs' (pcs ps)).length (strs' (pcs ps)) ∧ Below w.heap.size w w' := by
  have HP := hid hp
  have HGr := hid (slices_Grow (pcs ps).length hl)
  clear hp
  go_enter Tryd.func72, Tryd.ntmps72
  go_wp2_with fail
  go_loop [3, 11] (fun s i => ∃ k : Nat, k ≤ ps.length ∧ i = .int .i64 k ∧ s = .int .i64 (pcs (ps.take k)).length) (fun _ i => ps.length - (intOf i).toNat)
  case atStart => exact ⟨0, by omega, rfl, rfl⟩
  case round =>
    obtain ⟨k, hk, rfl, rfl⟩ := hrel
    have hle := pcs_le ps k
    by_cases hlt : k < ps.length
    · have hc := HP.out.cell k hlt
      have hs : (pcs (ps.take (k + 1))).length = (pcs (ps.take k)).length + ps[k].xs.length := by rw [pcs_snoc ps k hlt, List.length_append]
      have hle2 := pcs_le ps (k + 1)
      rw [hs] at hle2
      have HS := hid hs
      unfold Pc.val at hc
      clear hs
      obtain ⟨m, hm⟩ : ∃ m, m = (pcs (ps.take k)).length := ⟨_, rfl⟩
      rw [← hm] at hle hle2 HS ⊢
      obtain ⟨q, hq⟩ : ∃ q, q = ps[k].xs.length := ⟨_, rfl⟩
      rw [← hq] at hle2 HS hc
      clear hm hq
      have hng : ¬ ((m : Int) + (q : Int)) < 0 := by omega
      go_wp2_with fail
      go_round
      case rel => exact ⟨k + 1, by omega, by go_num, by rw [HS.out]; go_num⟩
      case measure => simp [intOf]; omega
    · obtain rfl : k = ps.length := by omega
      rw [List.take_of_length_le (Nat.le_refl _)]
      clear hle
      go_wp2_with fail
      refine (HGr.out _).mono ?_
      rintro e w1 ⟨v, rfl, hown, hb1⟩
      have HO := hid hown
      have HB := hid hb1
      clear hown hb1
      go_wp2_with fail
      go_loopw [6, 27] (fun v' i wr => ∃ k : Nat, k ≤ ps.length ∧ i = .int .i64 k ∧ wr.ownsRow w.heap.size 9 1 v' (strs' (pcs (ps.take k))).length (strs' (pcs (ps.take k))) ∧ Below w.heap.size w wr) (fun _ i _ => ps.length - (intOf i).toNat)
      case atStart => exact ⟨0, by omega, rfl, HO.out, HB.out⟩
      case round =>
        clear HO HB HGr
        obtain ⟨k, hk, rfl, hown, hbw⟩ := hrel
        by_cases hlt : k < ps.length
        · have hq := HP.out.below hbw
          have hc := hq.cell k hlt
          have hrow := hq.row k hlt
          have hnil := hq.nil k hlt
          have hs : strs' (pcs (ps.take (k + 1))) = strs' (pcs (ps.take k)) ++ strs' ps[k].xs := by rw [pcs_snoc ps k hlt]; simp [strs']
          have hle2 := pcs_le ps (k + 1)
          rw [pcs_snoc ps k hlt, List.length_append] at hle2
          have HS := hid hs
          have HL : Hid (((strs' (pcs (ps.take k))).length + ps[k].xs.length) * 16 ≤ 140737488355328) := by unfold Hid; rw [strs'_length]; omega
          unfold Pc.val at hc
          have HO := hid hown
          have HB := hid hbw
          have HRow := hid hrow
          have HNil := hid hnil
          clear hs hown hbw hrow hnil hq hle2
          generalize ps[k] = p at *
          obtain ⟨ao, xs, pc⟩ := p
          simp only at hc HS HL HRow HNil
          go_wp2_with (at_builtin; refine wp_append_all w.heap.size rfl (.tmp 31) (.tmp 32) 22 9 (.string ⟨#[]⟩) 16 rfl Tryd.underlying22 info_str rfl (by omega) _ (strs' (pcs (ps.take k))) (strs' xs) ao xs.length pc rfl rfl (strs'_length xs) (strs_one xs) HRow.out HNil.out HO.out HB.out.size HL.out ?_; intro v1 w1 hown1 hb1; rw [← HS.out] at hown1; have H1 := hid hown1; have B1 := hid (HB.out.trans hb1); clear hown1 hb1)
          go_roundw
          case rel => exact ⟨k + 1, by omega, by go_num, H1.out, B1.out⟩
          case measure => simp [intOf]; omega
        · obtain rfl : k = ps.length := by omega
          rw [List.take_of_length_le (Nat.le_refl _)] at hown
          have HO := hid hown
          have HB := hid hbw
          clear hown hbw
          go_wp2_with fail
          go_ret
          exact ⟨_, rfl, HO.out, HB.out⟩
end Go.Proofs.YtcgfeeommhljgaaDoor
