/- slices.Concat over slices of strings; slices of strings that are read. -/
import Derived.Test.YtcgfeeommhljgaaDoorKit
import Derived.Test.YtcgfeeommhljgaaDoorRowAt
import Derived.Test.YtcgfeeommhljgaaDoorArgs
import Derived.Lib.AppendZerosOnto
set_option maxRecDepth 100000
namespace Go.Proofs.YtcgfeeommhljgaaDoor
open Go Go.RowKit

theorem strsG (xs : List ByteArray) (k : Nat) (h : k < xs.length) : (strs' xs)[k]'(by simpa [strs'] using h) = .string xs[k] := by simp [strs']
theorem RowAt.strG {w : World} {ao : Option Addr} {xs : List ByteArray} (h : RowAt w ao (strs' xs)) {k : Nat} (hk : k < xs.length) :
    ∃ b off, ao = some ⟨b, off, none⟩ ∧ ∀ i (h : i < xs.length), w.cell? ⟨b, off + i, none⟩ = some (.string xs[i]) := by
  obtain ⟨b, off, e, hc⟩ := h.get (k := k) (by simpa [strs'] using hk)
  exact ⟨b, off, e, fun i hi => by rw [hc i (by simpa [strs'] using hi), strsG]⟩
theorem strs_one (xs : List ByteArray) : ∀ u ∈ strs' xs, u.oneCell' = true := by
  intro u hu
  obtain ⟨x, _, rfl⟩ := List.mem_map.1 hu
  rfl
theorem info_str : (Tryd.prog.info? 9).map (fun i => (i.zero, i.size, i.bytes)) = some (some (.string ⟨#[]⟩), 1, 16) := by kernel_rfl

/-- A slice of strings among others. -/
structure Pc where
  (ao : Option Addr) (xs : List ByteArray) (cap : Nat)
def Pc.val (p : Pc) : Value := .slice p.ao p.xs.length p.cap
def pcs (ps : List Pc) : List ByteArray := (ps.map (·.xs)).flatten
theorem pcs_snoc (ps : List Pc) (i : Nat) (h : i < ps.length) : pcs (ps.take (i + 1)) = pcs (ps.take i) ++ ps[i].xs := by
  unfold pcs
  rw [List.take_succ_eq_append_getElem h, List.map_append, List.flatten_append, List.map_cons, List.map_nil, List.flatten_cons, List.flatten_nil, List.append_nil]
theorem pcs_le (ps : List Pc) (i : Nat) : (pcs (ps.take i)).length ≤ (pcs ps).length := by
  have : pcs ps = pcs (ps.take i) ++ pcs (ps.drop i) := by
    unfold pcs
    rw [← List.flatten_append, ← List.map_append, List.take_append_drop]
  rw [this, List.length_append]; omega
/-- They lie there. -/
structure PcsAt (b : Nat) (ps : List Pc) (w : World) : Prop where
  cell : ∀ j (h : j < ps.length), w.cell? ⟨b, j, none⟩ = some ps[j].val
  row : ∀ j (h : j < ps.length), RowAt w ps[j].ao (strs' ps[j].xs)
  nil : ∀ j (h : j < ps.length), ps[j].ao = none → ps[j].xs.length = 0 ∧ ps[j].cap = 0
theorem PcsAt.below {b : Nat} {ps : List Pc} {w w' : World} (h : PcsAt b ps w) (hb : Below w.heap.size w w') : PcsAt b ps w' :=
  ⟨fun j hj => (hb.cell (World.block_lt_of_cell? w _ (h.cell j hj))).trans (h.cell j hj), fun j hj => (h.row j hj).below hb, h.nil⟩

theorem wp_append_run {P : Program} (w : World) {ops : Array Oper} {rest : List Oper} {o : Oper} {a : Act} {Q : Exit → Act → World → Prop} (hgd : o.guard = none) (d s : Operand) (t t' : TypeId)
    (ho : o.op = .call { callee := .builtin .append, args := #[d, s], argTypes := #[t, t'] }) (v u : Value) (hd : a.eval d = v) (hs : a.eval s = u) {v' : Value} {w' : World}
    (hr : (Builtin.append_ #[t, t'] o.type #[v, u]).run P w = .ok v' w') (h : wpList P ops Q rest (a.put o.dst v') w') : wpList P ops Q (o :: rest) a w := by
  refine wpList_plain hgd fun K hK => ?_
  unfold Oper.wp
  simp [execOp, ho, resolve, invoke, builtin, hd, hs, hr, Result.andThen]
  exact hK _ _ h
/-- Room for n, if there is any. -/
def Roomy (N : Nat) (v : Value) (n : Nat) : Prop := N = 0 ∨ ∃ g cap, v = .slice (some ⟨g, 0, none⟩) n cap ∧ N ≤ cap
section
variable {P : Program} {ops : Array Oper} {rest : List Oper} {o : Oper} {a : Act} {Q : Exit → Act → World → Prop}
theorem wp_append_in {W : World} (base : Nat) (hgd : o.guard = none) (s x : Operand) (t e : TypeId) (z : Value) (bytes : Nat)
    (ho : o.op = .call { callee := .builtin .append, args := #[s, x], argTypes := #[t, t] })
    (ht : P.underlying t = some (.slice e)) (hinfo : (P.info? e).map (fun i => (i.zero, i.size, i.bytes)) = some (some z, 1, bytes)) (hz : z.cells.size = 1) (hb0 : 0 < bytes)
    (v : Value) (xs ys : List Value) (ao : Option Addr) (m c : Nat) (hs : a.eval s = v) (hx : a.eval x = .slice ao m c) (hm : ys.length = m) (h1 : ∀ u ∈ ys, u.oneCell' = true)
    (hys : RowAt W ao ys) (hao : ao = none → m = 0 ∧ c = 0)
    (HO : W.ownsRow base e 1 v xs.length xs) (hbase : base ≤ W.heap.size) (N : Nat) (hl : xs.length + m ≤ N) (hv : Roomy N v xs.length)
    (h : ∀ v1 w1, Roomy N v1 (xs ++ ys).length → w1.ownsRow base e 1 v1 (xs ++ ys).length (xs ++ ys) → Below base W w1 → wpList P ops Q rest (a.put o.dst v1) w1) :
    wpList P ops Q (o :: rest) a W := by
  rcases hv with h0 | ⟨g, cap, rfl, hcap⟩
  · exact wp_append_all base hgd s x t e z bytes ho ht hinfo hz hb0 v xs ys ao m c hs hx hm h1 hys hao HO hbase (by rw [show xs.length + m = 0 by omega]; omega) fun v1 w1 h2 h3 => h v1 w1 (.inl h0) h2 h3
  · obtain ⟨i0, hi, hz0, hz1, hz2⟩ := info_parts hinfo
    have hbg : base ≤ g := by
      rcases HO.2 with ⟨hv, _⟩ | ⟨g', cap', cur, hv, hb, _⟩
      · cases hv
      · cases hv; exact hb
    cases ao with
    | none =>
      obtain ⟨rfl, rfl⟩ := hao rfl
      obtain rfl : ys = [] := List.eq_nil_of_length_eq_zero hm
      exact wpList_append_own_none hgd s x t ho base e i0 1 ht hi _ xs.length xs hs HO hx (h _ W (.inr ⟨g, cap, by simp, hcap⟩) (by simpa using HO) (Below.refl _ _))
    | some ad =>
      refine wpList_append_fits W hgd s x t ho base e i0 1 ht hi hz1 g xs.length cap xs hs HO ad m c ys hx (by omega) ?_ h1 (by omega) ?_
      · intro j u hj
        rcases hys with rfl | ⟨b, off, he, hc⟩
        · simp at hj
        · cases he
          obtain ⟨hj1, rfl⟩ := List.getElem?_eq_some_iff.1 hj
          have ha : (⟨b, off, none⟩ : Addr).add j = ⟨b, off + j, none⟩ := by unfold Addr.add; split <;> simp_all
          rw [ha]; exact hc j hj1
      · intro w' h2 h3
        have hlen : xs.length + m = (xs ++ ys).length := by rw [List.length_append]; omega
        rw [hlen] at h2
        have := h _ w' (.inr ⟨g, cap, rfl, hcap⟩) h2 ((Below.refl base W).grown h3 hbase (fun k hk => by cases hk; exact hbg))
        rw [hlen]; exact this
end
theorem nextcap_zero (n : Nat) (h : 0 < n) : Builtin.nextslicecap n 0 = n := by
  unfold Builtin.nextslicecap; simp [h]
theorem slices_Grow (n : Nat) (hn : n * 16 ≤ 281474976710656) (w : World) :
    Calls Tryd.prog 97 #[.slice none 0 0, .int .i64 n] w fun e w' => ∃ v, e = .returned v ∧ Roomy n v 0 ∧ w'.ownsRow w.heap.size 9 1 v 0 [] ∧ Below w.heap.size w w' := by
  rcases Nat.eq_zero_or_pos n with rfl | h0
  · go_enter Tryd.func97, Tryd.ntmps97
    go_wp2_with fail
    go_ret
    exact ⟨_, rfl, .inl rfl, World.ownsRow_nil _ _ _ _, Below.refl _ _⟩
  · obtain ⟨i0, hi, hz0, hz1, hz2⟩ := info_parts info_str
    have hrz : ∀ ty, (Builtin.append_ #[22, 3] ty #[.slice none 0 0, .int .i64 (n : Int)]).run Tryd.prog w = .ok (.slice (some ⟨w.heap.size, 0, none⟩) n (grownCap w n 0 9)) (w.drew.alloc (.cells (Builtin.zeroCells (Value.cells (.string ⟨#[]⟩)) n ++ Builtin.zeroCells (Value.cells (.string ⟨#[]⟩)) (grownCap w n 0 9 - n)) 9)) := fun ty => by
      have h := Lib.run_append_grow_zeros w 22 3 ty 9 i0 (.string ⟨#[]⟩) .i64 .i64 Tryd.underlying22 Tryd.underlying3 hi hz0 none 0 0 [] (run_firstCells_none w.drew i0.size 0 0 0) n h0 (by omega) (by omega) (by omega) (by rw [hz2]; omega)
        (by rw [Nat.zero_add, nextcap_zero n h0, hz2]; omega)
      simpa using h
    have hG := grownCap_ge w n 0 9
    have hG2 := grownCap_le_maxLen w n 0 9 (by unfold maxLen; omega)
    obtain ⟨G, hGe⟩ : ∃ G, G = grownCap w n 0 9 := ⟨_, rfl⟩
    rw [← hGe] at hrz hG hG2
    unfold maxLen at hG2
    have HM := hid (World.ownsRow_made (e := 9) (base := w.heap.size) (size := 1) w.drew (Builtin.zeroCells (Value.cells (.string ⟨#[]⟩)) n ++ Builtin.zeroCells (Value.cells (.string ⟨#[]⟩)) (G - n)) G (Nat.le_refl _) (by unfold maxLen; omega) (by simp only [Array.size_append, size_zeroCells]; simp [Value.cells]; omega))
    have hni : (0 : Int) < (n : Int) := by omega
    have HRZ := hid hrz
    clear hGe hi hz0 hz1 hz2 hrz
    have hrz := HRZ.out
    clear HRZ
    generalize Builtin.zeroCells (Value.cells (.string ⟨#[]⟩)) n ++ Builtin.zeroCells (Value.cells (.string ⟨#[]⟩)) (G - n) = cells at *
    have HRZ := hid hrz
    clear hrz
    go_enter Tryd.func97, Tryd.ntmps97
    go_wp2_with (at_builtin; refine wp_append_run w rfl (.tmp 20) (.tmp 21) 22 3 rfl _ _ rfl rfl (HRZ.out _) ?_)
    go_ret
    exact ⟨_, rfl, .inr ⟨_, _, rfl, hG⟩, HM.out, (Below.refl _ _).drew.alloc (Nat.le_refl _) _⟩

theorem slices_Concat (b : Nat) (ps : List Pc) (cap : Nat) (hps : ps.length ≤ 1000) (hl : (pcs ps).length * 16 ≤ 281474976710656) (w : World) (hp : PcsAt b ps w) :
    Calls Tryd.prog 72 #[.slice (some ⟨b, 0, none⟩) ps.length cap] w fun e w' => ∃ v, e = .returned v ∧ w'.ownsRow w.heap.size 9 1 v (strs' (pcs ps)).length (strs' (pcs ps)) ∧ Below w.heap.size w w' := by
  have HP := hid hp
  have HGr := hid (slices_Grow (pcs ps).length hl)
  clear hp
  go_enter Tryd.func72, Tryd.ntmps72
  go_wp2_with fail
  go_loop [3, 11] (fun s i => ∃ k : Nat, k ≤ ps.length ∧ i = .int .i64 k ∧ s = .int .i64 (pcs (ps.take k)).length) (fun _ i => ps.length - (intOf i).toNat)
  case atStart => exact ⟨0, by omega, rfl, rfl⟩
  case round =>
    obtain ⟨k, hk, rfl, rfl⟩ := hrel
    have hle := pcs_le ps k
    by_cases hlt : k < ps.length
    · have hc := HP.out.cell k hlt
      have hs : (pcs (ps.take (k + 1))).length = (pcs (ps.take k)).length + ps[k].xs.length := by rw [pcs_snoc ps k hlt, List.length_append]
      have hle2 := pcs_le ps (k + 1)
      rw [hs] at hle2
      have HS := hid hs
      unfold Pc.val at hc
      clear hs
      obtain ⟨m, hm⟩ : ∃ m, m = (pcs (ps.take k)).length := ⟨_, rfl⟩
      rw [← hm] at hle hle2 HS ⊢
      obtain ⟨q, hq⟩ : ∃ q, q = ps[k].xs.length := ⟨_, rfl⟩
      rw [← hq] at hle2 HS hc
      clear hm hq
      have hng : ¬ ((m : Int) + (q : Int)) < 0 := by omega
      go_wp2_with fail
      go_round
      case rel => exact ⟨k + 1, by omega, by go_num, by rw [HS.out]; go_num⟩
      case measure => simp [intOf]; omega
    · obtain rfl : k = ps.length := by omega
      rw [List.take_of_length_le (Nat.le_refl _)]
      clear hle
      go_wp2_with fail
      refine (HGr.out _).mono ?_
      rintro e w1 ⟨v, rfl, hrm, hown, hb1⟩
      have HRm := hid hrm
      have HO := hid hown
      have HB := hid hb1
      clear hown hb1 hrm
      go_wp2_with fail
      go_loopw [6, 27] (fun v' i wr => ∃ k : Nat, k ≤ ps.length ∧ i = .int .i64 k ∧ Roomy (pcs ps).length v' (strs' (pcs (ps.take k))).length ∧ wr.ownsRow w.heap.size 9 1 v' (strs' (pcs (ps.take k))).length (strs' (pcs (ps.take k))) ∧ Below w.heap.size w wr) (fun _ i _ => ps.length - (intOf i).toNat)
      case atStart => exact ⟨0, by omega, rfl, HRm.out, HO.out, HB.out⟩
      case round =>
        clear HO HB HGr HRm
        obtain ⟨k, hk, rfl, hrm, hown, hbw⟩ := hrel
        by_cases hlt : k < ps.length
        · have hq := HP.out.below hbw
          have hc := hq.cell k hlt
          have hrow := hq.row k hlt
          have hnil := hq.nil k hlt
          have hs : strs' (pcs (ps.take (k + 1))) = strs' (pcs (ps.take k)) ++ strs' ps[k].xs := by rw [pcs_snoc ps k hlt]; simp [strs']
          have hle2 := pcs_le ps (k + 1)
          rw [pcs_snoc ps k hlt, List.length_append] at hle2
          have HS := hid hs
          have HL : Hid ((strs' (pcs (ps.take k))).length + ps[k].xs.length ≤ (pcs ps).length) := by unfold Hid; rw [strs'_length]; omega
          have HRm := hid hrm
          unfold Pc.val at hc
          have HO := hid hown
          have HB := hid hbw
          have HRow := hid hrow
          have HNil := hid hnil
          clear hs hown hbw hrow hnil hq hle2 hrm
          generalize ps[k] = p at *
          obtain ⟨ao, xs, pc⟩ := p
          simp only at hc HS HL HRow HNil
          go_wp2_with (at_builtin; refine wp_append_in w.heap.size rfl (.tmp 31) (.tmp 32) 22 9 (.string ⟨#[]⟩) 16 rfl Tryd.underlying22 info_str rfl (by omega) _ (strs' (pcs (ps.take k))) (strs' xs) ao xs.length pc rfl rfl (strs'_length xs) (strs_one xs) HRow.out HNil.out HO.out HB.out.size (pcs ps).length HL.out HRm.out ?_; intro v1 w1 hrm1 hown1 hb1; rw [← HS.out] at hown1 hrm1; have HRm1 := hid hrm1; have H1 := hid hown1; have B1 := hid (HB.out.trans hb1); clear hown1 hb1)
          go_roundw
          case rel => exact ⟨k + 1, by omega, by go_num, HRm1.out, H1.out, B1.out⟩
          case measure => simp [intOf]; omega
        · obtain rfl : k = ps.length := by omega
          rw [List.take_of_length_le (Nat.le_refl _)] at hown
          have HO := hid hown
          have HB := hid hbw
          clear hown hbw hrm
          go_wp2_with fail
          go_ret
          exact ⟨_, rfl, HO.out, HB.out⟩
end Go.Proofs.YtcgfeeommhljgaaDoor
