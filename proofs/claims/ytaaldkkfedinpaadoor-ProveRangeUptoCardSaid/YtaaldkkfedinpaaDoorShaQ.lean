/- annalsref2.padded: the text padded whole. -/
import Derived.Test.YtaaldkkfedinpaaDoorShaK
import Derived.Test.YtaaldkkfedinpaaDoorShaB
import Derived.Deep.AppendLies
set_option maxRecDepth 100000
namespace Go.Proofs.YtaaldkkfedinpaaDoor
open Go Go.RowKit

/-- A row of one-cell elements that may be appended to, told by its cells alone. -/
def RowQ (base : Nat) (v : Value) (xs : List Value) (w : World) : Prop :=
  ∃ g cap, v = .slice (some ⟨g, 0, none⟩) xs.length cap ∧ base ≤ g ∧ g < w.heap.size ∧ xs.length ≤ cap ∧ (∀ j (h : j < xs.length), w.cell? ⟨g, j, none⟩ = some xs[j]) ∧
    ∀ j, xs.length ≤ j → j < cap → (w.cell? ⟨g, j, none⟩).isSome = true ∧ w.frozen? ⟨g, j, none⟩ = false
theorem RowQ.alloc {base : Nat} {v : Value} {xs : List Value} {w : World} (h : RowQ base v xs w) (o : Obj) : RowQ base v xs (w.alloc o) := by
  obtain ⟨g, cap, hv, hb, hg, hle, hc, hs⟩ := h
  have e : ∀ j, (w.alloc o).cell? ⟨g, j, none⟩ = w.cell? ⟨g, j, none⟩ := fun j => World.cell?_of_block (w := w) (Below.heap_alloc w o g hg)
  have f : ∀ j, (w.alloc o).frozen? ⟨g, j, none⟩ = w.frozen? ⟨g, j, none⟩ := fun j => World.frozen?_of_block (w := w) (Below.heap_alloc w o g hg)
  exact ⟨g, cap, hv, hb, by simp; omega, hle, fun j hj => by rw [e]; exact hc j hj, fun j h1 h2 => by rw [e, f]; exact hs j h1 h2⟩
theorem RowQ.of_own {base base' n : Nat} {e : TypeId} {v : Value} {xs : List Value} {w : World} (h : w.ownsRow base' e 1 v n xs) (h0 : 0 < xs.length) (hb : base ≤ base') : RowQ base v xs w := by
  have hl : xs.length = n := by have := h.1; omega
  rcases h.2 with ⟨_, h1⟩ | ⟨g, cap, cur, rfl, hbb, hg, hn, hm, hs, ht⟩
  · omega
  · refine ⟨g, cap, by rw [hl], by omega, (Array.getElem?_eq_some_iff.1 hg).1, by omega, fun j hj => ?_, fun j h1 h2 => ⟨?_, by simp [World.frozen?, hg]⟩⟩
    · rw [h.cellAt j (by omega), List.getElem?_eq_getElem hj]
    · rw [cell_of_row w g j cur e (0, 0) hg]
      simp; omega
theorem RowQ.cells {base : Nat} {v : Value} {xs : List Value} {w : World} (h : RowQ base v xs w) : ∃ g cap, v = .slice (some ⟨g, 0, none⟩) xs.length cap ∧ base ≤ g ∧ RowAt w (some ⟨g, 0, none⟩) xs := by
  obtain ⟨g, cap, hv, hb, _, _, hc, _⟩ := h
  exact ⟨g, cap, hv, hb, .inr ⟨g, 0, rfl, fun i hi => by rw [Nat.zero_add]; exact hc i hi⟩⟩
section
variable {P : Program} {ops : Array Oper} {rest : List Oper} {o : Oper} {a : Act} {Q : Exit → Act → World → Prop}
/-- v = append(v, y), v such a row: behind 'at_builtin'. -/
theorem wp_append_q {W : World} (base : Nat) (hgd : o.guard = none) (s x : Operand) (t e : TypeId) (z : Value) (bytes : Nat)
    (ho : o.op = .call { callee := .builtin .append, args := #[s, x], argTypes := #[t, t] })
    (ht : P.underlying t = some (.slice e)) (hinfo : (P.info? e).map (fun i => (i.zero, i.size, i.bytes)) = some (some z, 1, bytes)) (hz : z.cells.size = 1) (hb0 : 0 < bytes)
    (v : Value) (xs : List Value) (y : Value) (hs : a.eval s = v) (hx : a.eval x = .slice (some ⟨W.heap.size, 0, none⟩) 1 1) (h1 : y.oneCell' = true)
    (HO : RowQ base v xs W) (hbase : base ≤ W.heap.size) (hl : (xs.length + 1) * bytes ≤ 140737488355328)
    (h : ∀ v1 w1, RowQ base v1 (xs ++ [y]) w1 → Below base W w1 → wpList P ops Q rest (a.put o.dst v1) w1) :
    wpList P ops Q (o :: rest) a (W.alloc (.cells #[y] e)) := by
  obtain ⟨i0, hi, hz0, hz1, hz2⟩ := info_parts hinfo
  have hlen : xs.length + 1 ≤ 140737488355328 := Nat.le_trans (Nat.le_mul_of_pos_right _ hb0) hl
  obtain ⟨g, cap, hv, hb, hg, hle, hc, hsp⟩ := HO.alloc (.cells #[y] e)
  refine wpList_append_arg (W.alloc (.cells #[y] e)) hgd s x t ho e i0 z 1 bytes ht hi hz0 hz1 hz2 hz (by omega) g 0 xs.length cap xs (by rw [hs, hv]) (by omega) ?_ ⟨W.heap.size, 0, none⟩ 1 1 [y] hx rfl ?_ (by simpa using h1) ?_
    (by unfold maxLen; omega) hl ?_ ?_
  · intro j u hj
    obtain ⟨hj1, rfl⟩ := List.getElem?_eq_some_iff.1 hj
    rw [Nat.zero_add]; exact hc j hj1
  · intro j u hj
    match j, hj with
    | 0, hj => simp at hj; subst hj; simp [Addr.add, go_sem]
  · intro hr j hj
    have hj0 : j = 0 := by simpa using hj
    subst hj0
    have := hsp xs.length (Nat.le_refl _) (by omega)
    simpa using this
  · intro hr
    have hB : Below base W ((W.alloc (.cells #[y] e)).setCell ⟨g, xs.length, none⟩ y) := ((Below.refl base W).alloc hbase _).setCell hb y
    refine h _ _ ⟨g, cap, by simp, hb, by rw [setCells_size]; exact hg, by simpa using hr, fun j hj => ?_, fun j h2 h3 => ?_⟩ (by simpa [World.setCells] using hB)
    · have hw : ((W.alloc (.cells #[y] e)).setCells g (0 + xs.length * 1) [y]) = (W.alloc (.cells #[y] e)).setCell ⟨g, xs.length, none⟩ y := by simp [World.setCells]
      rw [hw]
      by_cases hjl : j = xs.length
      · subst hjl
        have h0 := (hsp xs.length (Nat.le_refl _) (by omega)).1
        obtain ⟨u, hu⟩ := Option.isSome_iff_exists.1 h0
        rw [World.cell?_setCell_same _ _ _ hu]; simp
      · have hj' : j < xs.length := by simp at hj; omega
        rw [World.cell?_setCell_other _ _ _ _ (by simp <;> omega), hc j hj', List.getElem_append_left hj']
    · have hw : ((W.alloc (.cells #[y] e)).setCells g (0 + xs.length * 1) [y]) = (W.alloc (.cells #[y] e)).setCell ⟨g, xs.length, none⟩ y := by simp [World.setCells]
      rw [hw, World.cell?_setCell_other _ _ _ _ (by simp at h2 ⊢; omega), World.frozen?_setCell]
      simp at h2
      exact hsp j (by omega) h3
  · intro hcap v1 w1 hown hg1
    refine h v1 w1 (RowQ.of_own hown (by simp) (by simp; omega)) ?_
    exact ((Below.refl base W).alloc hbase _).grown hg1 (by simp; omega) (fun k hk => by cases hk)
end

theorem frozen_bytes (w : World) (e : TypeId) (s : ByteArray) (j : Nat) (hj : j < (Go.Lib.bytesCells w e s).size) : (Go.Lib.bytesWorld w e s).frozen? ⟨w.heap.size, j, none⟩ = false := by
  simp [World.frozen?, Go.Lib.bytesWorld_at_new]
  omega
/-- []byte(s). -/
theorem rowQ_bytes (w : World) (e : TypeId) (s : ByteArray) : RowQ w.heap.size (.slice (some ⟨w.heap.size, 0, none⟩) s.size (grownCap w s.size 0 e)) (bytesV s.data.toList) (Go.Lib.bytesWorld w e s) := by
  have hge := grownCap_ge w s.size 0 e
  have hsz : (Go.Lib.bytesCells w e s).size = grownCap w s.size 0 e := by
    have : s.data.size = s.size := rfl
    simp [Go.Lib.bytesCells]; omega
  refine ⟨w.heap.size, grownCap w s.size 0 e, by rw [bytesV_length]; simp, Nat.le_refl _, by rw [Go.Lib.bytesWorld_size]; omega, by rw [bytesV_length]; simpa using hge, fun j hj => ?_, fun j h1 h2 => ⟨?_, frozen_bytes w e s j (by omega)⟩⟩
  · rw [bytesV_length] at hj
    rw [Go.Lib.bytesWorld_cell w e s j (by simpa using hj), bytesV_get _ _ hj, List.getD_eq_getElem?_getD, List.getElem?_eq_getElem hj]; rfl
  · simp [World.cell?, Go.Lib.bytesWorld_at_new]; omega
theorem below_bytes (w : World) (e : TypeId) (s : ByteArray) : Below w.heap.size w (Go.Lib.bytesWorld w e s) :=
  ⟨rfl, rfl, rfl, by rw [Go.Lib.bytesWorld_size]; omega, fun k hk => Go.Lib.bytesWorld_at_old w e s k hk⟩

/-- What is answered is a row that holds these bytes. -/
def RowB (base : Nat) (l : List UInt8) (w : World) (e : Ending) (w' : World) : Prop := ∃ v, e = .returned v ∧ RowQ base v (bytesV l) w' ∧ Below base w w'
theorem rowQ_form {base : Nat} {v : Value} {xs : List Value} {w : World} (h : RowQ base v xs w) : ∃ g cap, v = .slice (some ⟨g, 0, none⟩) xs.length cap := by
  obtain ⟨g, cap, hv, _⟩ := h; exact ⟨g, cap, hv⟩

theorem ref_padded (s : ByteArray) (hs : s.size ≤ 140737488355328 - 200) (w : World) :
    Calls Tryd.prog 148 #[.string s] w (RowB w.heap.size (s.data.toList ++ padT s.size) w) := by
  have hconv : ∀ W : World, (convert 9 137 (.string s)).run Tryd.prog W = .ok (.slice (some ⟨W.heap.size, 0, none⟩) s.size (grownCap W s.size 0 5)) (Go.Lib.bytesWorld W 5 s) :=
    fun W => Go.Lib.run_convert_string_bytes W 9 137 5 s Tryd.underlying9 Tryd.underlying137 Tryd.underlying5
  have R0 := hid (rowQ_bytes w 5 s)
  have B0 := hid (below_bytes w 5 s)
  have hsl : (bytesV s.data.toList).length = s.size := by rw [bytesV_length]; simp
  have hb0 : ((bytesV s.data.toList).length + 1) * 1 ≤ 140737488355328 := by omega
  have HSL := hid hsl
  clear hsl
  obtain ⟨n, hn⟩ : ∃ n, n = s.size := ⟨_, rfl⟩
  go_enter Tryd.func148, Tryd.ntmps148
  go_wp2_with (at_builtin; refine wp_append_q w.heap.size rfl (.tmp 8) (.tmp 9) 137 5 (.int .u8 0) 1 rfl Tryd.underlying137 info_byte rfl (by omega) _ _ _ rfl rfl rfl R0.out B0.out.size hb0 ?_; intro v1 w1 hown1 hb1; have H1 := hid hown1; have HB1 := hid (B0.out.trans hb1); clear hown1 hb1)
  have hz : padZ n < 64 := Nat.mod_lt _ (by omega)
  rw [← hn] at hs HSL
  have hnI : (n : Int) ≤ 140737488355128 := by omega
  have HNN := hid hn
  have Z0 : Hid (RowQ w.heap.size v1 (bytesV (s.data.toList ++ 128 :: List.replicate 0 0)) w1) := by have := H1.out; unfold Hid; rw [bytesV_append]; exact this
  clear H1 R0 B0 hb0 hconv hn
  go_loopw [3] (fun b' wr => ∃ c : Nat, c ≤ padZ n ∧ RowQ w.heap.size b' (bytesV (s.data.toList ++ 128 :: List.replicate c 0)) wr ∧ Below w.heap.size w wr) (fun b' wr => (n + 1000) - rowLen b')
  case atStart => exact ⟨0, by omega, Z0.out, HB1.out⟩
  case round =>
    clear Z0 HB1
    obtain ⟨c, hc, hown, hbw⟩ := hrel
    obtain ⟨g, cap, hv⟩ := rowQ_form hown
    have hL : (bytesV (s.data.toList ++ 128 :: List.replicate c 0)).length = n + (c + 1) := by
      have := HSL.out
      rw [bytesV_append, List.length_append, this]; simp [bytesV]
    rw [hL] at hv
    subst hv
    have HO := hid hown
    have HB := hid hbw
    have HL := hid hL
    have HZ : Hid (bytesV (s.data.toList ++ 128 :: List.replicate (c + 1) 0) = bytesV (s.data.toList ++ 128 :: List.replicate c 0) ++ [.int .u8 0]) := by
      unfold Hid; rw [bytesV_append, bytesV_zero [] c, bytesV_append, List.append_assoc]
    clear hown hbw hL
    by_cases hlt : c < padZ n
    · have hne : ¬ ((n : Int) + ((c : Int) + 1)) % 64 = 56 := by unfold padZ at hlt; omega
      have hbt : (((n : Int) + ((c : Int) + 1)) % 64 != 56) = true := by simp [bne_iff_ne, hne]
      have HB0 := hid HB.out.size
      have hbytes : ((bytesV (s.data.toList ++ 128 :: List.replicate c 0)).length + 1) * 1 ≤ 140737488355328 := by rw [HL.out]; omega
      go_wp2_with (at_builtin; refine wp_append_q w.heap.size rfl (.tmp 15) (.tmp 16) 137 5 (.int .u8 0) 1 rfl Tryd.underlying137 info_byte rfl (by omega) _ _ _ rfl rfl rfl HO.out HB0.out hbytes ?_; intro v1 w1 hown1 hb1; rw [← HZ.out] at hown1; have H1 := hid hown1; have HB1 := hid hb1; clear hown1 hb1)
      go_roundw
      case rel => exact ⟨c + 1, by omega, H1.out, HB.out.trans HB1.out⟩
      case measure =>
        obtain ⟨g1, c1, e1⟩ := rowQ_form H1.out
        rw [e1]
        have := HSL.out
        simp only [rowLen]
        rw [bytesV_append, List.length_append, this]
        simp [bytesV]
        omega
    · obtain rfl : c = padZ n := by omega
      have hne : (((n : Int) + ((padZ n : Int) + 1)) % 64) = 56 := by unfold padZ; omega
      have hbt : (((n : Int) + ((padZ n : Int) + 1)) % 64 != 56) = false := by simp [hne]
      have hm : (n : Int) * 8 % 18446744073709551616 = (n : Int) * 8 := by omega
      have hszn : ((s.size : Nat) : Int) = (n : Int) := by rw [HNN.out]
      clear hne
      go_wp2_with fail
      obtain ⟨T, hT⟩ : ∃ T, T = s.data.toList ++ 128 :: List.replicate (padZ n) 0 := ⟨_, rfl⟩
      have HTT := hid hT
      rw [← hT] at HO HL
      clear hT hm hszn hbt HZ
      go_loopw [3, 5] (fun b' i' wr => ∃ i : Nat, i ≤ 8 ∧ i' = .int .i64 i ∧ RowQ w.heap.size b' (bytesV (T ++ beP (8 * n) 8 i)) wr ∧ Below w.heap.size w wr) (fun _ i' _ => 8 - (intOf i').toNat)
      case atStart => exact ⟨0, by omega, rfl, by simpa [beP] using HO.out, HB.out⟩
      case round =>
        clear HO HB
        obtain ⟨i, hi, rfl, hown, hbw⟩ := hrel
        have HO := hid hown
        have HB := hid hbw
        clear hown hbw
        by_cases hlt : i < 8
        · have HB0 := hid HB.out.size
          have hbytes : ((bytesV (T ++ beP (8 * n) 8 i)).length + 1) * 1 ≤ 140737488355328 := by
            have := HL.out
            rw [bytesV_length] at this ⊢
            rw [List.length_append, beP_length]; omega
          have HN : Hid (bytesV (T ++ beP (8 * n) 8 (i + 1)) = bytesV (T ++ beP (8 * n) 8 i) ++ [.int .u8 ((n : Int) * 8 / 2 ^ (56 - 8 * i) % 256)]) := by
            unfold Hid
            rw [beP_succ, ← List.append_assoc, bytesV_snoc, show 8 * (8 - 1 - i) = 56 - 8 * i by omega, Nat.mul_comm 8 n]
            simp
          have f1 : (0 : Int) ≤ 56 - 8 * (i : Int) := by omega
          have f2 : (56 - 8 * (i : Int)).toNat = 56 - 8 * i := by omega
          go_wp2_with (at_builtin; refine wp_append_q w.heap.size rfl (.tmp 26) (.tmp 34) 137 5 (.int .u8 0) 1 rfl Tryd.underlying137 info_byte rfl (by omega) _ _ _ rfl rfl rfl HO.out HB0.out hbytes ?_; intro v1 w1 hown1 hb1; rw [← HN.out] at hown1; have H1 := hid hown1; have HB1 := hid hb1; clear hown1 hb1)
          go_roundw
          case rel => exact ⟨i + 1, by omega, by go_num, H1.out, HB.out.trans HB1.out⟩
          case measure => simp [intOf]; omega
        · obtain rfl : i = 8 := by omega
          go_wp2_with fail
          go_ret
          refine ⟨_, rfl, ?_, HB.out⟩
          have h := HO.out
          rw [HTT.out] at h
          rw [← HNN.out]
          unfold padT
          simpa [be] using h
end Go.Proofs.YtaaldkkfedinpaaDoor
