/- Walks of wire.UnLeaves and of the reference's. -/
import Derived.Test.YtocjjiacmedjmaaRd
import Derived.Test.YtocjjiacmedjmaaArgs
import Derived.Deep.RegionLaw
import Derived.Deep.AppendLies
set_option maxRecDepth 100000
namespace Go.Proofs.Ytocjjiacmedjmaa
open Go Go.RowKit

section
variable {P : Program} {ops : Array Oper} {o : Oper} {a : Act} {K : Act → World → Prop} {Q : Exit → Act → World → Prop} {E : Prop}
/-- v = append(v, y), v a row of the call's own: at a step of a region that draws. -/
theorem step_append1 {W : World} (base : Nat) (hgd : o.guard = none) (s x : Operand) (t e : TypeId) (z : Value) (bytes : Nat)
    (ho : o.op = .call { callee := .builtin .append, args := #[s, x], argTypes := #[t, t] })
    (ht : P.underlying t = some (.slice e)) (hinfo : (P.info? e).map (fun i => (i.zero, i.size, i.bytes)) = some (some z, 1, bytes)) (hz : z.cells.size = 1) (hb0 : 0 < bytes)
    (v : Value) (xs : List Value) (y : Value) (hs : a.eval s = v) (hx : a.eval x = .slice (some ⟨W.heap.size, 0, none⟩) 1 1) (h1 : y.oneCell' = true)
    (HO : W.ownsRow base e 1 v xs.length xs) (hbase : base ≤ W.heap.size) (hl : (xs.length + 1) * bytes ≤ 140737488355328)
    (h : ∀ g cap w1, w1.ownsRow base e 1 (.slice (some ⟨g, 0, none⟩) (xs.length + 1) cap) (xs ++ [y]).length (xs ++ [y]) → Below base W w1 → K (a.put o.dst (.slice (some ⟨g, 0, none⟩) (xs.length + 1) cap)) w1) :
    if Region.wanted o (yielded ops a.tmps) = true then Oper.wp P o a (W.alloc (.cells #[y] e)) K Q else E := by
  obtain ⟨i0, hi, hz0, hz1, hz2⟩ := info_parts hinfo
  have hlen : xs.length + 1 ≤ 140737488355328 := Nat.le_trans (Nat.le_mul_of_pos_right _ hb0) hl
  refine step_append_lies (W.alloc (.cells #[y] e)) hgd s x t ho base e i0 z 1 bytes ht hi hz0 hz1 hz2 hz (by omega) v xs.length xs hs (HO.alloc _) ⟨W.heap.size, 0, none⟩ 1 1 [y] hx rfl
    ?_ (by simpa using h1) (by omega) (by unfold maxLen; omega) hl (by simp; omega) _ rfl ?_
  · intro j u hj
    match j, hj with
    | 0, hj => simp at hj; subst hj; simp [Addr.add, go_sem]
  · intro g cap w1 hown hg _ _
    refine h g cap w1 (by simpa using hown) ?_
    refine ((Below.refl base W).alloc hbase _).grown hg (by simp; omega) ?_
    intro k hk
    exact (HO.lt k hk).1
end

/-- Leaves read, at most n more. -/
def rdLeaves (s : ByteArray) : Nat → St → List ByteArray → List ByteArray × St
  | 0, st, acc => (acc, st)
  | n + 1, st, acc => match st with
    | .error k => (acc, .error k)
    | .ok p => rdLeaves s n (rdBytes s (rdNum s 4096 121 (.ok p)).1 (rdNum s 4096 121 (.ok p)).2).2 (acc ++ [(rdBytes s (rdNum s 4096 121 (.ok p)).1 (rdNum s 4096 121 (.ok p)).2).1])
def unLeavesSt (s : ByteArray) : List ByteArray × St := rdLeaves s (rdNum s 1024 83 (rdMark s 76 (.ok 0))).1 (rdNum s 1024 83 (rdMark s 76 (.ok 0))).2 []
/-- The leaves read, and the refusal. -/
def unLeaves (s : ByteArray) : List ByteArray × Int := if rdEnd s (unLeavesSt s).2 = 0 then ((unLeavesSt s).1, 0) else ([], rdEnd s (unLeavesSt s).2)

theorem Rd.upto {b B : Nat} {s : ByteArray} {st : St} {w w' : World} (h : Rd b s st w) (hb : Below B w w') (hl : b < B) : Rd b s st w' := by
  have hc : ∀ i, w'.cell? ⟨b, i, none⟩ = w.cell? ⟨b, i, none⟩ := fun _ => hb.cell hl
  have hf : ∀ i, w'.frozen? ⟨b, i, none⟩ = w.frozen? ⟨b, i, none⟩ := fun _ => hb.frozen hl
  unfold Rd at h ⊢
  rw [hc, hf, hf]
  refine ⟨h.1, h.2.1, h.2.2.1, ?_⟩
  have h4 := h.2.2.2
  cases st <;> simpa only [hc] using h4
theorem Rd.far {b : Nat} {s : ByteArray} {st : St} {w : World} (h : Rd b s st w) {i : Nat} (hi : 3 ≤ i) (v : Value) : Rd b s st (w.setCell ⟨b, i, none⟩ v) := by
  have hc : ∀ j, j < 3 → (w.setCell ⟨b, i, none⟩ v).cell? ⟨b, j, none⟩ = w.cell? ⟨b, j, none⟩ := fun j hj => World.cell?_setCell_other _ _ _ _ (by intro e; cases e; omega)
  unfold Rd at h ⊢
  rw [hc 0 (by decide)]
  refine ⟨h.1, by simpa using h.2.1, by simpa using h.2.2.1, ?_⟩
  have h4 := h.2.2.2
  cases st <;> simpa only [hc 1 (by decide), hc 2 (by decide)] using h4

theorem box_leaves (s : ByteArray) (w : World) : Rd w.heap.size s (.ok 0) (w.alloc (.cells #[.string s, .int .i64 0, .int .i64 0, .slice none 0 0] 98)) := by
  refine ⟨by simp [go_sem], by simp [go_sem], by simp [go_sem], by simp [go_sem], by simp [go_sem], by omega⟩

theorem rdLeaves_no (s : ByteArray) (n : Nat) (k : Int) (acc : List ByteArray) : rdLeaves s n (.error k) acc = (acc, .error k) := by
  cases n <;> rfl
theorem rdLeaves_step (s : ByteArray) (n : Nat) (p : Nat) (acc : List ByteArray) : rdLeaves s (n + 1) (.ok p) acc =
    rdLeaves s n (rdBytes s (rdNum s 4096 121 (.ok p)).1 (rdNum s 4096 121 (.ok p)).2).2 (acc ++ [(rdBytes s (rdNum s 4096 121 (.ok p)).1 (rdNum s 4096 121 (.ok p)).2).1]) := rfl
theorem rdLeaves_step' (s : ByteArray) (m n : Nat) (p : Nat) (acc : List ByteArray) (h : m = n + 1) : rdLeaves s m (.ok p) acc =
    rdLeaves s n (rdBytes s (rdNum s 4096 121 (.ok p)).1 (rdNum s 4096 121 (.ok p)).2).2 (acc ++ [(rdBytes s (rdNum s 4096 121 (.ok p)).1 (rdNum s 4096 121 (.ok p)).2).1]) := by subst h; rfl
theorem own_mono {B B' : Nat} {e : TypeId} {v : Value} {n : Nat} {xs : List Value} {w : World} (h : w.ownsRow B e 1 v n xs) (hB : B' ≤ B) : w.ownsRow B' e 1 v n xs := by
  refine ⟨h.1, ?_⟩
  rcases h.2 with h | ⟨g, cap, cur, h1, h2, h3⟩
  · exact .inl h
  · exact .inr ⟨g, cap, cur, h1, by omega, h3⟩
theorem info_string : (Try.prog.info? 9).map (fun i => (i.zero, i.size, i.bytes)) = some (some (.string ⟨#[]⟩), 1, 16) := by kernel_rfl
theorem own_only {B b : Nat} {e : TypeId} {v : Value} {n : Nat} {xs : List Value} {w w' : World} (h : w.ownsRow B e 1 v n xs) (hb : Only b w w') (hlt : b < B) : w'.ownsRow B e 1 v n xs := by
  refine h.kept (row := some b) ⟨hb.os, hb.tape, hb.output, hb.size, fun k hk hne => hb.block k (fun e => hne (by rw [e])) hk⟩ ?_
  rcases h.2 with ⟨rfl, _⟩ | ⟨g, cap, cur, rfl, hg, _⟩
  · simp [Value.ownBlock]
  · simp [Value.ownBlock]; omega

set_option maxHeartbeats 2000000 in
theorem wire_UnLeaves (s : ByteArray) (hs : s.size ≤ 140737488355328) (w : World) :
    Calls Try.prog 21 #[.string s] w fun e w' => ∃ v, e = .returned (.tuple #[v, .int .i64 (unLeaves s).2]) ∧ w'.ownsRow w.heap.size 9 1 v (strs' (unLeaves s).1).length (strs' (unLeaves s).1) ∧ Below w.heap.size w w' := by
  have hle := rdNum_le s 1024 83 (rdMark s 76 (.ok 0))
  have hdef : unLeavesSt s = rdLeaves s (rdNum s 1024 83 (rdMark s 76 (.ok 0))).1 (rdNum s 1024 83 (rdMark s 76 (.ok 0))).2 [] := rfl
  have hnum := hid (fun W (hW : Rd w.heap.size s (rdMark s 76 (.ok 0)) W) => wire_readNumber w.heap.size s (rdMark s 76 (.ok 0)) 1024 83 (by decide) (by decide) hs W hW)
  obtain ⟨r1, hr1⟩ : ∃ r, r = rdNum s 1024 83 (rdMark s 76 (.ok 0)) := ⟨_, rfl⟩
  rw [← hr1] at hle hdef hnum
  obtain ⟨n1, st1⟩ := r1
  simp only at hle hdef hnum
  have HDEF := hid hdef
  have hmark := hid (wire_mark w.heap.size s (.ok 0) 76 (by decide) hs _ (box_leaves s w))
  clear hdef hr1
  have hB0 : Hid (Below w.heap.size w (w.alloc (.cells #[.string s, .int .i64 0, .int .i64 0, .slice none 0 0] 98))) := (Below.refl _ _).alloc (Nat.le_refl _) _
  go_enter Try.func21, Try.ntmps21
  go_wp2_with fail
  refine hmark.out.mono ?_
  rintro e w1 ⟨rfl, h1, b1⟩
  have H1 := hid h1; have B1 := hid (hB0.out.trans (b1.below (Nat.le_refl _) (by simp)))
  have hc3 : w1.cell? ⟨w.heap.size, 3, none⟩ = some (.slice none 0 0) := by rw [b1.cell 3 (by decide) (by decide)]; simp [go_sem]
  have hf3 : w1.frozen? ⟨w.heap.size, 3, none⟩ = false := by rw [b1.frozen]; simp [go_sem]
  have hsz1 : w.heap.size + 1 ≤ w1.heap.size := by have := b1.size; simpa using this
  have HC3 := hid hc3; have HF3 := hid hf3
  clear h1 b1 hc3 hf3 hB0 hmark
  go_wp2_with fail
  refine (hnum.out _ H1.out).mono ?_
  rintro e w2 ⟨rfl, h2, b2⟩
  have H2 := hid h2; have B2 := hid (B1.out.trans (b2.below (Nat.le_refl _) (by omega)))
  have hc3 : w2.cell? ⟨w.heap.size, 3, none⟩ = some (.slice none 0 0) := by rw [b2.cell 3 (by decide) (by decide)]; exact HC3.out
  have hf3 : w2.frozen? ⟨w.heap.size, 3, none⟩ = false := by rw [b2.frozen]; exact HF3.out
  have hsz2 : w.heap.size + 1 ≤ w2.heap.size := Nat.le_trans hsz1 b2.size
  have HC := hid hc3; have HF := hid hf3
  clear h2 b2 hc3 hf3 HC3 HF3 B1 H1 hsz1
  go_wp2_with fail
  go_loopw [6] (fun i' wr => ∃ (i : Nat) (acc : List ByteArray) (st : St) (v : Value), i' = .int .i64 i ∧ i ≤ n1 ∧ acc.length ≤ i ∧ Rd w.heap.size s st wr ∧ wr.cell? ⟨w.heap.size, 3, none⟩ = some v ∧
    wr.frozen? ⟨w.heap.size, 3, none⟩ = false ∧ wr.ownsRow (w.heap.size + 1) 9 1 v (strs' acc).length (strs' acc) ∧ rdLeaves s (n1 - i) st acc = rdLeaves s n1 st1 [] ∧ Below w.heap.size w wr ∧ w.heap.size + 1 ≤ wr.heap.size) (fun i' _ => (n1 - intOf i').toNat)
  case atStart => exact ⟨0, [], st1, .slice none 0 0, rfl, by omega, by simp, H2.out, HC.out, HF.out, World.ownsRow_nil _ _ _ _, rfl, B2.out, hsz2⟩
  case round =>
    clear H2 HC HF B2 hsz2
    obtain ⟨i, acc, st, v, rfl, hi, hacc, hrd, hc3, hf3, hown, hrest, hbw, hsz⟩ := hrel
    have HRD := hid hrd
    have HO := hid hown
    have HB := hid hbw
    have HREST := hid hrest
    clear hown hbw hrest
    by_cases hlt : i < n1
    · cases st with
      | error k =>
        have hstop : rdLeaves s (n1 - i) (.error k) acc = (acc, .error k) := rdLeaves_no _ _ _ _
        obtain ⟨c0, f1, f2, hk, c2, q, c1, hq⟩ := hrd
        have hk' : (k == 0) = false := beq_eq_false_iff_ne.2 hk
        have HU : Hid (unLeavesSt s = (acc, .error k)) := HDEF.out.trans (HREST.out.symm.trans hstop)
        have hend := hid (fun W (hW : Rd w.heap.size s (.error k) W) => wire_end w.heap.size s (.error k) W hW)
        clear hstop HREST
        go_wp2_with fail
        refine (hend.out _ HRD.out).mono ?_
        rintro e w3 ⟨rfl, b3⟩
        have hc3' : w3.cell? ⟨w.heap.size, 3, none⟩ = some v := by rw [b3.cell 3 (by decide) (by decide)]; exact hc3
        have HO3 := hid (own_only HO.out b3 (by omega))
        have HB3 := hid (HB.out.trans (b3.below (Nat.le_refl _) (by omega)))
        clear b3 HO HB
        by_cases h0 : rdEnd s (.error k) = 0
        · have HR : Hid (unLeaves s = (acc, 0)) := by unfold Hid unLeaves; rw [HU.out]; simp only [if_pos h0]
          go_wp2_with fail
          go_ret2
          exact ⟨v, by rw [HR.out]; rfl, by rw [HR.out]; exact own_mono HO3.out (by omega), HB3.out⟩
        · have HR : Hid (unLeaves s = ([], rdEnd s (.error k))) := by unfold Hid unLeaves; rw [HU.out]; simp only [if_neg h0]
          have h0' : (rdEnd s (.error k) == 0) = false := beq_eq_false_iff_ne.2 h0
          go_wp2_with fail
          go_ret2
          exact ⟨.slice none 0 0, by rw [HR.out]; rfl, by rw [HR.out]; exact World.ownsRow_nil _ _ _ _, HB3.out⟩
      | ok p =>
        have HST := hid (HREST.out.symm.trans (rdLeaves_step' s (n1 - i) (n1 - (i + 1)) p acc (by omega)))
        have hnum := hid (fun W (hW : Rd w.heap.size s (.ok p) W) => wire_readNumber w.heap.size s (.ok p) 4096 121 (by decide) (by decide) hs W hW)
        have hkl := rdNum_le s 4096 121 (.ok p)
        obtain ⟨r2, hr2⟩ : ∃ r, r = rdNum s 4096 121 (.ok p) := ⟨_, rfl⟩
        rw [← hr2] at HST hnum hkl
        obtain ⟨k, st2⟩ := r2
        simp only at HST hnum hkl
        clear hr2 HREST
        obtain ⟨c0, f1, f2, c1, c2, hq⟩ := hrd
        go_wp2_with fail
        refine (hnum.out _ HRD.out).mono ?_
        rintro e w2 ⟨rfl, h2, b2⟩
        have H2 := hid h2
        have hc3' : w2.cell? ⟨w.heap.size, 3, none⟩ = some v := by rw [b2.cell 3 (by decide) (by decide)]; exact hc3
        have hf3' : w2.frozen? ⟨w.heap.size, 3, none⟩ = false := by rw [b2.frozen]; exact hf3
        have hsz2 : w.heap.size + 1 ≤ w2.heap.size := Nat.le_trans hsz b2.size
        have HO2 := hid (own_only HO.out b2 (by omega))
        have HB2 := hid (HB.out.trans (b2.below (Nat.le_refl _) (by omega)))
        clear h2 b2 c0 c1 c2 f1 f2 hc3 hf3 hsz HO HB
        have hby := hid (fun W (hW : Rd w.heap.size s st2 W) => wire_bytes w.heap.size s st2 k hs (by omega) W hW)
        obtain ⟨r3, hr3⟩ : ∃ r, r = rdBytes s k st2 := ⟨_, rfl⟩
        rw [← hr3] at HST hby
        obtain ⟨x, st3⟩ := r3
        simp only at HST hby
        clear hr3
        go_wp2_with fail
        have hln : (acc.length + 1) * 16 ≤ 140737488355328 := by omega
        have hlen : (strs' acc).length = acc.length := strs'_length acc
        go_region_law (first
            | (refine step_append1 (w.heap.size + 1) (by rfl) (.tmp 42) (.tmp 48) 23 9 (.string ⟨#[]⟩) 16 (by rfl) Try.underlying23 info_string rfl (by decide) v (strs' acc) (.string x) (by rfl) (by rfl) rfl HO3.out hsz3 (by rw [hlen]; exact hln) ?_; intro g cap w4 hown4 hb4; have H4 := hid hown4; have hc5 : w4.cell? ⟨w.heap.size, 3, none⟩ = some v := (hb4.cell (show w.heap.size < w.heap.size + 1 from Nat.lt_succ_self _)).trans hc4; have hf5 : w4.frozen? ⟨w.heap.size, 3, none⟩ = false := (hb4.frozen (show w.heap.size < w.heap.size + 1 from Nat.lt_succ_self _)).trans hf4; have HR4 := hid (hb4); clear hown4 hb4)
            | (go_simp; go_at_call 44; refine Calls.mono (hby.out _ (by exact H2.out)) ?_; rintro e w3 ⟨rfl, h3, b3⟩; have H3 := hid h3; have HO3 := hid (own_only (by exact HO2.out) b3 (Nat.lt_succ_self _)); have HB3 := hid (HB2.out.drew.trans (b3.below (Nat.le_refl _) (Nat.le_trans (Nat.le_succ _) hsz2))); have hc4 : w3.cell? ⟨w.heap.size, 3, none⟩ = some v := (b3.cell 3 (by decide) (by decide)).trans hc3'; have hf4 : w3.frozen? ⟨w.heap.size, 3, none⟩ = false := (b3.frozen 3).trans hf3'; have hsz3 : w.heap.size + 1 ≤ w3.heap.size := Nat.le_trans hsz2 b3.size; have hca : ∀ o, (w3.alloc o).cell? ⟨w.heap.size, 3, none⟩ = some v := fun o => (((Below.refl w3.heap.size w3).alloc (Nat.le_refl _) o).cell (show w.heap.size < w3.heap.size from hsz3)).trans hc4; clear h3 b3))
        all_goals
          go_wp2_with fail
          go_roundw
          case rel =>
            have e : strs' (acc ++ [x]) = strs' acc ++ [.string x] := by simp [strs']
            refine ⟨i + 1, acc ++ [x], st3, _, by go_num, by omega, by simp; omega, (H3.out.upto HR4.out (Nat.lt_succ_self _)).far (i := 3) (by omega) _, World.cell?_setCell_same _ _ _ hc5, by simpa using hf5, ?_, HST.out.symm, ?_, ?_⟩
            · have hr := RowKit.ownsRow_setCell_below (a := ⟨w.heap.size, 3, none⟩) H4.out (Nat.lt_succ_self w.heap.size) (.slice (some ⟨g, 0, none⟩) (acc.length + 1) cap)
              rw [e]; simpa [strs'] using hr
            · exact (HB3.out.trans (HR4.out.mono (Nat.le_succ _))).setCell (Nat.le_refl _) _
            · have := HR4.out.size; simp; omega
          case measure => simp [intOf]; omega
    · have hstop : rdLeaves s (n1 - i) st acc = (acc, st) := by rw [show n1 - i = 0 by omega]; rfl
      have HU : Hid (unLeavesSt s = (acc, st)) := HDEF.out.trans (HREST.out.symm.trans hstop)
      have hend := hid (fun W (hW : Rd w.heap.size s st W) => wire_end w.heap.size s st W hW)
      clear hstop HREST
      go_wp2_with fail
      refine (hend.out _ HRD.out).mono ?_
      rintro e w3 ⟨rfl, b3⟩
      have hc3' : w3.cell? ⟨w.heap.size, 3, none⟩ = some v := by rw [b3.cell 3 (by decide) (by decide)]; exact hc3
      have HO3 := hid (own_only HO.out b3 (by omega))
      have HB3 := hid (HB.out.trans (b3.below (Nat.le_refl _) (by omega)))
      clear b3 HO HB
      by_cases h0 : rdEnd s st = 0
      · have HR : Hid (unLeaves s = (acc, 0)) := by unfold Hid unLeaves; rw [HU.out]; simp only [if_pos h0]
        go_wp2_with fail
        go_ret2
        exact ⟨v, by rw [HR.out]; rfl, by rw [HR.out]; exact own_mono HO3.out (by omega), HB3.out⟩
      · have HR : Hid (unLeaves s = ([], rdEnd s st)) := by unfold Hid unLeaves; rw [HU.out]; simp only [if_neg h0]
        have h0' : (rdEnd s st == 0) = false := beq_eq_false_iff_ne.2 h0
        go_wp2_with fail
        go_ret2
        exact ⟨.slice none 0 0, by rw [HR.out]; rfl, by rw [HR.out]; exact World.ownsRow_nil _ _ _ _, HB3.out⟩
end Go.Proofs.Ytocjjiacmedjmaa
