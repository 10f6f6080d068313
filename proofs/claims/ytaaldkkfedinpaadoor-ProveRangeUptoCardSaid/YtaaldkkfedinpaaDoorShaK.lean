/- sha.New, Copy, Sum, Cut. -/
import Derived.Test.YtaaldkkfedinpaaDoorShaJ
set_option maxRecDepth 100000
namespace Go.Proofs.YtaaldkkfedinpaaDoor
open Go Go.RowKit

/-- No hash yet: the state in which it begins, an empty room. -/
def S0 : S8 := ⟨HB.getD 0 0, HB.getD 1 0, HB.getD 2 0, HB.getD 3 0, HB.getD 4 0, HB.getD 5 0, HB.getD 6 0, HB.getD 7 0⟩
theorem S0_ok : S0.ok := by constructor <;> (constructor <;> decide +kernel)
def zeroHash : List Value := List.replicate 8 (.int .u32 0) ++ (List.replicate 64 (.int .u8 0) ++ [.int .i64 0])
theorem zero_hash : (Tryd.prog.info? 200).map (fun i => (i.zero, i.size)) = some (some (.agg zeroHash.toArray), 73) := by kernel_rfl

theorem zero_cells : Tryd.zeroCells200 = zeroHash.toArray := by kernel_rfl
theorem set8 (T : List Value) (z a b c d e f g h : Value) : ((((((((List.replicate 8 z ++ T).set 0 a).set 1 b).set 2 c).set 3 d).set 4 e).set 5 f).set 6 g).set 7 h = [a, b, c, d, e, f, g, h] ++ T := rfl
theorem hash_new (w : World) (s : S8) : Arr w.heap.size 200 (s.cells ++ (bytesV (List.replicate 64 0) ++ [.int .i64 ((0 : Nat) : Int)])) (w.alloc (.cells ((((((((Tryd.zeroCells200.setIfInBounds 0 (.int .u32 s.a)).setIfInBounds 1 (.int .u32 s.b)).setIfInBounds 2 (.int .u32 s.c)).setIfInBounds 3 (.int .u32 s.d)).setIfInBounds 4 (.int .u32 s.e)).setIfInBounds 5 (.int .u32 s.f)).setIfInBounds 6 (.int .u32 s.g)).setIfInBounds 7 (.int .u32 s.h)) 200)) :=
by
  rw [zero_cells]
  simp only [List.setIfInBounds_toArray]
  rw [zeroHash, set8]
  exact heap_alloc_new w _
theorem sha_New (w : World) (hg : GlobP w) :
    Calls Tryd.prog 150 #[] w fun e w' => e = .returned (.pointer (some ⟨w.heap.size, 0, none⟩)) ∧ HashAt w.heap.size S0 (List.replicate 64 0) 0 w' ∧ Below w.heap.size w w' ∧ w'.heap.size = w.heap.size + 1 := by
  have G0 := hg.1 0 (by omega)
  have G1 := hg.1 1 (by omega)
  have G2 := hg.1 2 (by omega)
  have G3 := hg.1 3 (by omega)
  have G4 := hg.1 4 (by omega)
  have G5 := hg.1 5 (by omega)
  have G6 := hg.1 6 (by omega)
  have G7 := hg.1 7 (by omega)
  clear hg
  generalize hS : S0 = s at *
  have e0 : HB.getD 0 0 = s.a := by rw [← hS]; rfl
  have e1 : HB.getD 1 0 = s.b := by rw [← hS]; rfl
  have e2 : HB.getD 2 0 = s.c := by rw [← hS]; rfl
  have e3 : HB.getD 3 0 = s.d := by rw [← hS]; rfl
  have e4 : HB.getD 4 0 = s.e := by rw [← hS]; rfl
  have e5 : HB.getD 5 0 = s.f := by rw [← hS]; rfl
  have e6 : HB.getD 6 0 = s.g := by rw [← hS]; rfl
  have e7 : HB.getD 7 0 = s.h := by rw [← hS]; rfl
  rw [e0] at G0
  rw [e1] at G1
  rw [e2] at G2
  rw [e3] at G3
  rw [e4] at G4
  rw [e5] at G5
  rw [e6] at G6
  rw [e7] at G7
  clear e0 e1 e2 e3 e4 e5 e6 e7 hS
  go_enter Tryd.func150, Tryd.ntmps150
  go_wp2_with fail
  go_ret
  exact ⟨rfl, ⟨by simp, hash_new w s⟩, (Below.refl _ _).alloc (Nat.le_refl _) _, by simp⟩

theorem run_hash (w : World) (cs : List Value) (hl : cs.length = 73) (h1 : cs.toArray.all (·.oneCell') = true) : (storeCells ⟨w.heap.size, 0, none⟩ cs).run Tryd.prog (w.alloc (.cells Tryd.zeroCells200 200)) = .ok () (w.alloc (.cells cs.toArray 200)) := by
  have h := run_storeCells_new (P := Tryd.prog) w 200 Tryd.zeroCells200 cs.toArray (by rw [List.size_toArray, hl]; kernel_rfl) (by simp only [List.size_toArray, hl]; kernel_rfl) h1
  simpa using h
theorem hash_cells (s : S8) (rest : List UInt8) (n : Nat) (hr : rest.length = 64) : (s.cells ++ (bytesV rest ++ [Value.int .i64 n])).length = 73 := by simp [cells_length, bytesV_length, hr]
theorem hash_one (s : S8) (rest : List UInt8) (n : Nat) : (s.cells ++ (bytesV rest ++ [Value.int .i64 n])).toArray.all (·.oneCell') = true := by
  rw [Array.all_eq_true_iff_forall_mem]
  intro v hv
  simp only [List.mem_toArray, List.mem_append] at hv
  rcases hv with hv | hv | hv
  · simp only [S8.cells, List.mem_cons, List.not_mem_nil, or_false] at hv
    rcases hv with rfl | rfl | rfl | rfl | rfl | rfl | rfl | rfl <;> rfl
  · exact bytesV_one _ v hv
  · simp at hv; subst hv; rfl

theorem sha_Copy (b : Nat) (s : S8) (rest : List UInt8) (n : Nat) (w : World) (h : HashAt b s rest n w) :
    Calls Tryd.prog 160 #[.pointer (some ⟨b, 0, none⟩)] w fun e w' => e = .returned (.pointer (some ⟨w.heap.size, 0, none⟩)) ∧ HashAt w.heap.size s rest n w' ∧ Below w.heap.size w w' := by
  have hl := hash_cells s rest n h.1
  have h1 := hash_one s rest n
  have hst := run_hash w _ hl h1
  have H := hid h.2
  have hN := hid (Arr.new w 200 (s.cells ++ (bytesV rest ++ [Value.int .i64 n])))
  have HL := hid hl
  have HR := hid h.1
  clear h h1 hl
  unfold HashAt
  generalize s.cells ++ (bytesV rest ++ [Value.int .i64 n]) = cs at *
  go_enter Tryd.func160, Tryd.ntmps160
  go_wp2_with (refine wpList_load_row rfl 200 _ rfl b rfl 200 cs.toArray (0, 0) _ H.out Tryd.underlying200 rfl (by rw [List.size_toArray, HL.out]; kernel_rfl) ?_)
  go_ret
  exact ⟨rfl, ⟨HR.out, hN.out⟩, (Below.refl _ _).alloc (Nat.le_refl _) _⟩

theorem GlobP.lt1 {w : World} (h : GlobP w) : 10 < w.heap.size := World.block_lt_of_cell? w _ (h.1 0 (by omega))
theorem GlobP.lt2 {w : World} (h : GlobP w) : 11 < w.heap.size := World.block_lt_of_cell? w _ (h.2 0 (by omega))
theorem HashAt.below {b : Nat} {s : S8} {rest : List UInt8} {n : Nat} {w w' : World} (h : HashAt b s rest n w) (hb : Below w.heap.size w w') : HashAt b s rest n w' := ⟨h.1, h.2.below hb⟩
/-- Behind a call that wrote into one of the call's own blocks alone. -/
theorem below_grown {B b : Nat} {w0 w w' : World} (h : Below B w0 w) (hB : B ≤ w.heap.size) (hb : B ≤ b) (hg : w.grownBy w' (some b)) : Below B w0 w' := h.grown hg hB (fun k hk => by cases hk; exact hb)

/-- What is handed in is filled up: no place is left over. -/
theorem sha_WriteP (b : Nat) (s : S8) (hs : s.ok) (rest : List UInt8) (n : Nat) (hnp : n ≤ 140737488355328 - 200) (w : World) (h : HashAt b s rest n w) (hg : GlobP w) (h1 : b ≠ 10) (h2 : b ≠ 11) :
    Calls Tryd.prog 151 #[.pointer (some ⟨b, 0, none⟩), .string ⟨(padT n).toArray⟩] w fun e w' => (∃ v, e = .returned v) ∧ (∃ rest' m, HashAt b (runB s (rest.take (n % 64) ++ padT n)).1 rest' m w') ∧ w.grownBy w' (some b) := by
  have hpl := padT_length n
  have hpz : padZ n = (119 - n % 64) % 64 := rfl
  have hps : (⟨(padT n).toArray⟩ : ByteArray).size = padZ n + 9 := by rw [str_size, hpl]
  by_cases hn : n % 64 = 0
  · refine (sha_Write0 b s hs rest n hn ⟨(padT n).toArray⟩ (by omega) (by omega) w h hg h1 h2).mono ?_
    rintro e w' ⟨he, hH, hG⟩
    exact ⟨⟨_, he⟩, ⟨_, _, by rw [hn, List.take_zero, List.nil_append]; exact hH⟩, hG⟩
  · refine (sha_Write1 b s hs rest n (n % 64) (64 - n % 64) rfl (by omega) (by omega) ⟨(padT n).toArray⟩ (by omega) (by omega) (by omega) w h hg h1 h2).mono ?_
    rintro e w' ⟨he, ⟨rest', hH⟩, hG⟩
    exact ⟨⟨_, he⟩, ⟨_, _, hH⟩, hG⟩

theorem sha_HSum (b : Nat) (s : S8) (hs : s.ok) (rest : List UInt8) (n : Nat) (hnp : n ≤ 140737488355328 - 200) (w : World) (h : HashAt b s rest n w) (hg : GlobP w) :
    Calls Tryd.prog 152 #[.pointer (some ⟨b, 0, none⟩)] w fun e w' => e = .returned (.string ⟨(txt (runB s (rest.take (n % 64) ++ padT n)).1).toArray⟩) ∧ Below w.heap.size w w' := by
  have HC := hid (sha_Copy b s rest n w h)
  have HP := hid (sha_padding n (by omega))
  have H := hid h
  have HG := hid hg
  have HS := hid hs
  have l1 := hg.lt1
  have l2 := hg.lt2
  clear h hg hs
  go_enter Tryd.func152, Tryd.ntmps152
  go_wp2_with fail
  refine (HC.out).mono ?_
  rintro e w1 ⟨rfl, hH1, hb1⟩
  have hcn := (H.out.below hb1).n
  have H1 := hid hH1
  have B1 := hid hb1
  clear hH1 hb1
  go_wp2_with fail
  refine (HP.out _).mono ?_
  rintro e w2 ⟨rfl, hb2⟩
  have H2 := hid (H1.out.below hb2)
  have B2 := hid (Below.then' B1.out hb2)
  have HW := hid (sha_WriteP w.heap.size s HS.out rest n hnp w2 H2.out (HG.out.below B2.out) (by omega) (by omega))
  clear hb2 hcn
  go_wp2_with fail
  refine (HW.out).mono ?_
  rintro e w3 ⟨⟨v, rfl⟩, ⟨rest', m, hH3⟩, hG3⟩
  have HX := hid (sha_text w.heap.size 200 _ (runB_ok _ _ _ (Nat.le_refl _) HS.out) _ w3 hH3.2)
  have B3 := hid (below_grown B2.out B2.out.size (Nat.le_refl _) hG3)
  clear hH3 hG3
  go_wp2_with fail
  refine (HX.out).mono ?_
  rintro e w4 ⟨rfl, hb4⟩
  have B4 := hid (Below.then' B3.out hb4)
  clear hb4
  go_wp2_with fail
  go_ret
  exact ⟨rfl, B4.out⟩

/-- SHA-256 of a list of bytes. -/
def shaL (l : List UInt8) : List UInt8 := txt (runB S0 (l ++ padT l.length)).1
theorem shaL_length (l : List UInt8) : (shaL l).length = 32 := txtP_length _ 8
theorem runB_app (k : Nat) : ∀ (s : S8) (l m : List UInt8), l.length ≤ k → runB s (l ++ m) = runB (runB s l).1 ((runB s l).2 ++ m) := by
  induction k with
  | zero => intro s l m h; rw [runB_less s l (by omega)]
  | succ k ih =>
    intro s l m h
    by_cases hl : 64 ≤ l.length
    · rw [runB_more s l hl, runB_more s (l ++ m) (by simp; omega), List.take_append_of_le_length hl, List.drop_append_of_le_length hl]
      exact ih _ _ _ (by simp; omega)
    · rw [runB_less s l (by omega)]

theorem sha_Sum (t : ByteArray) (ht : t.size ≤ 140737488355328 - 200) (w : World) (hg : GlobP w) :
    Calls Tryd.prog 144 #[.string t] w fun e w' => e = .returned (.string ⟨(shaL t.data.toList).toArray⟩) ∧ Below w.heap.size w w' := by
  have HN := hid (sha_New w hg)
  have HG := hid hg
  have l1 := hg.lt1
  have l2 := hg.lt2
  have hsz : t.data.toList.length = t.size := by simp
  clear hg
  go_enter Tryd.func144, Tryd.ntmps144
  go_wp2_with fail
  refine (HN.out).mono ?_
  rintro e w1 ⟨rfl, hH1, hb1, hz1⟩
  have HW := hid (sha_Write0 w.heap.size S0 S0_ok (List.replicate 64 0) 0 rfl t (by omega) (by omega) w1 hH1 (HG.out.below hb1) (by omega) (by omega))
  have B1 := hid hb1
  clear hH1 hb1 hz1
  go_wp2_with fail
  refine (HW.out).mono ?_
  rintro e w2 ⟨rfl, hH2, hG2⟩
  have B2 := hid (below_grown B1.out B1.out.size (Nat.le_refl _) hG2)
  have hll := runB_left _ S0 t.data.toList (Nat.le_refl _)
  have hap := runB_app _ S0 t.data.toList (padT t.size) (Nat.le_refl _)
  rw [Nat.zero_add] at hH2
  have HX := sha_HSum w.heap.size _ (runB_ok _ S0 t.data.toList (Nat.le_refl _) S0_ok) _ t.size ht w2 hH2 (HG.out.below B2.out)
  rw [List.take_append_of_le_length (by omega), List.take_of_length_le (by omega), ← hap] at HX
  have HX := hid HX
  have HZ := hid hsz
  clear hH2 hG2 hll hap hsz
  go_wp2_with fail
  refine (HX.out).mono ?_
  rintro e w3 ⟨rfl, hb3⟩
  have B3 := hid (Below.then' B2.out hb3)
  clear hb3
  go_wp2_with fail
  go_ret
  exact ⟨ret_str (by unfold shaL; rw [HZ.out]), B3.out⟩

/-- The width that w counts as. -/
def wid (w : Int) : Nat := if w < 1 ∨ 32 < w then 32 else w.toNat
theorem wid_le (w : Int) : wid w ≤ 32 ∧ 1 ≤ wid w := by unfold wid; split <;> omega
/-- The first bytes of a hash. -/
def cutL (l : List UInt8) (w : Int) : List UInt8 := (shaL l).take (wid w)
theorem cutL_length (l : List UInt8) (w : Int) : (cutL l w).length = wid w := by
  have := wid_le w
  unfold cutL; rw [List.length_take, shaL_length]; omega
def cutS (l : List UInt8) (w : Int) : ByteArray := ⟨(cutL l w).toArray⟩
theorem cutS_size (l : List UInt8) (w : Int) : (cutS l w).size = wid w := by unfold cutS; rw [str_size, cutL_length]
theorem cut_str (l : List UInt8) (w : Int) (n : Nat) (hn : n = wid w) : (⟨(shaL l).toArray⟩ : ByteArray).extract 0 n = cutS l w := by
  subst hn
  apply ByteArray.ext
  apply Array.toList_inj.1
  rw [extract_list]; rfl

theorem slice_to {P : Program} (w : World) (t : TypeId) (s : ByteArray) (k : IntKind) (j : Int) (h : P.underlying t = some .string) (h0 : 0 ≤ j) (h1 : j ≤ (s.size : Int)) :
    (Instr.slice t (.string s) none (some (.int k j)) none).run P w = .ok (.string (s.extract 0 j.toNat)) w := by
  rw [run_slice_string_to_if w t s k j h, if_pos ⟨h0, h1⟩]
theorem sha_Cut (t : ByteArray) (ht : t.size ≤ 140737488355328 - 200) (k : Int) (w : World) (hg : GlobP w) :
    Calls Tryd.prog 135 #[.string t, .int .i64 k] w fun e w' => e = .returned (.string (cutS t.data.toList k)) ∧ Below w.heap.size w w' := by
  have HS := hid (sha_Sum t ht w hg)
  have hsz : (⟨(shaL t.data.toList).toArray⟩ : ByteArray).size = 32 := by rw [str_size, shaL_length]
  obtain ⟨h, hh⟩ : ∃ h : ByteArray, h = ⟨(shaL t.data.toList).toArray⟩ := ⟨_, rfl⟩
  have HC := hid (cut_str t.data.toList k)
  rw [← hh] at HS hsz HC
  clear hg hh
  by_cases h1 : k < 1
  · have hw : wid k = 32 := by unfold wid; rw [if_pos (.inl h1)]
    have hx := hid (HC.out 32 hw.symm)
    have hsl : ∀ W, (Instr.slice 9 (.string h) none (some (.int .i64 32)) none).run Tryd.prog W = .ok (.string (h.extract 0 32)) W := fun W => slice_to (P := Tryd.prog) W 9 h .i64 32 Tryd.underlying9 (by omega) (by omega)
    clear hsz hw HC
    go_enter Tryd.func135, Tryd.ntmps135
    go_wp2_with fail
    refine (HS.out).mono ?_
    rintro e w1 ⟨rfl, hb1⟩
    go_wp2_with fail
    go_ret
    exact ⟨ret_str hx.out, hb1⟩
  · by_cases h2 : 32 < k
    · have hw : wid k = 32 := by unfold wid; rw [if_pos (.inr h2)]
      have hx := hid (HC.out 32 hw.symm)
      have hsl : ∀ W, (Instr.slice 9 (.string h) none (some (.int .i64 32)) none).run Tryd.prog W = .ok (.string (h.extract 0 32)) W := fun W => slice_to (P := Tryd.prog) W 9 h .i64 32 Tryd.underlying9 (by omega) (by omega)
      clear hsz hw HC
      go_enter Tryd.func135, Tryd.ntmps135
      go_wp2_with fail
      refine (HS.out).mono ?_
      rintro e w1 ⟨rfl, hb1⟩
      go_wp2_with fail
      go_ret
      exact ⟨ret_str hx.out, hb1⟩
    · have hw : wid k = k.toNat := by unfold wid; rw [if_neg (by omega)]
      have hx := hid (HC.out k.toNat hw.symm)
      have hsl : ∀ W, (Instr.slice 9 (.string h) none (some (.int .i64 k)) none).run Tryd.prog W = .ok (.string (h.extract 0 k.toNat)) W := fun W => slice_to (P := Tryd.prog) W 9 h .i64 k Tryd.underlying9 (by omega) (by omega)
      clear hsz hw HC
      go_enter Tryd.func135, Tryd.ntmps135
      go_wp2_with fail
      refine (HS.out).mono ?_
      rintro e w1 ⟨rfl, hb1⟩
      go_wp2_with fail
      go_ret
      exact ⟨ret_str hx.out, hb1⟩
end Go.Proofs.YtaaldkkfedinpaaDoor
