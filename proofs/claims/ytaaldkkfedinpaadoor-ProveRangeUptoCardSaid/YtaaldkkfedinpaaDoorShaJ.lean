/- (*sha.Hash).Write where what is held is filled up. -/
import Derived.Test.YtaaldkkfedinpaaDoorShaI
set_option maxRecDepth 100000
namespace Go.Proofs.YtaaldkkfedinpaaDoor
open Go Go.RowKit

/-- 'copy(dst, s)', s a string that is not shorter than dst. -/
theorem run_copy_long {P : Program} (w : World) (dT sT ty elem : TypeId) (b o dLen dCap : Nat) (t : ByteArray)
    (hu : P.underlying dT = some (.slice elem)) (hz : ∀ w, (Go.sizeOf elem).run P w = .ok 1 w) (hle : dLen ≤ t.size)
    (hc : ∀ j, j < dLen → (w.cell? ⟨b, o + j, none⟩).isSome = true) (hf : ∀ j, j < dLen → w.frozen? ⟨b, o + j, none⟩ = false) :
    (Builtin.copy_ #[dT, sT] ty #[.slice (some ⟨b, o, none⟩) dLen dCap, .string t]).run P w = .ok (goInt dLen) (w.setCells b o (bytesV (t.data.toList.take dLen))) := by
  have hmin : Nat.min t.size dLen = dLen := Nat.min_eq_right hle
  have hts : t.data.toList.length = t.size := by simp
  have hl : (bytesV (t.data.toList.take dLen)).length = dLen := by rw [bytesV_length, List.length_take]; omega
  have hst := run_storeCells_cells (P := P) b o (bytesV (t.data.toList.take dLen)) 0 w (by rw [hl]; simpa using hc) (by rw [hl]; simpa using hf) (bytesV_one _)
  have e : List.take dLen (List.map (fun b : UInt8 => Value.int IntKind.u8 (b.toNat : Int)) t.data.toList) = bytesV (t.data.toList.take dLen) := by simp [bytesV, List.map_take]
  simp [Builtin.copy_, run_underlying hu, Builtin.lenOf, Builtin.firstCells, hz, hmin]
  rw [e, hst]
  rfl

/-- The room filled up from h on. -/
theorem hash_fill (s : S8) (rest m : List UInt8) (x : Value) (h : Nat) (hr : rest.length = 64) (hm : h + m.length = 64) :
    (s.cells ++ (bytesV rest ++ [x])).take (8 + h) ++ (bytesV m ++ (s.cells ++ (bytesV rest ++ [x])).drop (8 + h + (bytesV m).length)) = s.cells ++ (bytesV (rest.take h ++ m) ++ [x]) := by
  have h8 : s.cells.length = 8 := rfl
  have hb : (bytesV rest).length = 64 := by rw [bytesV_length, hr]
  rw [bytesV_length, List.take_append, List.take_of_length_le (by omega), List.drop_append, h8, List.drop_of_length_le (by omega), List.nil_append, show 8 + h - 8 = h by omega, show 8 + h + m.length - 8 = 64 by omega,
    List.take_append_of_le_length (by omega), List.drop_append, List.drop_of_length_le (by omega), hb, bytesV_append]
  simp [bytesV, List.map_take]
theorem runB_fill (s : S8) (buf p : List UInt8) (k : Nat) (hk : buf.length + k = 64) (hp : k ≤ p.length) : runB s (buf ++ p) = runB (comp s (buf ++ p.take k)) (p.drop k) := by
  have e1 : (buf ++ p).take 64 = buf ++ p.take k := by rw [List.take_append, List.take_of_length_le (by omega), show 64 - buf.length = k by omega]
  have e2 : (buf ++ p).drop 64 = p.drop k := by rw [List.drop_append, List.drop_of_length_le (by omega), List.nil_append, show 64 - buf.length = k by omega]
  rw [runB_more s _ (by simp; omega), e1, e2]

/-- string(h.rest[:]). -/
theorem conv_room {b : Nat} {s : S8} {r : List UInt8} {x : Value} {W : World} (hr : r.length = 64) (hW : Arr b 200 (s.cells ++ (bytesV r ++ [x])) W) :
    (convert 137 9 (.slice (some ⟨b, 8, none⟩) 64 64)).run Tryd.prog W = .ok (.string ⟨r.toArray⟩) W := by
  have h := run_convert_bytes_back (P := Tryd.prog) W 137 9 5 ⟨b, 8, none⟩ 64 r Tryd.underlying137 Tryd.underlying5 Tryd.underlying9 (fun j hj => by
    rw [Addr.add_mid, hW.cell (8 + j) (by simp [cells_length, bytesV_length]; omega)]
    rw [List.getElem_append_right (by rw [cells_length]; omega), List.getElem_append_left (by simp [cells_length, bytesV_length]; omega)]
    simp [cells_length, bytesV])
  rwa [hr] at h
theorem sha_Write1 (b : Nat) (s : S8) (hs : s.ok) (rest : List UInt8) (n h k : Nat) (hn : n % 64 = h) (h0 : 0 < h) (hk : h + k = 64) (p : ByteArray) (hkp : k ≤ p.size) (hp : p.size ≤ 140737488355328) (hnp : n ≤ 140737488355328) (w : World) (hH : HashAt b s rest n w) (hg : GlobP w)
    (h1 : b ≠ 10) (h2 : b ≠ 11) :
    Calls Tryd.prog 151 #[.pointer (some ⟨b, 0, none⟩), .string p] w fun e w' => e = .returned (.int .i64 p.size) ∧ (∃ rest', HashAt b (runB s (rest.take h ++ p.data.toList)).1 ((runB s (rest.take h ++ p.data.toList)).2 ++ rest') (n + p.size) w') ∧ w.grownBy w' (some b) := by
  have hh := sha_held b s rest n w hH
  rw [hn] at hh
  have HH := hid hh
  have H := hid hH
  have hrl := hH.1
  have hpl : p.data.toList.length = p.size := by simp
  obtain ⟨m, hm⟩ : ∃ m, m = p.data.toList.take k := ⟨_, rfl⟩
  have hml : m.length = k := by rw [hm, List.length_take]; omega
  have hbl : (rest.take h).length = h := by rw [List.length_take]; omega
  have hfl := runB_fill s (rest.take h) p.data.toList k (by omega) (by omega)
  rw [← hm] at hfl
  obtain ⟨q, hq⟩ : ∃ q, q = p.extract k p.size := ⟨_, rfl⟩
  have hql : q.data.toList = p.data.toList.drop k := by rw [hq, extract_list, List.take_of_length_le (by simp)]
  have hqs : q.size ≤ 140737488355328 := by rw [hq]; simp; omega
  rw [← hql] at hfl
  have hrun := run_copy_long (P := Tryd.prog) w 137 9 3 5 b (8 + h) k k p Tryd.underlying137 size_byte hkp (fun j hj => H.out.2.some _ (by simp [cells_length, bytesV_length]; omega)) (fun j _ => H.out.2.frozen _)
  rw [← hm] at hrun
  have HA2 := hid (H.out.2.splice (bytesV m) (8 + h) _ _ (by simp [cells_length, bytesV_length]; omega))
  rw [hash_fill s rest m _ h hrl (by omega)] at HA2
  have HG2 := hid (grownBy_setCells w b (8 + h) (bytesV m))
  have hkk : 64 - h = k := by omega
  have hne : ¬ 64 = h := by omega
  have i1 : (0 : Int) ≤ (h : Int) := by omega
  have i2 : (h : Int) ≤ 64 := by omega
  have i3 : (0 : Int) < (h : Int) := by omega
  have hHk := hid hk
  have hHn := hid hn
  have hHm := hid hm
  have hHq := hid hq
  have hHf := hid hfl
  clear hH hh hn hm hq hql hfl hk hpl
  go_enter Tryd.func151, Tryd.ntmps151
  go_wp2_with fail
  refine (HH.out).mono ?_
  rintro e w' ⟨rfl, rfl⟩
  go_wp2_with fail
  clear hrun
  change Code.wp _ _ _ _ (w.setCells b (8 + h) (bytesV m))
  generalize w.setCells b (8 + h) (bytesV m) = w2 at *
  rw [← hHq.out]
  obtain ⟨r2, hr2⟩ : ∃ r2, r2 = rest.take h ++ m := ⟨_, rfl⟩
  have hr2l : r2.length = 64 := by rw [hr2, List.length_append, hbl, hml]; exact hHk.out
  rw [← hr2] at HA2 hHf
  have hHr := hid hr2
  clear hr2
  have hcv := fun (W : World) (hW : Arr b 200 (s.cells ++ (bytesV r2 ++ [.int .i64 n])) W) => conv_room (W := W) hr2l hW
  have hcv0 := hcv _ HA2.out
  have hcv1 := hcv _ HA2.out.drew
  have HT := hid (fun (W : World) (hW : Arr b 200 (s.cells ++ (bytesV r2 ++ [.int .i64 n])) W) (hG : GlobP W) => sha_take b 200 s hs (bytesV r2 ++ [.int .i64 n]) ⟨r2.toArray⟩ (by rw [str_size]; exact hr2l) W hW hG)
  have HG := hid (hg.grown HG2.out h1 h2)
  clear hcv hs hg
  go_region_law (go_simp; go_at_call 158; refine Calls.mono (HT.out _ (by first | exact HA2.out | exact HA2.out.drew) (by first | exact HG.out | exact HG.out)) ?_; rintro e w3 ⟨rfl, hA3, hG3⟩; have HA3 := hid hA3; have HG3 := hid hG3; clear hA3 hG3)
  have HGx := hid (HG.out.grown (grown_undrew HG3.out) h1 h2)
  have HBk := hid (fun (W : World) (hA : Arr b 200 ((comp s r2).cells ++ (bytesV r2 ++ [.int .i64 n])) W) (hg : GlobP W) => sha_blocks b 200 (comp s r2) (comp_ok s r2) (bytesV r2 ++ [.int .i64 n]) q hqs W hA hg h1 h2)
  obtain ⟨L, hL⟩ : ∃ L, L = (runB (comp s r2) q.data.toList).2 := ⟨_, rfl⟩
  obtain ⟨R, hR⟩ : ∃ R, R = (runB (comp s r2) q.data.toList).1 := ⟨_, rfl⟩
  have hL64 : L.length ≤ 64 := by rw [hL, runB_left _ _ _ (Nat.le_refl _)]; omega
  have HLR : Hid (runB s (rest.take h ++ p.data.toList) = (R, L)) := by unfold Hid; rw [hHf.out, hL, hR]
  rw [← hL, ← hR] at HBk
  have HG4 := hid (Go.Lib.grownBy_trans HG2.out (grown_undrew HG3.out))
  clear hL hR hcv0 hcv1 HT HA2 HG2 HG3 HG
  go_wp2_with fail
  go_region_law (first
    | (refine Go.step_copy_string rfl (.tmp 40) (.tmp 46) 137 9 rfl 5 Tryd.underlying137 size_byte b 8 64 64 rfl ⟨L.toArray⟩ rfl (by rw [str_size]; exact hL64) (fun j hj => HA5.out.some (8 + j) (by rw [str_size] at hj; simp [cells_length, bytesV_length]; omega)) (fun j _ => HA5.out.frozen _) ?_)
    | (go_simp; go_at_call 159; refine Calls.mono (HBk.out _ (by first | exact HA3.out | exact HA3.out.drew) (by first | exact HGx.out | exact HGx.out)) ?_; rintro e w5 ⟨rfl, hA5, hG5⟩; have HA5 := hid hA5; have HG5 := hid (Go.Lib.grownBy_trans HG4.out (grown_undrew hG5)); clear hA5 hG5))
  have hl8 : 8 + (bytesV L).length ≤ (R.cells ++ (bytesV r2 ++ [Value.int .i64 n])).length := by simp [cells_length, bytesV_length]; omega
  have h3 := HA5.out.splice (bytesV L) 8 _ _ hl8
  rw [hash_put R r2 L _ hr2l hL64] at h3
  have h3' : HashAt b R (L ++ r2.drop L.length) n (w5.setCells b 8 (bytesV L)) := ⟨by simp; omega, h3⟩
  have HG6 := hid (Go.Lib.grownBy_trans HG5.out (grownBy_setCells w5 b 8 (bytesV L)))
  have hc3 := h3'.n
  have hf3 := h3.frozen 72
  have H3 := hid h3'
  clear h3 h3' hl8 HH HBk
  change Exit.then _ _ _ _ (w5.setCells b 8 (bytesV L))
  generalize w5.setCells b 8 (bytesV L) = w6 at *
  go_wp2_with fail
  go_ret
  exact ⟨rfl, ⟨_, by rw [HLR.out]; exact hash_n H3.out (n + p.size)⟩, grown_set HG6.out _ _⟩
end Go.Proofs.YtaaldkkfedinpaaDoor
