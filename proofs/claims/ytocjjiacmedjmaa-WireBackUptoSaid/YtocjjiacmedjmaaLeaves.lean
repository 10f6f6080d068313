/- Walks of wire.number, wire.Leaves and of the reference's. -/
import Derived.Test.YtocjjiacmedjmaaPutVar
import Derived.Test.YtocjjiacmedjmaaArgs
import Derived.Test.YtocjjiacmedjmaaShelfByte
set_option maxRecDepth 100000
namespace Go.Proofs.Ytocjjiacmedjmaa
open Go Go.RowKit

theorem wire_number (n : Nat) (hn : n ≤ 9223372036854775807) (w : World) :
    Calls Try.prog 28 #[.int .i64 n] w fun e w' => e = .returned (.string ⟨(putVar n).toArray⟩) ∧ Below w.heap.size w w' := by
  have hp := hid (fun W => nums_PutVar n (by omega) W)
  go_enter Try.func28, Try.ntmps28
  go_wp2_with fail
  refine (hp.out _).mono ?_
  rintro e w1 ⟨rfl, hb⟩
  have HB := hid hb; clear hb
  go_wp2_with fail
  go_ret
  exact ⟨rfl, HB.out⟩
/-- A strings.Builder of the call's own that holds these bytes. -/
def Bld (B b : Nat) (l : List UInt8) (w : World) : Prop := Lib.IsBuilder 65 5 B b (Lib.byteCells l) w ∧ B ≤ w.heap.size
theorem bld_new (w : World) : Bld w.heap.size w.heap.size [] (w.alloc (.cells #[.pointer none, .slice none 0 0] 65)) :=
  ⟨Lib.fresh_isBuilder _ _ w, by simp⟩
theorem bld_byte (B b : Nat) (l : List UInt8) (c : UInt8) (w : World) (h : Bld B b l w) (hlen : l.length + 1 ≤ 140737488355328) :
    Calls Try.prog 32 #[.pointer (some ⟨b, 0, none⟩), .int .u8 c.toNat] w fun e w' => e = .returned .nilIface ∧ Bld B b (l ++ [c]) w' ∧ Below B w w' :=
  (Try.Builder_WriteByte B b _ c.toNat w h.1 (by simpa [Lib.byteCells] using hlen) h.2).mono fun e w' ⟨he, hb, hbe⟩ => ⟨he, ⟨.inr (by simpa [Lib.byteCells] using hb), Nat.le_trans h.2 hbe.size⟩, hbe⟩
theorem bld_string (B b : Nat) (l m : List UInt8) (w : World) (h : Bld B b l w) (hlen : l.length + m.length ≤ 140737488355328) :
    Calls Try.prog 26 #[.pointer (some ⟨b, 0, none⟩), .string ⟨m.toArray⟩] w fun e w' => e = .returned (.tuple #[.int .i64 m.length, .nilIface]) ∧ Bld B b (l ++ m) w' ∧ Below B w w' :=
  (Try.Builder_WriteString B b _ ⟨m.toArray⟩ w h.1 (by simpa [Lib.byteCells, str_size] using hlen) h.2).mono fun e w' ⟨he, hb, hbe⟩ => ⟨by rw [he, str_size], ⟨.inr (by simpa [Lib.byteCells, Lib.strCells] using hb), Nat.le_trans h.2 hbe.size⟩, hbe⟩
theorem bld_done (B b : Nat) (l : List UInt8) (w : World) (h : Bld B b l w) :
    Calls Try.prog 31 #[.pointer (some ⟨b, 0, none⟩)] w fun e w' => e = .returned (.string ⟨l.toArray⟩) ∧ Below B w w' :=
  Try.Builder_String_any B b l w h.1 h.2

theorem bld_below {B b : Nat} {l : List UInt8} {w w' : World} (h : Bld B b l w) (hb : Below w.heap.size w w') : Bld B b l w' := by
  refine ⟨?_, Nat.le_trans h.2 hb.size⟩
  have key : ∀ p, Lib.BuilderAt 65 5 B b p (Lib.byteCells l) w → Lib.BuilderAt 65 5 B b p (Lib.byteCells l) w' := by
    rintro p ⟨h1, v, h2, h3, h4⟩
    have hlt : b < w.heap.size := (Array.getElem?_eq_some_iff.1 h2).1
    refine ⟨h1, v, by rw [hb.block b hlt]; exact h2, ?_, h4⟩
    exact h3.kept (row := none) ⟨hb.os, hb.tape, hb.output, hb.size, fun k hk _ => hb.block k hk⟩ (by cases v.ownBlock <;> simp)
  exact h.1.imp (key _) (key _)
/-- What is written of leaves. -/
def leafB (s : ByteArray) : List UInt8 := putVar s.size ++ s.data.toList
def leavesB (xs : List ByteArray) : List UInt8 := 76 :: (putVar xs.length ++ xs.flatMap leafB)
def bigLeaf (xs : List ByteArray) : Bool := xs.any fun s => decide (4096 < s.size)
def leavesR (xs : List ByteArray) : ByteArray × Int :=
  if 1024 < xs.length then (⟨#[]⟩, 83) else if bigLeaf xs then (⟨#[]⟩, 121) else (⟨(leavesB xs).toArray⟩, 0)
def strErr (r : ByteArray × Int) : Value := .tuple #[.string r.1, .int .i64 r.2]

theorem strs'_get (xs : List ByteArray) (k : Nat) (h : k < xs.length) : (strs' xs)[k]'(by simpa [strs'] using h) = .string xs[k] := by simp [strs']
theorem RowAt.str {w : World} {ao : Option Addr} {xs : List ByteArray} (h : RowAt w ao (strs' xs)) {k : Nat} (hk : k < xs.length) :
    ∃ b off, ao = some ⟨b, off, none⟩ ∧ ∀ i (h : i < xs.length), w.cell? ⟨b, off + i, none⟩ = some (.string xs[i]) := by
  obtain ⟨b, off, e, hc⟩ := h.get (k := k) (by simpa [strs'] using hk)
  exact ⟨b, off, e, fun i hi => by rw [hc i (by simpa [strs'] using hi), strs'_get]⟩
theorem big_false (xs : List ByteArray) (h : bigLeaf xs = false) (i : Nat) (hi : i < xs.length) : xs[i].size ≤ 4096 := by
  unfold bigLeaf at h
  rw [List.any_eq_false] at h
  have := h xs[i] (List.getElem_mem hi)
  simpa using this
theorem big_true (xs : List ByteArray) (h : bigLeaf xs = true) : ∃ i, ∃ hi : i < xs.length, 4096 < xs[i].size := by
  unfold bigLeaf at h
  rw [List.any_eq_true] at h
  obtain ⟨x, hx, hd⟩ := h
  obtain ⟨i, hi, rfl⟩ := List.getElem_of_mem hx
  exact ⟨i, hi, by simpa using hd⟩
theorem flat_take (xs : List ByteArray) (i : Nat) (hi : i < xs.length) : (xs.take (i + 1)).flatMap leafB = (xs.take i).flatMap leafB ++ leafB xs[i] := by
  rw [List.take_succ_eq_append_getElem hi, List.flatMap_append, List.flatMap_cons, List.flatMap_nil, List.append_nil]
theorem leafB_len (s : ByteArray) (h : s.size ≤ 4096) : (leafB s).length ≤ 4106 := by
  unfold leafB
  have := putVar_len 9 s.size (by omega)
  rw [List.length_append]
  have e : s.data.toList.length = s.size := Array.length_toList
  omega
theorem flat_len (xs : List ByteArray) (h : ∀ i (hi : i < xs.length), xs[i].size ≤ 4096) (i : Nat) (hi : i ≤ xs.length) : ((xs.take i).flatMap leafB).length ≤ 4106 * i := by
  induction i with
  | zero => simp
  | succ i ih =>
    rw [flat_take xs i (by omega), List.length_append]
    have := ih (by omega)
    have := leafB_len xs[i] (h i (by omega))
    omega

theorem wire_Leaves_many (ao : Option Addr) (xs : List ByteArray) (cap : Nat) (w : World) (h : 1024 < xs.length) :
    Calls Try.prog 8 #[.slice ao xs.length cap] w fun e w' => e = .returned (strErr (⟨#[]⟩, 83)) ∧ Below w.heap.size w w' := by
  go_enter Try.func8, Try.ntmps8
  go_wp2_with fail
  go_ret2
  exact ⟨rfl, Below.refl _ _⟩
theorem wire_Leaves_big (ao : Option Addr) (xs : List ByteArray) (cap : Nat) (w : World) (hx : RowAt w ao (strs' xs)) (h : xs.length ≤ 1024) (hb : bigLeaf xs = true) :
    Calls Try.prog 8 #[.slice ao xs.length cap] w fun e w' => e = .returned (strErr (⟨#[]⟩, 121)) ∧ Below w.heap.size w w' := by
  obtain ⟨p, hp, hbig⟩ := big_true xs hb
  clear hb
  have HBIG := hid hbig
  clear hbig
  have h' : ¬ 1024 < xs.length := by omega
  go_enter Try.func8, Try.ntmps8
  go_wp2_with fail
  go_loop [5, 14] (fun _ i' => ∃ i : Nat, i' = .int .i64 i ∧ i ≤ p) (fun _ i' => (xs.length - intOf i').toNat)
  case atStart => exact ⟨0, rfl, by omega⟩
  case round =>
    obtain ⟨i, rfl, hi⟩ := hrel
    obtain ⟨b, off, rfl, hc⟩ := hx.str (k := i) (by omega)
    have hcell := hc i (by omega)
    obtain ⟨y, hy⟩ : ∃ y, y = xs[i]'(by omega) := ⟨_, rfl⟩
    rw [← hy] at hcell
    have hyp : i = p → 4096 < y.size := fun e => by subst e; rw [hy]; exact HBIG.out
    have HYP := hid hyp
    have hlt : i < xs.length := by omega
    clear hx hc hy hyp
    by_cases hsz : 4096 < y.size
    · go_wp2_with fail
      go_ret2
      exact ⟨rfl, Below.refl _ _⟩
    · have hip : i < p := by
        rcases Nat.eq_or_lt_of_le hi with e | e
        · exact absurd (HYP.out e) hsz
        · exact e
      go_wp2_with fail
      go_round
      case rel => exact ⟨i + 1, by go_num, by omega⟩
      case measure => simp [intOf]; omega
theorem wire_Leaves_ok (ao : Option Addr) (xs : List ByteArray) (cap : Nat) (w : World) (hx : RowAt w ao (strs' xs)) (h : xs.length ≤ 1024) (hb : bigLeaf xs = false) :
    Calls Try.prog 8 #[.slice ao xs.length cap] w fun e w' => e = .returned (strErr (⟨(leavesB xs).toArray⟩, 0)) ∧ Below w.heap.size w w' := by
  have hs := big_false xs hb
  have hfl := flat_len xs hs
  have hpl := putVar_len 9 xs.length (by omega)
  have HS := hid hs
  have HFL := hid hfl
  clear hs hb hfl
  have h' : ¬ 1024 < xs.length := by omega
  go_enter Try.func8, Try.ntmps8
  go_wp2_with fail
  go_loop [5, 14] (fun _ i' => ∃ i : Nat, i' = .int .i64 i ∧ i ≤ xs.length) (fun _ i' => (xs.length - intOf i').toNat)
  case atStart => exact ⟨0, rfl, by omega⟩
  case round =>
    obtain ⟨i, rfl, hi⟩ := hrel
    by_cases hlt : i < xs.length
    · obtain ⟨b, off, rfl, hc⟩ := hx.str (k := i) (by omega)
      have hcell := hc i (by omega)
      have hsz := HS.out i hlt
      obtain ⟨y, hy⟩ : ∃ y, y = xs[i]'(by omega) := ⟨_, rfl⟩
      rw [← hy] at hcell hsz
      have hsz' : ¬ 4096 < y.size := by omega
      clear hx hc hy
      go_wp2_with fail
      go_round
      case rel => exact ⟨i + 1, by go_num, by omega⟩
      case measure => simp [intOf]; omega
    · have HX := hid hx
      clear hx
      go_wp2_with fail
      have hbn := bld_new w
      refine (bld_byte w.heap.size w.heap.size [] 76 _ hbn (by simp)).mono ?_
      rintro e w1 ⟨rfl, h1, b1⟩
      have H1 := hid h1; have B1 := hid (((Below.refl w.heap.size w).alloc (Nat.le_refl _) _).trans b1); clear h1 b1 hbn
      go_wp2_with fail
      refine (wire_number xs.length (by omega) _).mono ?_
      rintro e w2 ⟨rfl, b2⟩
      have H2 := hid (bld_below H1.out b2); have B2 := hid (Below.then B1.out B1.out.size b2); clear b2 H1 B1
      go_wp2_with fail
      refine (bld_string w.heap.size w.heap.size _ (putVar xs.length) _ H2.out (by simp; omega)).mono ?_
      rintro e w3 ⟨rfl, h3, b3⟩
      have H3 := hid h3; have B3 := hid (B2.out.trans b3); clear h3 b3 H2 B2
      go_wp2_with fail
      go_loopw [8, 29] (fun _ i' wr => ∃ i : Nat, i' = .int .i64 i ∧ i ≤ xs.length ∧ Bld w.heap.size w.heap.size (76 :: (putVar xs.length ++ (xs.take i).flatMap leafB)) wr ∧ Below w.heap.size w wr) (fun _ i' _ => (xs.length - intOf i').toNat)
      case atStart => exact ⟨0, rfl, by omega, by simpa using H3.out, B3.out⟩
      case round =>
        clear H3 B3
        obtain ⟨i, rfl, hi, hbld, hbw⟩ := hrel
        have HB := hid hbw
        have HD := hid hbld
        by_cases hlt : i < xs.length
        · have hx := HX.out.below hbw
          obtain ⟨b, off, rfl, hc⟩ := hx.str (k := i) hlt
          have hcell := hc i hlt
          have hsz := HS.out i hlt
          have hft := flat_take xs i hlt
          have hfl := HFL.out i (by omega)
          have hlb := leafB_len xs[i] hsz
          obtain ⟨y, hy⟩ : ∃ y, y = xs[i] := ⟨_, rfl⟩
          rw [← hy] at hcell hsz hft hlb
          have HFT := hid hft
          have hpy := putVar_len 9 y.size (by omega)
          have hcat : (⟨(putVar y.size).toArray⟩ : ByteArray).size + y.size ≤ 9223372036854775807 := by rw [str_size]; omega
          have hyl : y.data.toList.length = y.size := Array.length_toList
          have HYL := hid hyl
          have hfin : (⟨(putVar y.size).toArray⟩ : ByteArray) ++ y = ⟨(putVar y.size ++ y.data.toList).toArray⟩ := by
            conv => lhs; rw [str_list y]
            rw [str_app]
          have HF := hid hfin
          clear hx hc hy hft hbld hbw hyl hfin
          go_wp2_with fail
          refine (wire_number y.size (by omega) _).mono ?_
          rintro e w2 ⟨rfl, b2⟩
          have H2 := hid (bld_below HD.out b2); have B2 := hid (Below.then HB.out HB.out.size b2); clear b2
          go_wp2_with fail
          rw [HF.out]
          refine (bld_string w.heap.size w.heap.size _ (putVar y.size ++ y.data.toList) _ H2.out ?_).mono ?_
          · rw [List.length_append, HYL.out, List.length_cons, List.length_append]; omega
          rintro e w3 ⟨rfl, h3, b3⟩
          have H3 := hid h3; have B3 := hid (B2.out.trans b3); clear h3 b3 H2 B2
          go_wp2_with fail
          go_roundw
          case rel => exact ⟨i + 1, by go_num, by omega, by rw [HFT.out]; simpa [leafB] using H3.out, B3.out⟩
          case measure => simp [intOf]; omega
        · have HT : Hid (xs.take i = xs) := by unfold Hid; exact List.take_of_length_le (by omega)
          clear hbld hbw
          go_wp2_with fail
          refine (bld_done _ _ _ _ HD.out).mono ?_
          rintro e w3 ⟨rfl, b3⟩
          have B3 := hid (HB.out.trans b3); clear b3
          go_wp2_with fail
          go_ret2
          exact ⟨ret2 (by rw [HT.out]; rfl) rfl, B3.out⟩
end Go.Proofs.Ytocjjiacmedjmaa
