/- Walks of wire.number, wire.Leaves and of the reference's. -/
import Derived.Test.YtocjjiacmedjmaaDoorPutVar
import Derived.Test.YtocjjiacmedjmaaDoorArgs
import Derived.Test.YtocjjiacmedjmaaDoorShelf
set_option maxRecDepth 100000
namespace Go.Proofs.YtocjjiacmedjmaaDoor
open Go Go.RowKit

theorem wire_number (n : Nat) (hn : n ≤ 9223372036854775807) (w : World) :
    Calls Tryd.prog 60 #[.int .i64 n] w fun e w' => e = .returned (.string ⟨(putVar n).toArray⟩) ∧ Below w.heap.size w w' := by
  have hp := hid (fun W => nums_PutVar n (by omega) W)
  go_enter Tryd.func60, Tryd.ntmps60
  go_wp2_with fail
  refine (hp.out _).mono ?_
  rintro e w1 ⟨rfl, hb⟩
  have HB := hid hb; clear hb
  go_wp2_with fail
  go_ret
  exact ⟨rfl, HB.out⟩
theorem ref11_number (n : Nat) (hn : n ≤ 9223372036854775807) (w : World) :
    Calls Tryd.prog 63 #[.int .i64 n] w fun e w' => e = .returned (.string ⟨(putVar n).toArray⟩) ∧ Below w.heap.size w w' := by
  have hp := hid (fun W => ref1_PutVar n (by omega) W)
  go_enter Tryd.func63, Tryd.ntmps63
  go_wp2_with fail
  refine (hp.out _).mono ?_
  rintro e w1 ⟨rfl, hb⟩
  have HB := hid hb; clear hb
  go_wp2_with fail
  go_ret
  exact ⟨rfl, HB.out⟩

/-- A strings.Builder of the call's own that holds these bytes. -/
def Bld (B b : Nat) (l : List UInt8) (w : World) : Prop := Lib.IsBuilder 108 5 B b (Lib.byteCells l) w ∧ B ≤ w.heap.size
theorem bld_new (w : World) : Bld w.heap.size w.heap.size [] (w.alloc (.cells #[.pointer none, .slice none 0 0] 108)) :=
  ⟨Lib.fresh_isBuilder _ _ w, by simp⟩
theorem bld_string (B b : Nat) (l m : List UInt8) (w : World) (h : Bld B b l w) (hlen : l.length + m.length ≤ 140737488355328) :
    Calls Tryd.prog 80 #[.pointer (some ⟨b, 0, none⟩), .string ⟨m.toArray⟩] w fun e w' => e = .returned (.tuple #[.int .i64 m.length, .nilIface]) ∧ Bld B b (l ++ m) w' ∧ Below B w w' :=
  (Tryd.Builder_WriteString B b _ ⟨m.toArray⟩ w h.1 (by simpa [Lib.byteCells, str_size] using hlen) h.2).mono fun e w' ⟨he, hb, hbe⟩ => ⟨by rw [he, str_size], ⟨.inr (by simpa [Lib.byteCells, Lib.strCells] using hb), Nat.le_trans h.2 hbe.size⟩, hbe⟩
theorem bld_done (B b : Nat) (l : List UInt8) (w : World) (h : Bld B b l w) :
    Calls Tryd.prog 81 #[.pointer (some ⟨b, 0, none⟩)] w fun e w' => e = .returned (.string ⟨l.toArray⟩) ∧ Below B w w' :=
  Tryd.Builder_String_any B b l w h.1 h.2

theorem bld_below {B b : Nat} {l : List UInt8} {w w' : World} (h : Bld B b l w) (hb : Below w.heap.size w w') : Bld B b l w' := by
  refine ⟨?_, Nat.le_trans h.2 hb.size⟩
  have key : ∀ p, Lib.BuilderAt 108 5 B b p (Lib.byteCells l) w → Lib.BuilderAt 108 5 B b p (Lib.byteCells l) w' := by
    rintro p ⟨h1, v, h2, h3, h4⟩
    have hlt : b < w.heap.size := (Array.getElem?_eq_some_iff.1 h2).1
    refine ⟨h1, v, by rw [hb.block b hlt]; exact h2, ?_, h4⟩
    exact h3.kept (row := none) ⟨hb.os, hb.tape, hb.output, hb.size, fun k hk _ => hb.block k hk⟩ (by cases v.ownBlock <;> simp)
  exact h.1.imp (key _) (key _)
/-- What is written of leaves. -/
def leafB (s : ByteArray) : List UInt8 := putVar s.size ++ s.data.toList
def leavesB (xs : List ByteArray) : List UInt8 := 76 :: (putVar xs.length ++ xs.flatMap leafB)
def bigLeaf (xs : List ByteArray) : Bool := xs.any fun s => decide (4096 < s.size)
def leavesR (xs : List ByteArray) : ByteArray × Int :=
  if 1024 < xs.length then (⟨#[]⟩, 83) else if bigLeaf xs then (⟨#[]⟩, 121) else (⟨(leavesB xs).toArray⟩, 0)
def strErr (r : ByteArray × Int) : Value := .tuple #[.string r.1, .int .i64 r.2]

theorem strs'_get (xs : List ByteArray) (k : Nat) (h : k < xs.length) : (strs' xs)[k]'(by simpa [strs'] using h) = .string xs[k] := by simp [strs']
theorem RowAt.str {w : World} {ao : Option Addr} {xs : List ByteArray} (h : RowAt w ao (strs' xs)) {k : Nat} (hk : k < xs.length) :
    ∃ b off, ao = some ⟨b, off, none⟩ ∧ ∀ i (h : i < xs.length), w.cell? ⟨b, off + i, none⟩ = some (.string xs[i]) := by
  obtain ⟨b, off, e, hc⟩ := h.get (k := k) (by simpa [strs'] using hk)
  exact ⟨b, off, e, fun i hi => by rw [hc i (by simpa [strs'] using hi), strs'_get]⟩
theorem big_false (xs : List ByteArray) (h : bigLeaf xs = false) (i : Nat) (hi : i < xs.length) : xs[i].size ≤ 4096 := by
  unfold bigLeaf at h
  rw [List.any_eq_false] at h
  have := h xs[i] (List.getElem_mem hi)
  simpa using this
theorem big_true (xs : List ByteArray) (h : bigLeaf xs = true) : ∃ i, ∃ hi : i < xs.length, 4096 < xs[i].size := by
  unfold bigLeaf at h
  rw [List.any_eq_true] at h
  obtain ⟨x, hx, hd⟩ := h
  obtain ⟨i, hi, rfl⟩ := List.getElem_of_mem hx
  exact ⟨i, hi, by simpa using hd⟩
theorem flat_take (xs : List ByteArray) (i : Nat) (hi : i < xs.length) : (xs.take (i + 1)).flatMap leafB = (xs.take i).flatMap leafB ++ leafB xs[i] := by
  rw [List.take_succ_eq_append_getElem hi, List.flatMap_append, List.flatMap_cons, List.flatMap_nil, List.append_nil]
theorem leafB_len (s : ByteArray) (h : s.size ≤ 4096) : (leafB s).length ≤ 4106 := by
  unfold leafB
  have := putVar_len 9 s.size (by omega)
  rw [List.length_append]
  have e : s.data.toList.length = s.size := Array.length_toList
  omega
theorem flat_len (xs : List ByteArray) (h : ∀ i (hi : i < xs.length), xs[i].size ≤ 4096) (i : Nat) (hi : i ≤ xs.length) : ((xs.take i).flatMap leafB).length ≤ 4106 * i := by
  induction i with
  | zero => simp
  | succ i ih =>
    rw [flat_take xs i (by omega), List.length_append]
    have := ih (by omega)
    have := leafB_len xs[i] (h i (by omega))
    omega

end Go.Proofs.YtocjjiacmedjmaaDoor
