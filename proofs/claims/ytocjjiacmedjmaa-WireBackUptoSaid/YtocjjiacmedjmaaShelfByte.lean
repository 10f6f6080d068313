/- The kit's contract of strings.Builder's WriteByte at this program. -/
import Derived.Shelf.Strings.Builder1
import Derived.Shelf.Strings.Builder2
import Derived.Shelf.Strings.OnBuilder
import Derived.Test.YtocjjiacmedjmaaProg
namespace Go.Proofs
open Go.Shelf
def Try.lays156_ren : Go.Shelf.Ren := ⟨fun | 156 => 30 | 165 => 53 | 166 => 26 | 169 => 31 | 240 => 51 | 241 => 65 | 276 => 63 | 277 => 70 | n => n, fun | 31 => 23 | 9 => 9 | 3 => 3 | 4 => 4 | 0 => 0 | 20 => 20 | 72 => 65 | 76 => 68 | 70 => 63 | 37 => 57 | 75 => 67 | 127 => 108 | 164 => 115 | 5 => 5 | 80 => 74 | n => n, fun | n => n⟩
theorem Try.lays156 : Go.Proofs.Lays.n156 Try.prog Try.lays156_ren := {
  mixed := by kernel_rfl
  f156 := Try.func30.trans (congrArg some (by kernel_rfl))
  f165 := Try.func53.trans (congrArg some (by kernel_rfl))
  f166 := Try.func26.trans (congrArg some (by kernel_rfl))
  f169 := Try.func31.trans (congrArg some (by kernel_rfl))
  f240 := Try.func51.trans (congrArg some (by kernel_rfl))
  f241 := Try.func65.trans (congrArg some (by kernel_rfl))
  f276 := Try.func63.trans (congrArg some (by kernel_rfl))
  f277 := Try.func70.trans (congrArg some (by kernel_rfl))
  t0 := Try.underlying0
  a0 := Try.isAgg0
  z0 := Try.sizeOf0
  v0 := Try.zeroValue0
  t3 := Try.underlying3
  a3 := Try.isAgg3
  z3 := Try.sizeOf3
  v3 := Try.zeroValue3
  t4 := Try.underlying4
  a4 := Try.isAgg4
  z4 := Try.sizeOf4
  v4 := Try.zeroValue4
  t9 := Try.underlying9
  a9 := Try.isAgg9
  z9 := Try.sizeOf9
  v9 := Try.zeroValue9
  t20 := Try.underlying20
  a20 := Try.isAgg20
  z20 := Try.sizeOf20
  v20 := Try.zeroValue20
  t31 := Try.underlying23
  a31 := Try.isAgg23
  z31 := Try.sizeOf23
  v31 := Try.zeroValue23
  t37 := Try.underlying57
  a37 := Try.isAgg57
  z37 := Try.sizeOf57
  v37 := Try.zeroValue57
  t70 := Try.underlying63
  a70 := Try.isAgg63
  z70 := Try.sizeOf63
  v70 := Try.zeroValue63
  t72 := Try.underlying65
  a72 := Try.isAgg65
  z72 := Try.sizeOf65
  v72 := Try.zeroValue65
  t75 := Try.underlying67
  a75 := Try.isAgg67
  z75 := Try.sizeOf67
  v75 := Try.zeroValue67
  t76 := Try.underlying68
  a76 := Try.isAgg68
  z76 := Try.sizeOf68
  v76 := Try.zeroValue68
  t127 := Try.underlying108
  a127 := Try.isAgg108
  z127 := Try.sizeOf108
  v127 := Try.zeroValue108
  t164 := Try.underlying115
  a164 := Try.isAgg115
  z164 := Try.sizeOf115
  v164 := Try.zeroValue115 }
theorem Try.Builder_Extra_156 : Builder.Extra Try.prog Try.lays156_ren := {
  sizeBuilder := by kernel_rfl
  liesBuilder := by kernel_rfl
  t5 := Try.underlying5
  a5 := Try.isAgg5
  z5 := Try.sizeOf5
  v5 := Try.zeroValue5
  infoByte := by kernel_rfl
  cellsByte := by kernel_rfl
  sizeByte := by kernel_rfl
  neB5 := by decide }
open Go.RowKit in
/-- No element: the empty string; the world is as it was. (Whatever the slice's address and capacity: a nil slice too.) (LAID: no walk: one application.) -/
theorem Try.strings_Join_none (a : Option Addr) (c : Nat) (sep : ByteArray) (w : World) :
    Calls Try.prog 30 #[.slice a 0 c, .string sep] w fun e w' => e = .returned (.string ⟨#[]⟩) ∧ w' = w := Any.strings_Join_none Try.lays156 Try.Builder_Extra_156 a c sep w
open Go.RowKit in
/-- strings.Join: "Join concatenates the elements of its first argument to create a single string. The separator string sep is placed between elements in the resulting string.": HOWEVER MANY ELEMENTS. Below the heap's end the world is as it was. (LAID: no walk: one application.) -/
theorem Try.strings_Join (bk o c : Nat) (xs : List ByteArray) (sep : ByteArray) (w : World) (hcells : ∀ (j : Nat) x, xs[j]? = some x → w.cell? ⟨bk, o + j, none⟩ = some (.string x)) (hbk : bk < w.heap.size) (hN : xs.length ≤ 140737488355328) (hcap : xs.length ≤ c) (hlen : (Lib.join (xs.map (·.data.toList)) sep.data.toList).length ≤ 140737488355328) :
    Calls Try.prog 30 #[.slice (some ⟨bk, o, none⟩) xs.length c, .string sep] w fun e w' => e = .returned (.string ⟨(Lib.join (xs.map (·.data.toList)) sep.data.toList).toArray⟩) ∧ Below w.heap.size w w' := Any.strings_Join Try.lays156 Try.Builder_Extra_156 bk o c xs sep w hcells hbk hN hcap hlen
theorem Try.lays166 : Go.Proofs.Lays.n166 Try.prog Try.lays156_ren := { mixed := Try.lays156.mixed, f166 := Try.lays156.f166, f240 := Try.lays156.f240, f276 := Try.lays156.f276, t0 := Try.lays156.t0, a0 := Try.lays156.a0, z0 := Try.lays156.z0, v0 := Try.lays156.v0, t3 := Try.lays156.t3, a3 := Try.lays156.a3, z3 := Try.lays156.z3, v3 := Try.lays156.v3, t4 := Try.lays156.t4, a4 := Try.lays156.a4, z4 := Try.lays156.z4, v4 := Try.lays156.v4, t9 := Try.lays156.t9, a9 := Try.lays156.a9, z9 := Try.lays156.z9, v9 := Try.lays156.v9, t20 := Try.lays156.t20, a20 := Try.lays156.a20, z20 := Try.lays156.z20, v20 := Try.lays156.v20, t37 := Try.lays156.t37, a37 := Try.lays156.a37, z37 := Try.lays156.z37, v37 := Try.lays156.v37, t70 := Try.lays156.t70, a70 := Try.lays156.a70, z70 := Try.lays156.z70, v70 := Try.lays156.v70, t72 := Try.lays156.t72, a72 := Try.lays156.a72, z72 := Try.lays156.z72, v72 := Try.lays156.v72, t75 := Try.lays156.t75, a75 := Try.lays156.a75, z75 := Try.lays156.z75, v75 := Try.lays156.v75, t164 := Try.lays156.t164, a164 := Try.lays156.a164, z164 := Try.lays156.z164, v164 := Try.lays156.v164 }
open Go.RowKit in
theorem Try.Builder_WriteString (B b : Nat) (bs : List Value) (s : ByteArray) (w : World) (h : Lib.IsBuilder 65 5 B b bs w) (hlen : bs.length + s.size ≤ 140737488355328) (hBw : B ≤ w.heap.size) :
    Calls Try.prog 26 #[.pointer (some ⟨b, 0, none⟩), .string s] w fun e w' => e = .returned (.tuple #[.int .i64 s.size, .nilIface]) ∧ (Lib.BuilderAt 65 5 B b (.pointer (some ⟨b, 0, none⟩)) (bs ++ Lib.strCells s) w' ∧ Below B w w') := Any.Builder_WriteString Try.lays166 Try.Builder_Extra_156 B b bs s w h hlen hBw
theorem Try.lays169 : Go.Proofs.Lays.n169 Try.prog Try.lays156_ren := { mixed := Try.lays156.mixed, f169 := Try.lays156.f169, t0 := Try.lays156.t0, a0 := Try.lays156.a0, z0 := Try.lays156.z0, v0 := Try.lays156.v0, t3 := Try.lays156.t3, a3 := Try.lays156.a3, z3 := Try.lays156.z3, v3 := Try.lays156.v3, t9 := Try.lays156.t9, a9 := Try.lays156.a9, z9 := Try.lays156.z9, v9 := Try.lays156.v9, t37 := Try.lays156.t37, a37 := Try.lays156.a37, z37 := Try.lays156.z37, v37 := Try.lays156.v37, t70 := Try.lays156.t70, a70 := Try.lays156.a70, z70 := Try.lays156.z70, v70 := Try.lays156.v70, t72 := Try.lays156.t72, a72 := Try.lays156.a72, z72 := Try.lays156.z72, v72 := Try.lays156.v72, t127 := Try.lays156.t127, a127 := Try.lays156.a127, z127 := Try.lays156.z127, v127 := Try.lays156.v127 }
open Go.RowKit in
theorem Try.Builder_String_any (B b : Nat) (l : List UInt8) (w : World) (h : Lib.IsBuilder 65 5 B b (Lib.byteCells l) w) (hBw : B ≤ w.heap.size) :
    Calls Try.prog 31 #[.pointer (some ⟨b, 0, none⟩)] w fun e w' => e = .returned (.string ⟨l.toArray⟩) ∧ Below B w w' := Any.Builder_String_any Try.lays169 Try.Builder_Extra_156 B b l w h hBw
end Go.Proofs
namespace Go.Proofs
open Go.Shelf
def Try.lays167_ren : Go.Shelf.Ren := ⟨fun | 167 => 32 | 156 => 30 | 165 => 53 | 166 => 26 | 169 => 31 | 240 => 51 | 241 => 65 | 276 => 63 | 277 => 70 | n => n, fun | 31 => 23 | 9 => 9 | 3 => 3 | 4 => 4 | 0 => 0 | 20 => 20 | 72 => 65 | 76 => 68 | 70 => 63 | 37 => 57 | 75 => 67 | 127 => 108 | 164 => 115 | 5 => 5 | 80 => 74 | n => n, fun | n => n⟩
theorem Try.lays167 : Go.Proofs.Lays.n167 Try.prog Try.lays167_ren := { f167 := Try.func32.trans (congrArg some (by kernel_rfl)), t5 := Try.underlying5, a5 := Try.isAgg5, z5 := Try.sizeOf5, v5 := Try.zeroValue5, mixed := by kernel_rfl, f240 := Try.func51.trans (congrArg some (by kernel_rfl)), f276 := Try.func63.trans (congrArg some (by kernel_rfl)), t0 := Try.underlying0, a0 := Try.isAgg0, z0 := Try.sizeOf0, v0 := Try.zeroValue0, t4 := Try.underlying4, a4 := Try.isAgg4, z4 := Try.sizeOf4, v4 := Try.zeroValue4, t9 := Try.underlying9, a9 := Try.isAgg9, z9 := Try.sizeOf9, v9 := Try.zeroValue9, t20 := Try.underlying20, a20 := Try.isAgg20, z20 := Try.sizeOf20, v20 := Try.zeroValue20, t37 := Try.underlying57, a37 := Try.isAgg57, z37 := Try.sizeOf57, v37 := Try.zeroValue57, t70 := Try.underlying63, a70 := Try.isAgg63, z70 := Try.sizeOf63, v70 := Try.zeroValue63, t72 := Try.underlying65, a72 := Try.isAgg65, z72 := Try.sizeOf65, v72 := Try.zeroValue65, t75 := Try.underlying67, a75 := Try.isAgg67, z75 := Try.sizeOf67, v75 := Try.zeroValue67, t164 := Try.underlying115, a164 := Try.isAgg115, z164 := Try.sizeOf115, v164 := Try.zeroValue115 }
theorem Try.Builder_Extra_167 : Builder.Extra Try.prog Try.lays167_ren := { sizeBuilder := by kernel_rfl, liesBuilder := by kernel_rfl, t5 := Try.underlying5, a5 := Try.isAgg5, z5 := Try.sizeOf5, v5 := Try.zeroValue5, infoByte := by kernel_rfl, cellsByte := by kernel_rfl, sizeByte := by kernel_rfl, neB5 := by decide }
open Go.RowKit in
theorem Try.Builder_WriteByte (B b : Nat) (bs : List Value) (c : Int) (w : World) (h : Lib.IsBuilder 65 5 B b bs w) (hlen : bs.length + 1 ≤ 140737488355328) (hBw : B ≤ w.heap.size) :
    Calls Try.prog 32 #[.pointer (some ⟨b, 0, none⟩), .int .u8 c] w fun e w' => e = .returned .nilIface ∧ (Lib.BuilderAt 65 5 B b (.pointer (some ⟨b, 0, none⟩)) (bs ++ [.int .u8 c]) w' ∧ Below B w w') := Any.Builder_WriteByte Try.lays167 Try.Builder_Extra_167 B b bs c w h hlen hBw
end Go.Proofs
