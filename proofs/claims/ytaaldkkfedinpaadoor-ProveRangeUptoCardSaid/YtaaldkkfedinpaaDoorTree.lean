/- tree.Node, Leaf, Empty. -/
import Derived.Shelf.Strings.Builder1
import Derived.Shelf.Strings.Builder2
import Derived.Shelf.Strings.OnBuilder
import Derived.Test.YtaaldkkfedinpaaDoorProg
import Derived.Test.YtaaldkkfedinpaaDoorShaK
namespace Go.Proofs
open Go.Shelf
def Tryd.lays156_ren : Go.Shelf.Ren := ⟨fun | 156 => 136 | 165 => 145 | 166 => 146 | 169 => 147 | 240 => 153 | 241 => 154 | 276 => 163 | 277 => 164 | n => n, fun | 31 => 36 | 9 => 9 | 3 => 3 | 4 => 4 | 0 => 0 | 20 => 20 | 72 => 181 | 76 => 105 | 70 => 179 | 37 => 137 | 75 => 104 | 127 => 174 | 164 => 203 | 5 => 5 | 80 => 183 | n => n, fun | n => n⟩
theorem Tryd.lays156 : Go.Proofs.Lays.n156 Tryd.prog Tryd.lays156_ren := {
  mixed := by kernel_rfl
  f156 := Tryd.func136.trans (congrArg some (by kernel_rfl))
  f165 := Tryd.func145.trans (congrArg some (by kernel_rfl))
  f166 := Tryd.func146.trans (congrArg some (by kernel_rfl))
  f169 := Tryd.func147.trans (congrArg some (by kernel_rfl))
  f240 := Tryd.func153.trans (congrArg some (by kernel_rfl))
  f241 := Tryd.func154.trans (congrArg some (by kernel_rfl))
  f276 := Tryd.func163.trans (congrArg some (by kernel_rfl))
  f277 := Tryd.func164.trans (congrArg some (by kernel_rfl))
  t0 := Tryd.underlying0
  a0 := Tryd.isAgg0
  z0 := Tryd.sizeOf0
  v0 := Tryd.zeroValue0
  t3 := Tryd.underlying3
  a3 := Tryd.isAgg3
  z3 := Tryd.sizeOf3
  v3 := Tryd.zeroValue3
  t4 := Tryd.underlying4
  a4 := Tryd.isAgg4
  z4 := Tryd.sizeOf4
  v4 := Tryd.zeroValue4
  t9 := Tryd.underlying9
  a9 := Tryd.isAgg9
  z9 := Tryd.sizeOf9
  v9 := Tryd.zeroValue9
  t20 := Tryd.underlying20
  a20 := Tryd.isAgg20
  z20 := Tryd.sizeOf20
  v20 := Tryd.zeroValue20
  t31 := Tryd.underlying36
  a31 := Tryd.isAgg36
  z31 := Tryd.sizeOf36
  v31 := Tryd.zeroValue36
  t37 := Tryd.underlying137
  a37 := Tryd.isAgg137
  z37 := Tryd.sizeOf137
  v37 := Tryd.zeroValue137
  t70 := Tryd.underlying179
  a70 := Tryd.isAgg179
  z70 := Tryd.sizeOf179
  v70 := Tryd.zeroValue179
  t72 := Tryd.underlying181
  a72 := Tryd.isAgg181
  z72 := Tryd.sizeOf181
  v72 := Tryd.zeroValue181
  t75 := Tryd.underlying104
  a75 := Tryd.isAgg104
  z75 := Tryd.sizeOf104
  v75 := Tryd.zeroValue104
  t76 := Tryd.underlying105
  a76 := Tryd.isAgg105
  z76 := Tryd.sizeOf105
  v76 := Tryd.zeroValue105
  t127 := Tryd.underlying174
  a127 := Tryd.isAgg174
  z127 := Tryd.sizeOf174
  v127 := Tryd.zeroValue174
  t164 := Tryd.underlying203
  a164 := Tryd.isAgg203
  z164 := Tryd.sizeOf203
  v164 := Tryd.zeroValue203 }
theorem Tryd.Builder_Extra_156 : Builder.Extra Tryd.prog Tryd.lays156_ren := {
  sizeBuilder := by kernel_rfl
  liesBuilder := by kernel_rfl
  t5 := Tryd.underlying5
  a5 := Tryd.isAgg5
  z5 := Tryd.sizeOf5
  v5 := Tryd.zeroValue5
  infoByte := by kernel_rfl
  cellsByte := by kernel_rfl
  sizeByte := by kernel_rfl
  neB5 := by decide }
open Go.RowKit in
/-- No element: the empty string; the world is as it was. (Whatever the slice's address and capacity: a nil slice too.) (LAID: no walk: one application.) -/
theorem Tryd.strings_Join_none (a : Option Addr) (c : Nat) (sep : ByteArray) (w : World) :
    Calls Tryd.prog 136 #[.slice a 0 c, .string sep] w fun e w' => e = .returned (.string ⟨#[]⟩) ∧ w' = w := Any.strings_Join_none Tryd.lays156 Tryd.Builder_Extra_156 a c sep w
open Go.RowKit in
/-- strings.Join: "Join concatenates the elements of its first argument to create a single string. The separator string sep is placed between elements in the resulting string.": HOWEVER MANY ELEMENTS. Below the heap's end the world is as it was. (LAID: no walk: one application.) -/
theorem Tryd.strings_Join (bk o c : Nat) (xs : List ByteArray) (sep : ByteArray) (w : World) (hcells : ∀ (j : Nat) x, xs[j]? = some x → w.cell? ⟨bk, o + j, none⟩ = some (.string x)) (hbk : bk < w.heap.size) (hN : xs.length ≤ 140737488355328) (hcap : xs.length ≤ c) (hlen : (Lib.join (xs.map (·.data.toList)) sep.data.toList).length ≤ 140737488355328) :
    Calls Tryd.prog 136 #[.slice (some ⟨bk, o, none⟩) xs.length c, .string sep] w fun e w' => e = .returned (.string ⟨(Lib.join (xs.map (·.data.toList)) sep.data.toList).toArray⟩) ∧ Below w.heap.size w w' := Any.strings_Join Tryd.lays156 Tryd.Builder_Extra_156 bk o c xs sep w hcells hbk hN hcap hlen
theorem Tryd.lays166 : Go.Proofs.Lays.n166 Tryd.prog Tryd.lays156_ren := { mixed := Tryd.lays156.mixed, f166 := Tryd.lays156.f166, f240 := Tryd.lays156.f240, f276 := Tryd.lays156.f276, t0 := Tryd.lays156.t0, a0 := Tryd.lays156.a0, z0 := Tryd.lays156.z0, v0 := Tryd.lays156.v0, t3 := Tryd.lays156.t3, a3 := Tryd.lays156.a3, z3 := Tryd.lays156.z3, v3 := Tryd.lays156.v3, t4 := Tryd.lays156.t4, a4 := Tryd.lays156.a4, z4 := Tryd.lays156.z4, v4 := Tryd.lays156.v4, t9 := Tryd.lays156.t9, a9 := Tryd.lays156.a9, z9 := Tryd.lays156.z9, v9 := Tryd.lays156.v9, t20 := Tryd.lays156.t20, a20 := Tryd.lays156.a20, z20 := Tryd.lays156.z20, v20 := Tryd.lays156.v20, t37 := Tryd.lays156.t37, a37 := Tryd.lays156.a37, z37 := Tryd.lays156.z37, v37 := Tryd.lays156.v37, t70 := Tryd.lays156.t70, a70 := Tryd.lays156.a70, z70 := Tryd.lays156.z70, v70 := Tryd.lays156.v70, t72 := Tryd.lays156.t72, a72 := Tryd.lays156.a72, z72 := Tryd.lays156.z72, v72 := Tryd.lays156.v72, t75 := Tryd.lays156.t75, a75 := Tryd.lays156.a75, z75 := Tryd.lays156.z75, v75 := Tryd.lays156.v75, t164 := Tryd.lays156.t164, a164 := Tryd.lays156.a164, z164 := Tryd.lays156.z164, v164 := Tryd.lays156.v164 }
open Go.RowKit in
theorem Tryd.Builder_WriteString (B b : Nat) (bs : List Value) (s : ByteArray) (w : World) (h : Lib.IsBuilder 181 5 B b bs w) (hlen : bs.length + s.size ≤ 140737488355328) (hBw : B ≤ w.heap.size) :
    Calls Tryd.prog 146 #[.pointer (some ⟨b, 0, none⟩), .string s] w fun e w' => e = .returned (.tuple #[.int .i64 s.size, .nilIface]) ∧ (Lib.BuilderAt 181 5 B b (.pointer (some ⟨b, 0, none⟩)) (bs ++ Lib.strCells s) w' ∧ Below B w w') := Any.Builder_WriteString Tryd.lays166 Tryd.Builder_Extra_156 B b bs s w h hlen hBw
theorem Tryd.lays169 : Go.Proofs.Lays.n169 Tryd.prog Tryd.lays156_ren := { mixed := Tryd.lays156.mixed, f169 := Tryd.lays156.f169, t0 := Tryd.lays156.t0, a0 := Tryd.lays156.a0, z0 := Tryd.lays156.z0, v0 := Tryd.lays156.v0, t3 := Tryd.lays156.t3, a3 := Tryd.lays156.a3, z3 := Tryd.lays156.z3, v3 := Tryd.lays156.v3, t9 := Tryd.lays156.t9, a9 := Tryd.lays156.a9, z9 := Tryd.lays156.z9, v9 := Tryd.lays156.v9, t37 := Tryd.lays156.t37, a37 := Tryd.lays156.a37, z37 := Tryd.lays156.z37, v37 := Tryd.lays156.v37, t70 := Tryd.lays156.t70, a70 := Tryd.lays156.a70, z70 := Tryd.lays156.z70, v70 := Tryd.lays156.v70, t72 := Tryd.lays156.t72, a72 := Tryd.lays156.a72, z72 := Tryd.lays156.z72, v72 := Tryd.lays156.v72, t127 := Tryd.lays156.t127, a127 := Tryd.lays156.a127, z127 := Tryd.lays156.z127, v127 := Tryd.lays156.v127 }
open Go.RowKit in
theorem Tryd.Builder_String_any (B b : Nat) (l : List UInt8) (w : World) (h : Lib.IsBuilder 181 5 B b (Lib.byteCells l) w) (hBw : B ≤ w.heap.size) :
    Calls Tryd.prog 147 #[.pointer (some ⟨b, 0, none⟩)] w fun e w' => e = .returned (.string ⟨l.toArray⟩) ∧ Below B w w' := Any.Builder_String_any Tryd.lays169 Tryd.Builder_Extra_156 B b l w h hBw
end Go.Proofs
set_option maxRecDepth 100000
namespace Go.Proofs.YtaaldkkfedinpaaDoor
open Go Go.RowKit

/-- Texts one behind the other. -/
def flat (xs : List ByteArray) : List UInt8 := (xs.map (·.data.toList)).flatten
theorem join_nil (ls : List (List UInt8)) : Lib.join ls [] = ls.flatten := by
  induction ls with
  | nil => rfl
  | cons x r ih =>
    rw [Lib.join_cons]
    unfold Lib.joinTail
    rw [List.flatten_cons]
    congr 1
    congr 1
    induction r with
    | nil => rfl
    | cons y r ih2 => simp
def emptyS (k : Int) : ByteArray := cutS [] k
def leafS (k : Int) (d : ByteArray) : ByteArray := cutS (0 :: d.data.toList) k
def nodeS (k : Int) (l r : ByteArray) : ByteArray := cutS (1 :: (l.data.toList ++ r.data.toList)) k
theorem nodeS_size (k : Int) (l r : ByteArray) : (nodeS k l r).size = wid k := cutS_size _ _
theorem leafS_size (k : Int) (d : ByteArray) : (leafS k d).size = wid k := cutS_size _ _
theorem emptyS_size (k : Int) : (emptyS k).size = wid k := cutS_size _ _

theorem tree_Empty (k : Int) (w : World) (hg : GlobP w) :
    Calls Tryd.prog 89 #[.int .i64 k] w fun e w' => e = .returned (.string (emptyS k)) ∧ Below w.heap.size w w' := by
  have HJ := hid (Tryd.strings_Join_none none 0 ⟨#[]⟩ w)
  have HC := hid (sha_Cut ⟨#[]⟩ (by decide) k w hg)
  have HH : Hid (Calls Tryd.prog 117 #[.int .i64 k, .slice none 0 0] w fun e w' => e = .returned (.string (emptyS k)) ∧ Below w.heap.size w w') := by
    unfold Hid
    go_enter Tryd.func117, Tryd.ntmps117
    go_wp2_with fail
    refine (HJ.out).mono ?_
    rintro e w' ⟨rfl, rfl⟩
    go_wp2_with fail
    refine (HC.out).mono ?_
    rintro e w1 ⟨rfl, hb1⟩
    go_wp2_with fail
    go_ret
    exact ⟨rfl, hb1⟩
  clear HJ HC hg
  go_enter Tryd.func89, Tryd.ntmps89
  go_wp2_with fail
  refine (HH.out).mono ?_
  rintro e w1 ⟨rfl, hb1⟩
  go_wp2_with fail
  go_ret
  exact ⟨rfl, hb1⟩

theorem tree_hashed (k : Int) (b n : Nat) (xs : List ByteArray) (hn : xs.length = n) (h0 : 0 < n) (w : World) (hx : ∀ j x, xs[j]? = some x → w.cell? ⟨b, 0 + j, none⟩ = some (.string x)) (hl : (flat xs).length ≤ 140737488355328 - 200) (hg : GlobP w) (hn2 : n ≤ 100) :
    Calls Tryd.prog 117 #[.int .i64 k, .slice (some ⟨b, 0, none⟩) n n] w fun e w' => e = .returned (.string (cutS (flat xs) k)) ∧ Below w.heap.size w w' := by
  subst hn
  have hb := World.block_lt_of_cell? _ _ (hx 0 _ (List.getElem?_eq_getElem h0))
  have hj := Tryd.strings_Join b 0 xs.length xs ⟨#[]⟩ w hx hb (by omega) (Nat.le_refl _) (by show (Lib.join _ []).length ≤ _; rw [join_nil]; unfold flat at hl; omega)
  have e : (Lib.join (xs.map (·.data.toList)) (⟨#[]⟩ : ByteArray).data.toList) = flat xs := join_nil _
  rw [e] at hj
  have HJ := hid hj
  have HC := hid (fun (W : World) (hW : Below w.heap.size w W) => sha_Cut ⟨(flat xs).toArray⟩ (by rw [str_size]; exact hl) k W (hg.below hW))
  clear hj e hx hl hg hn2 h0
  go_enter Tryd.func117, Tryd.ntmps117
  go_wp2_with fail
  refine (HJ.out).mono ?_
  rintro e w1 ⟨rfl, hb1⟩
  have H1 := hid (HC.out _ hb1)
  have B1 := hid hb1
  clear hb1
  go_wp2_with fail
  refine (H1.out).mono ?_
  rintro e w2 ⟨rfl, hb2⟩
  have B2 := hid (Below.then' B1.out hb2)
  clear hb2
  go_wp2_with fail
  go_ret
  exact ⟨rfl, B2.out⟩

theorem tree_Node (k : Int) (l r : ByteArray) (hlr : l.size + r.size ≤ 140737488355328 - 300) (w : World) (hg : GlobP w) :
    Calls Tryd.prog 91 #[.int .i64 k, .string l, .string r] w fun e w' => e = .returned (.string (nodeS k l r)) ∧ Below w.heap.size w w' := by
  have hal := (Below.refl w.heap.size w).alloc (Nat.le_refl _) (.cells #[.string ⟨#[1]⟩, .string l, .string r] 9)
  have hf : flat [⟨#[1]⟩, l, r] = 1 :: (l.data.toList ++ r.data.toList) := by simp [flat]
  have hh := tree_hashed k w.heap.size 3 [⟨#[1]⟩, l, r] rfl (by omega) (w.alloc (.cells #[.string ⟨#[1]⟩, .string l, .string r] 9)) (fun j x hj => by
    rw [Nat.zero_add, cell_of_row _ _ j _ _ _ (heap_alloc_new w _)]
    match j, hj with
    | 0, hj => simp at hj; subst hj; rfl
    | 1, hj => simp at hj; subst hj; rfl
    | 2, hj => simp at hj; subst hj; rfl) (by rw [hf]; simp; omega) (hg.below hal) (by omega)
  rw [hf] at hh
  have HH := hid hh
  have B0 := hid hal
  clear hh hal hf hg
  go_enter Tryd.func91, Tryd.ntmps91
  go_wp2_with fail
  refine (HH.out).mono ?_
  rintro e w1 ⟨rfl, hb1⟩
  have B1 := hid (Below.then' B0.out hb1)
  clear hb1
  go_wp2_with fail
  go_ret
  exact ⟨rfl, B1.out⟩

end Go.Proofs.YtaaldkkfedinpaaDoor
