/- tree.Node, Leaf, Empty. -/
import Derived.Test.YtaaldkkfedinpaaDoorShaK
import Derived.Test.YtaaldkkfedinpaaDoorShelf
set_option maxRecDepth 100000
namespace Go.Proofs.YtaaldkkfedinpaaDoor
open Go Go.RowKit

/-- Texts one behind the other. -/
def flat (xs : List ByteArray) : List UInt8 := (xs.map (·.data.toList)).flatten
theorem join_nil (ls : List (List UInt8)) : Lib.join ls [] = ls.flatten := by
  induction ls with
  | nil => rfl
  | cons x r ih =>
    rw [Lib.join_cons]
    unfold Lib.joinTail
    rw [List.flatten_cons]
    congr 1
    congr 1
    induction r with
    | nil => rfl
    | cons y r ih2 => simp
def emptyS (k : Int) : ByteArray := cutS [] k
def leafS (k : Int) (d : ByteArray) : ByteArray := cutS (0 :: d.data.toList) k
def nodeS (k : Int) (l r : ByteArray) : ByteArray := cutS (1 :: (l.data.toList ++ r.data.toList)) k
theorem nodeS_size (k : Int) (l r : ByteArray) : (nodeS k l r).size = wid k := cutS_size _ _
theorem leafS_size (k : Int) (d : ByteArray) : (leafS k d).size = wid k := cutS_size _ _
theorem emptyS_size (k : Int) : (emptyS k).size = wid k := cutS_size _ _

theorem tree_Empty (k : Int) (w : World) (hg : GlobP w) :
    Calls Tryd.prog 89 #[.int .i64 k] w fun e w' => e = .returned (.string (emptyS k)) ∧ Below w.heap.size w w' := by
  have HJ := hid (Tryd.strings_Join_none none 0 ⟨#[]⟩ w)
  have HC := hid (sha_Cut ⟨#[]⟩ (by decide) k w hg)
  have HH : Hid (Calls Tryd.prog 117 #[.int .i64 k, .slice none 0 0] w fun e w' => e = .returned (.string (emptyS k)) ∧ Below w.heap.size w w') := by
    unfold Hid
    go_enter Tryd.func117, Tryd.ntmps117
    go_wp2_with fail
    refine (HJ.out).mono ?_
    rintro e w' ⟨rfl, rfl⟩
    go_wp2_with fail
    refine (HC.out).mono ?_
    rintro e w1 ⟨rfl, hb1⟩
    go_wp2_with fail
    go_ret
    exact ⟨rfl, hb1⟩
  clear HJ HC hg
  go_enter Tryd.func89, Tryd.ntmps89
  go_wp2_with fail
  refine (HH.out).mono ?_
  rintro e w1 ⟨rfl, hb1⟩
  go_wp2_with fail
  go_ret
  exact ⟨rfl, hb1⟩

theorem tree_hashed (k : Int) (b n : Nat) (xs : List ByteArray) (hn : xs.length = n) (h0 : 0 < n) (w : World) (hx : ∀ j x, xs[j]? = some x → w.cell? ⟨b, 0 + j, none⟩ = some (.string x)) (hl : (flat xs).length ≤ 140737488355328 - 200) (hg : GlobP w) (hn2 : n ≤ 100) :
    Calls Tryd.prog 117 #[.int .i64 k, .slice (some ⟨b, 0, none⟩) n n] w fun e w' => e = .returned (.string (cutS (flat xs) k)) ∧ Below w.heap.size w w' := by
  subst hn
  have hb := World.block_lt_of_cell? _ _ (hx 0 _ (List.getElem?_eq_getElem h0))
  have hj := Tryd.strings_Join b 0 xs.length xs ⟨#[]⟩ w hx hb (by omega) (Nat.le_refl _) (by show (Lib.join _ []).length ≤ _; rw [join_nil]; unfold flat at hl; omega)
  have e : (Lib.join (xs.map (·.data.toList)) (⟨#[]⟩ : ByteArray).data.toList) = flat xs := join_nil _
  rw [e] at hj
  have HJ := hid hj
  have HC := hid (fun (W : World) (hW : Below w.heap.size w W) => sha_Cut ⟨(flat xs).toArray⟩ (by rw [str_size]; exact hl) k W (hg.below hW))
  clear hj e hx hl hg hn2 h0
  go_enter Tryd.func117, Tryd.ntmps117
  go_wp2_with fail
  refine (HJ.out).mono ?_
  rintro e w1 ⟨rfl, hb1⟩
  have H1 := hid (HC.out _ hb1)
  have B1 := hid hb1
  clear hb1
  go_wp2_with fail
  refine (H1.out).mono ?_
  rintro e w2 ⟨rfl, hb2⟩
  have B2 := hid (Below.then' B1.out hb2)
  clear hb2
  go_wp2_with fail
  go_ret
  exact ⟨rfl, B2.out⟩

theorem tree_Node (k : Int) (l r : ByteArray) (hlr : l.size + r.size ≤ 140737488355328 - 300) (w : World) (hg : GlobP w) :
    Calls Tryd.prog 91 #[.int .i64 k, .string l, .string r] w fun e w' => e = .returned (.string (nodeS k l r)) ∧ Below w.heap.size w w' := by
  have hal := (Below.refl w.heap.size w).alloc (Nat.le_refl _) (.cells #[.string ⟨#[1]⟩, .string l, .string r] 9)
  have hf : flat [⟨#[1]⟩, l, r] = 1 :: (l.data.toList ++ r.data.toList) := by simp [flat]
  have hh := tree_hashed k w.heap.size 3 [⟨#[1]⟩, l, r] rfl (by omega) (w.alloc (.cells #[.string ⟨#[1]⟩, .string l, .string r] 9)) (fun j x hj => by
    rw [Nat.zero_add, cell_of_row _ _ j _ _ _ (heap_alloc_new w _)]
    match j, hj with
    | 0, hj => simp at hj; subst hj; rfl
    | 1, hj => simp at hj; subst hj; rfl
    | 2, hj => simp at hj; subst hj; rfl) (by rw [hf]; simp; omega) (hg.below hal) (by omega)
  rw [hf] at hh
  have HH := hid hh
  have B0 := hid hal
  clear hh hal hf hg
  go_enter Tryd.func91, Tryd.ntmps91
  go_wp2_with fail
  refine (HH.out).mono ?_
  rintro e w1 ⟨rfl, hb1⟩
  have B1 := hid (Below.then' B0.out hb1)
  clear hb1
  go_wp2_with fail
  go_ret
  exact ⟨rfl, B1.out⟩

end Go.Proofs.YtaaldkkfedinpaaDoor
