/- Walks of the readers over a list of hashes: the program's (its function values) and the reference's. -/
import Derived.Test.YtocjjiacmedjmaaDoorRefNode
import Derived.Test.YtocjjiacmedjmaaDoorSpan
import Derived.Test.YtocjjiacmedjmaaDoorArgs
import Derived.Deep.RegionHeld3
set_option maxRecDepth 100000
namespace Go.Proofs.YtocjjiacmedjmaaDoor
open Go Go.RowKit

/-- The node of a level over these leaves. -/
def nodeAt (k : Int) (hs : List ByteArray) : Nat → Nat → ByteArray
  | 0, i => hs.getD i ⟨#[]⟩
  | l + 1, i => nodeS k (nodeAt k hs l (2 * i)) (nodeAt k hs l (2 * i + 1))
theorem nodeAt_up (k : Int) (hs : List ByteArray) (l i : Nat) : nodeAt k hs (l + 1) i = nodeS k (nodeAt k hs l (2 * i)) (nodeAt k hs l (2 * i + 1)) := rfl
theorem nodeAt_size (k : Int) (hs : List ByteArray) (S : Nat) (hS : 32 ≤ S) (hz : ∀ x ∈ hs, x.size ≤ S) (l i : Nat) : (nodeAt k hs l i).size ≤ S := by
  cases l with
  | zero =>
    show (hs.getD i ⟨#[]⟩).size ≤ S
    rw [List.getD_eq_getElem?_getD]
    by_cases h : i < hs.length
    · rw [List.getElem?_eq_getElem h]; exact hz _ (List.getElem_mem h)
    · rw [List.getElem?_eq_none (by omega)]; exact Nat.zero_le _
  | succ l =>
    rw [nodeAt_up]
    have := nodeS_size k (nodeAt k hs l (2 * i)) (nodeAt k hs l (2 * i + 1))
    have h2 := wid_le k
    omega
/-- The reader's three boxes. -/
structure OfBox (k : Int) (ao : Option Addr) (hs : List ByteArray) (cap p5 p2 p6 : Nat) (w : World) : Prop where
  list : w.cell? ⟨p5, 0, none⟩ = some (.slice ao hs.length cap)
  row : RowAt w ao (strs' hs)
  wid : w.cell? ⟨p2, 0, none⟩ = some (.int .i64 k)
  fn : w.cell? ⟨p6, 0, none⟩ = some (.func (.func 41) #[] #[.pointer (some ⟨p5, 0, none⟩), .pointer (some ⟨p2, 0, none⟩), .pointer (some ⟨p6, 0, none⟩)])
  glob : GlobP w
theorem OfBox.below {k : Int} {ao : Option Addr} {hs : List ByteArray} {cap p5 p2 p6 : Nat} {w w' : World} (h : OfBox k ao hs cap p5 p2 p6 w) (hb : Below w.heap.size w w') : OfBox k ao hs cap p5 p2 p6 w' := by
  have hk := fun {p : Addr} {v : Value} (hc : w.cell? p = some v) => (hb.cell (World.block_lt_of_cell? _ _ hc)).trans hc
  exact ⟨hk h.list, h.row.below hb, hk h.wid, hk h.fn, h.glob.below hb⟩
theorem str_at {w : World} {ao : Option Addr} {xs : List ByteArray} (h : RowAt w ao (strs' xs)) {k : Nat} (hk : k < xs.length) :
    ∃ b off, ao = some ⟨b, off, none⟩ ∧ w.cell? ⟨b, off + k, none⟩ = some (.string (xs.getD k ⟨#[]⟩)) := by
  rcases h with h | ⟨b, off, rfl, hc⟩
  · have := congrArg List.length h
    rw [strs'_length] at this
    simp only [List.length_nil] at this
    omega
  refine ⟨b, off, rfl, ?_⟩
  have := hc k (by rw [strs'_length]; exact hk)
  rw [this]
  simp [strs', List.getD_eq_getElem?_getD, List.getElem?_eq_getElem hk]
/-- The reader's boxes, and those of the two nodes below. -/
structure TwoK (k : Int) (ao : Option Addr) (hs : List ByteArray) (cap p5 p2 p6 : Nat) (w : World) (l i : Int) (W : World) : Prop where
  bel : Below w.heap.size w W
  box : OfBox k ao hs cap p5 p2 p6 W
  c10 : W.cell? ⟨w.heap.size + 1, 0, none⟩ = some (.int .i64 l)
  c11 : W.cell? ⟨w.heap.size + 1, 1, none⟩ = some (.int .i64 (2 * i))
  c20 : W.cell? ⟨w.heap.size + 2, 0, none⟩ = some (.int .i64 l)
  c21 : W.cell? ⟨w.heap.size + 2, 1, none⟩ = some (.int .i64 (2 * i + 1))
theorem TwoK.step {k : Int} {ao : Option Addr} {hs : List ByteArray} {cap p5 p2 p6 : Nat} {w : World} {l i : Int} {W W' : World} (h : TwoK k ao hs cap p5 p2 p6 w l i W) (hb : Below W.heap.size W W') : TwoK k ao hs cap p5 p2 p6 w l i W' := by
  have hk := fun {p : Addr} {v : Value} (hc : W.cell? p = some v) => (hb.cell (World.block_lt_of_cell? _ _ hc)).trans hc
  exact ⟨Below.then' h.bel hb, h.box.below hb, hk h.c10, hk h.c11, hk h.c20, hk h.c21⟩
theorem TwoK.start {k : Int} {ao : Option Addr} {hs : List ByteArray} {cap p5 p2 p6 : Nat} {w : World} (h : OfBox k ao hs cap p5 p2 p6 w) (l i : Int) (a b : Value) :
    TwoK k ao hs cap p5 p2 p6 w l i (((w.alloc (.cells #[a, b] 52)).alloc (.cells #[.int .i64 l, .int .i64 (2 * i)] 52)).alloc (.cells #[.int .i64 l, .int .i64 (2 * i + 1)] 52)) := by
  have b1 := (((Below.refl w.heap.size w).alloc (Nat.le_refl _) (.cells #[a, b] 52)).alloc (by simp) (.cells #[.int .i64 l, .int .i64 (2 * i)] 52)).alloc (by simp; omega) (.cells #[.int .i64 l, .int .i64 (2 * i + 1)] 52)
  refine ⟨b1, h.below b1, ?_, ?_, ?_, ?_⟩ <;> simp [go_sem]
set_option maxHeartbeats 2000000 in
/-- prove.Of's node. -/
theorem of_node (k : Int) (ao : Option Addr) (hs : List ByteArray) (cap p5 p2 p6 : Nat) (hz : ∀ x ∈ hs, x.size ≤ 1048576) (l : Nat) : ∀ (i : Nat) (w : World), l ≤ 62 → (i + 1) * 2 ^ l ≤ hs.length → hs.length ≤ 4611686018427387904 → OfBox k ao hs cap p5 p2 p6 w →
    Calls Tryd.prog 41 #[.agg #[.int .i64 l, .int .i64 i], .pointer (some ⟨p5, 0, none⟩), .pointer (some ⟨p2, 0, none⟩), .pointer (some ⟨p6, 0, none⟩)] w fun e w' => e = .returned (.string (nodeAt k hs l i)) ∧ Below w.heap.size w w' := by
  induction l with
  | zero =>
    intro i w _ hi hl hB
    have B0 := (Below.refl w.heap.size w).alloc (Nat.le_refl _) (.cells #[.int .i64 0, .int .i64 i] 52)
    have hB1 := hB.below B0
    have hi' : i < hs.length := by simp at hi; omega
    obtain ⟨b, off, rfl, hc⟩ := str_at hB1.row hi'
    have hlist := hB1.list
    have BB := hid B0
    have HN := hid (show nodeAt k hs 0 i = hs.getD i ⟨#[]⟩ from rfl)
    generalize hs.getD i ⟨#[]⟩ = y at *
    clear hB B0 hB1 hi
    go_enter Tryd.func41, Tryd.ntmps41
    go_wp2_with fail
    go_ret
    exact ⟨by rw [HN.out]; rfl, BB.out⟩
  | succ l ih =>
    intro i w hl62 hi hl hB
    have e : 2 ^ (l + 1) = 2 * 2 ^ l := by rw [Nat.pow_succ, Nat.mul_comm]
    have hiL : (2 * i + 1 + 1) * 2 ^ l ≤ hs.length := by
      rw [e, ← Nat.mul_assoc] at hi
      rw [show 2 * i + 1 + 1 = (i + 1) * 2 by omega]; exact hi
    have hiR : (2 * i + 1) * 2 ^ l ≤ hs.length := Nat.le_trans (Nat.mul_le_mul_right _ (by omega)) hiL
    have hi1 : 2 * i + 1 + 1 ≤ hs.length := Nat.le_trans (Nat.le_mul_of_pos_right _ (Nat.pow_pos (by decide))) hiL
    have HL : Hid (∀ W, OfBox k ao hs cap p5 p2 p6 W → Calls Tryd.prog 41 #[.agg #[.int .i64 l, .int .i64 (2 * i)], .pointer (some ⟨p5, 0, none⟩), .pointer (some ⟨p2, 0, none⟩), .pointer (some ⟨p6, 0, none⟩)] W fun e w' => e = .returned (.string (nodeAt k hs l (2 * i))) ∧ Below W.heap.size W w') := by
      intro W h
      have := ih (2 * i) W (by omega) hiR hl h
      rwa [Int.natCast_mul] at this
    have HR : Hid (∀ W, OfBox k ao hs cap p5 p2 p6 W → Calls Tryd.prog 41 #[.agg #[.int .i64 l, .int .i64 (2 * i + 1)], .pointer (some ⟨p5, 0, none⟩), .pointer (some ⟨p2, 0, none⟩), .pointer (some ⟨p6, 0, none⟩)] W fun e w' => e = .returned (.string (nodeAt k hs l (2 * i + 1))) ∧ Below W.heap.size W w') := by
      intro W h
      have := ih (2 * i + 1) W (by omega) hiL hl h
      rwa [Int.natCast_add, Int.natCast_mul] at this
    have HN := hid (nodeAt_up k hs l i)
    have s1 := nodeAt_size k hs 1048576 (by omega) hz l (2 * i)
    have s2 := nodeAt_size k hs 1048576 (by omega) hz l (2 * i + 1)
    generalize nodeAt k hs l (2 * i) = y1 at *
    generalize nodeAt k hs l (2 * i + 1) = y2 at *
    have HT := hid (fun (W : World) (h : GlobP W) => tree_Node k y1 y2 (by omega) W h)
    have hiI : 2 * (i : Int) + 1 < 4611686018427387904 := by omega
    have hl6 : l ≤ 62 := by omega
    have hl1 : ((l : Int) + 1 == 0) = false := beq_eq_false_iff_ne.2 (by omega)
    have K0 := hid (TwoK.start hB l i (.int .i64 (l + 1)) (.int .i64 i))
    clear ih hiL hiR hi e hi1 s1 s2 hB hl hl62
    rw [Int.natCast_add]
    go_enter Tryd.func41, Tryd.ntmps41
    go_wp2_with fail
    have k0 := K0.out.box.wid
    have k1 := K0.out.box.fn
    have k2 := K0.out.c10
    have k3 := K0.out.c11
    have k4 := K0.out.c20
    have k5 := K0.out.c21
    have K0d := hid (TwoK.step K0.out (Below.refl _ _).drew)
    go_region_held3 (fun W => W.cell? ⟨p2, 0, none⟩ = some (.int .i64 k) ∧ W.cell? ⟨p6, 0, none⟩ = some (.func (.func 41) #[] #[.pointer (some ⟨p5, 0, none⟩), .pointer (some ⟨p2, 0, none⟩), .pointer (some ⟨p6, 0, none⟩)]) ∧ W.cell? ⟨w.heap.size + 1, 0, none⟩ = some (.int .i64 l) ∧ W.cell? ⟨w.heap.size + 1, 1, none⟩ = some (.int .i64 (2 * i)) ∧ W.cell? ⟨w.heap.size + 2, 0, none⟩ = some (.int .i64 l) ∧ W.cell? ⟨w.heap.size + 2, 1, none⟩ = some (.int .i64 (2 * i + 1))) (go_keep) (first
      | (go_at_call 41; (with_reducible refine Calls.mono (HL.out _ ?hb) ?_); (case hb => exact (Hid.out (show Hid (TwoK k ao hs cap p5 p2 p6 w l i _) by assumption)).box); rintro e w2 ⟨rfl, hb⟩; have K2 := hid (TwoK.step (Hid.out (show Hid (TwoK k ao hs cap p5 p2 p6 w l i _) by assumption)) hb); have k20 := K2.out.box.wid; have k21 := K2.out.box.fn; have k22 := K2.out.c10; have k23 := K2.out.c11; have k24 := K2.out.c20; have k25 := K2.out.c21; clear hb)
      | (go_at_call 41; (with_reducible refine Calls.mono (HR.out _ ?hb) ?_); (case hb => exact (Hid.out (show Hid (TwoK k ao hs cap p5 p2 p6 w l i _) by assumption)).box); rintro e w3 ⟨rfl, hb⟩; have K3 := hid (TwoK.step (Hid.out (show Hid (TwoK k ao hs cap p5 p2 p6 w l i _) by assumption)) hb); have k30 := K3.out.box.wid; have k31 := K3.out.box.fn; have k32 := K3.out.c10; have k33 := K3.out.c11; have k34 := K3.out.c20; have k35 := K3.out.c21; clear hb)
      | (go_at_call 42; (with_reducible refine Calls.mono (HT.out _ ?hb) ?_); (case hb => exact (Hid.out (show Hid (TwoK k ao hs cap p5 p2 p6 w l i _) by assumption)).box.glob); rintro e w4 ⟨rfl, hb⟩; have K4 := hid (TwoK.step (Hid.out (show Hid (TwoK k ao hs cap p5 p2 p6 w l i _) by assumption)) hb); have k40 := K4.out.box.wid; have k41 := K4.out.box.fn; have k42 := K4.out.c10; have k43 := K4.out.c11; have k44 := K4.out.c20; have k45 := K4.out.c21; clear hb))
    all_goals
      go_wp2_with fail
      go_ret
      exact ⟨by rw [HN.out]; rfl, K4.out.bel⟩
/-- What a reader over these leaves says of an address. -/
def lookN (k : Int) (hs : List ByteArray) (l i : Int) : ByteArray × Int :=
  if (spanN l i).2.2 ≠ 0 then (⟨#[]⟩, (spanN l i).2.2) else if (hs.length : Int) < (spanN l i).2.1 then (⟨#[]⟩, 80) else (nodeAt k hs l.toNat i.toNat, 0)
def saidV (r : ByteArray × Int) : Value := .tuple #[.string r.1, .int .i64 r.2]
theorem span_err (l i : Int) : ((spanN l i).2.2 = 50 ∧ validN l i = false) ∨ (∃ l' i' : Nat, l = l' ∧ i = i' ∧ l' ≤ 62 ∧ (i' + 1) * 2 ^ l' ≤ 4611686018427387904 ∧ spanN l i = (((i' * 2 ^ l' : Nat) : Int), (((i' + 1) * 2 ^ l' : Nat) : Int), 0)) := by
  cases hv : validN l i with
  | false => exact .inl ⟨by rw [span_no hv], rfl⟩
  | true =>
    obtain ⟨l', i', rfl, rfl, h1, h2⟩ := valid_nats hv
    exact .inr ⟨l', i', rfl, rfl, h1, h2, span_yes hv⟩
set_option maxHeartbeats 2000000 in
/-- prove.Of's reader. -/
theorem of_reader (k : Int) (ao : Option Addr) (hs : List ByteArray) (cap p5 p2 p6 : Nat) (hz : ∀ x ∈ hs, x.size ≤ 1048576) (hl : hs.length ≤ 4611686018427387904) (l i : Int) (w : World) (hB : OfBox k ao hs cap p5 p2 p6 w) :
    Calls Tryd.prog 43 #[.agg #[.int .i64 l, .int .i64 i], .pointer (some ⟨p5, 0, none⟩), .pointer (some ⟨p6, 0, none⟩)] w fun e w' => e = .returned (saidV (lookN k hs l i)) ∧ Below w.heap.size w w' := by
  have B0 := (Below.refl w.heap.size w).alloc (Nat.le_refl _) (.cells #[.int .i64 l, .int .i64 i] 52)
  have hB1 := hB.below B0
  have HB1 := hid hB1
  have BB := hid B0
  have HS := hid (tree_Span l i (w.alloc (.cells #[.int .i64 l, .int .i64 i] 52)))
  have q0 : (w.alloc (.cells #[.int .i64 l, .int .i64 i] 52)).cell? ⟨w.heap.size, 0, none⟩ = some (.int .i64 l) := by simp [go_sem]
  have q1 : (w.alloc (.cells #[.int .i64 l, .int .i64 i] 52)).cell? ⟨w.heap.size, 1, none⟩ = some (.int .i64 i) := by simp [go_sem]
  have Q0 := hid q0
  have Q1 := hid q1
  have QL := hid (show w.heap.size < (w.alloc (.cells #[.int .i64 l, .int .i64 i] 52)).heap.size by simp)
  clear q0 q1 hB1 B0 hB
  rcases span_err l i with ⟨h50, _⟩ | ⟨l, i, rfl, rfl, hl62, hm, hsp⟩
  · have HR : Hid (lookN k hs l i = (⟨#[]⟩, 50)) := by unfold Hid lookN; rw [h50]; rfl
    unfold spanV at HS
    rw [h50] at HS
    clear h50
    generalize (spanN l i).1 = a at HS
    generalize (spanN l i).2.1 = b at HS
    go_enter Tryd.func43, Tryd.ntmps43
    go_wp2_with fail
    refine HS.out.mono ?_
    rintro e w1 ⟨rfl, hb⟩
    have B1 := hid (Below.then' BB.out hb)
    clear hb
    go_wp2_with fail
    go_ret2
    exact ⟨by rw [HR.out]; rfl, B1.out⟩
  · rw [hsp] at HS
    unfold spanV at HS
    have hm2 : i * 2 ^ l ≤ (i + 1) * 2 ^ l := Nat.mul_le_mul_right _ (by omega)
    by_cases hlt : (hs.length : Int) < (((i + 1) * 2 ^ l : Nat) : Int)
    · have HR : Hid (lookN k hs l i = (⟨#[]⟩, 80)) := by unfold Hid lookN; rw [hsp]; simp only; rw [if_neg (by simp), if_pos hlt]
      clear hsp
      generalize i * 2 ^ l = a at *
      generalize (i + 1) * 2 ^ l = b at *
      go_enter Tryd.func43, Tryd.ntmps43
      go_wp2_with fail
      refine HS.out.mono ?_
      rintro e w1 ⟨rfl, hb⟩
      have B1 := hid (Below.then' BB.out hb)
      have HB2 := HB1.out.below hb
      have k0 := HB2.list
      clear hb HB2
      go_wp2_with fail
      go_ret2
      exact ⟨by rw [HR.out]; rfl, B1.out⟩
    · have HR : Hid (lookN k hs l i = (nodeAt k hs l i, 0)) := by unfold Hid lookN; rw [hsp]; simp only; rw [if_neg (by simp), if_neg hlt, Int.toNat_natCast, Int.toNat_natCast]
      have HN := hid (fun (W : World) (h : OfBox k ao hs cap p5 p2 p6 W) => of_node k ao hs cap p5 p2 p6 hz l i W hl62 (by omega) hl h)
      clear hsp
      generalize i * 2 ^ l = a at *
      generalize (i + 1) * 2 ^ l = b at *
      generalize nodeAt k hs l i = y at *
      go_enter Tryd.func43, Tryd.ntmps43
      go_wp2_with fail
      refine HS.out.mono ?_
      rintro e w1 ⟨rfl, hb⟩
      have B1 := hid (Below.then' BB.out hb)
      have HB2 := hid (HB1.out.below hb)
      have k0 := HB2.out.list
      have k1 := HB2.out.fn
      have r0 := (hb.cell QL.out).trans Q0.out
      have r1 := (hb.cell QL.out).trans Q1.out
      clear hb
      go_wp2_with fail
      refine (HN.out _ HB2.out).mono ?_
      rintro e w2 ⟨rfl, hb⟩
      have B2 := hid (Below.then' B1.out hb)
      clear hb
      go_wp2_with fail
      go_ret2
      exact ⟨by rw [HR.out]; rfl, B2.out⟩
end Go.Proofs.YtocjjiacmedjmaaDoor
