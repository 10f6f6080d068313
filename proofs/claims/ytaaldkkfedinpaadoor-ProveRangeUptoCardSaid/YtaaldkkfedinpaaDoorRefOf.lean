/- Walks of the reference's reader over a list of hashes. -/
import Derived.Test.YtaaldkkfedinpaaDoorSpan
import Derived.Test.YtaaldkkfedinpaaDoorArgs
import Derived.Deep.RegionHeld3
set_option maxRecDepth 100000
namespace Go.Proofs.YtaaldkkfedinpaaDoor
open Go Go.RowKit

/-- The node of a level over these leaves. -/
def nodeAt (k : Int) (hs : List ByteArray) : Nat → Nat → ByteArray
  | 0, i => hs.getD i ⟨#[]⟩
  | l + 1, i => nodeS k (nodeAt k hs l (2 * i)) (nodeAt k hs l (2 * i + 1))
theorem nodeAt_up (k : Int) (hs : List ByteArray) (l i : Nat) : nodeAt k hs (l + 1) i = nodeS k (nodeAt k hs l (2 * i)) (nodeAt k hs l (2 * i + 1)) := rfl
theorem nodeAt_size (k : Int) (hs : List ByteArray) (S : Nat) (hS : 32 ≤ S) (hz : ∀ x ∈ hs, x.size ≤ S) (l i : Nat) : (nodeAt k hs l i).size ≤ S := by
  cases l with
  | zero =>
    show (hs.getD i ⟨#[]⟩).size ≤ S
    rw [List.getD_eq_getElem?_getD]
    by_cases h : i < hs.length
    · rw [List.getElem?_eq_getElem h]; exact hz _ (List.getElem_mem h)
    · rw [List.getElem?_eq_none (by omega)]; exact Nat.zero_le _
  | succ l =>
    rw [nodeAt_up]
    have := nodeS_size k (nodeAt k hs l (2 * i)) (nodeAt k hs l (2 * i + 1))
    have h2 := wid_le k
    omega
theorem str_at {w : World} {ao : Option Addr} {xs : List ByteArray} (h : RowAt w ao (strs' xs)) {k : Nat} (hk : k < xs.length) :
    ∃ b off, ao = some ⟨b, off, none⟩ ∧ w.cell? ⟨b, off + k, none⟩ = some (.string (xs.getD k ⟨#[]⟩)) := by
  rcases h with h | ⟨b, off, rfl, hc⟩
  · have := congrArg List.length h
    rw [strs'_length] at this
    simp only [List.length_nil] at this
    omega
  refine ⟨b, off, rfl, ?_⟩
  have := hc k (by rw [strs'_length]; exact hk)
  rw [this]
  simp [strs', List.getD_eq_getElem?_getD, List.getElem?_eq_getElem hk]
/-- What a reader over these leaves says of an address. -/
def lookN (k : Int) (hs : List ByteArray) (l i : Int) : ByteArray × Int :=
  if (spanN l i).2.2 ≠ 0 then (⟨#[]⟩, (spanN l i).2.2) else if (hs.length : Int) < (spanN l i).2.1 then (⟨#[]⟩, 80) else (nodeAt k hs l.toNat i.toNat, 0)
def saidV (r : ByteArray × Int) : Value := .tuple #[.string r.1, .int .i64 r.2]
theorem span_err (l i : Int) : ((spanN l i).2.2 = 50 ∧ validN l i = false) ∨ (∃ l' i' : Nat, l = l' ∧ i = i' ∧ l' ≤ 62 ∧ (i' + 1) * 2 ^ l' ≤ 4611686018427387904 ∧ spanN l i = (((i' * 2 ^ l' : Nat) : Int), (((i' + 1) * 2 ^ l' : Nat) : Int), 0)) := by
  cases hv : validN l i with
  | false => exact .inl ⟨by rw [span_no hv], rfl⟩
  | true =>
    obtain ⟨l', i', rfl, rfl, h1, h2⟩ := valid_nats hv
    exact .inr ⟨l', i', rfl, rfl, h1, h2, span_yes hv⟩
end Go.Proofs.YtaaldkkfedinpaaDoor
set_option maxRecDepth 100000
namespace Go.Proofs.YtaaldkkfedinpaaDoor
open Go Go.RowKit

/-- A source over these leaves. -/
structure SrcAt (k : Int) (ao : Option Addr) (hs : List ByteArray) (cap p : Nat) (w : World) : Prop where
  wid : w.cell? ⟨p, 0, none⟩ = some (.int .i64 k)
  size : w.cell? ⟨p, 1, none⟩ = some (.int .i64 hs.length)
  list : w.cell? ⟨p, 2, none⟩ = some (.slice ao hs.length cap)
  made : w.cell? ⟨p, 3, none⟩ = some (.bool false)
  row : RowAt w ao (strs' hs)
  glob : GlobR w
theorem SrcAt.below {k : Int} {ao : Option Addr} {hs : List ByteArray} {cap p : Nat} {w w' : World} (h : SrcAt k ao hs cap p w) (hb : Below w.heap.size w w') : SrcAt k ao hs cap p w' := by
  have hk := fun {p : Addr} {v : Value} (hc : w.cell? p = some v) => (hb.cell (World.block_lt_of_cell? _ _ hc)).trans hc
  exact ⟨hk h.wid, hk h.size, hk h.list, hk h.made, h.row.below hb, h.glob.below hb⟩
set_option maxHeartbeats 2000000 in
theorem src_rooted (k : Int) (ao : Option Addr) (hs : List ByteArray) (cap p : Nat) (hz : ∀ x ∈ hs, x.size ≤ 1048576) (l : Nat) : ∀ (i a b : Nat) (w : World), a = i * 2 ^ l → b = (i + 1) * 2 ^ l → b ≤ hs.length → hs.length ≤ 4611686018427387904 → SrcAt k ao hs cap p w →
    Calls Tryd.prog 121 #[.pointer (some ⟨p, 0, none⟩), .int .i64 a, .int .i64 b] w fun e w' => e = .returned (.string (nodeAt k hs l i)) ∧ Below w.heap.size w w' := by
  induction l with
  | zero =>
    intro i a b w ha hb hbl hl hB
    obtain rfl : a = i := by simpa using ha
    obtain rfl : b = a + 1 := by simpa using hb
    obtain ⟨c, off, rfl, hc⟩ := str_at hB.row (show a < hs.length by omega)
    have hlist := hB.list
    have HN := hid (show nodeAt k hs 0 a = hs.getD a ⟨#[]⟩ from rfl)
    have hd : ((a + 1 : Nat) : Int) - (a : Int) = 1 := by omega
    generalize hs.getD a ⟨#[]⟩ = y at *
    clear hB ha hb
    go_enter Tryd.func121, Tryd.ntmps121
    go_wp2_with fail
    go_ret
    exact ⟨by rw [HN.out]; rfl, Below.refl _ _⟩
  | succ l ih =>
    intro i a b w ha hb hbl hl hB
    have e : 2 ^ (l + 1) = 2 * 2 ^ l := by rw [Nat.pow_succ, Nat.mul_comm]
    have hp : 0 < 2 ^ l := Nat.pow_pos (by decide)
    have ha' : a = 2 * i * 2 ^ l := by rw [ha, e, ← Nat.mul_assoc, Nat.mul_comm i 2]
    have hb' : b = (2 * i + 1 + 1) * 2 ^ l := by rw [hb, e, ← Nat.mul_assoc, show (i + 1) * 2 = 2 * i + 1 + 1 by omega]
    obtain ⟨m, hm⟩ : ∃ m, m = (2 * i + 1) * 2 ^ l := ⟨_, rfl⟩
    have h1 : m = a + 2 ^ l := by rw [hm, ha', Nat.add_mul, Nat.one_mul]
    have h2 : b = m + 2 ^ l := by rw [hm, hb', Nat.add_mul (2 * i + 1) 1, Nat.one_mul]
    have HL := hid (fun (W : World) (h : SrcAt k ao hs cap p W) => ih (2 * i) a m W ha' hm (by omega) hl h)
    have HR := hid (fun (W : World) (h : SrcAt k ao hs cap p W) => ih (2 * i + 1) m b W hm hb' (by omega) hl h)
    have HN := hid (nodeAt_up k hs l i)
    have s1 := nodeAt_size k hs 1048576 (by omega) hz l (2 * i)
    have s2 := nodeAt_size k hs 1048576 (by omega) hz l (2 * i + 1)
    generalize nodeAt k hs l (2 * i) = y1 at *
    generalize nodeAt k hs l (2 * i + 1) = y2 at *
    have HT := hid (fun (W : World) (h : GlobR W) => ref_Node k y1 y2 (by omega) W h)
    have hq : ((a : Int) + (b : Int)).tdiv 2 = (m : Int) := by rw [Int.tdiv_eq_ediv_of_nonneg (by omega)]; omega
    have hd : ((b : Int) - (a : Int) == 1) = false := beq_eq_false_iff_ne.2 (by
      have : 2 ≤ b - a := by omega
      omega)
    have hab : a < b := by omega
    have hbd : b ≤ 4611686018427387904 := by omega
    have habI : (a : Int) + (b : Int) ≤ 9223372036854775807 := by omega
    have hmd : m ≤ 4611686018427387904 := by omega
    have HB := hid hB
    clear ih ha hb e hp ha' hb' hm h1 h2 s1 s2 hB
    go_enter Tryd.func121, Tryd.ntmps121
    go_wp2_with fail
    refine (HL.out _ HB.out).mono ?_
    rintro e w1 ⟨rfl, hb⟩
    have HB1 := hid (HB.out.below hb)
    have B1 := hid hb
    clear hb
    go_wp2_with fail
    refine (HR.out _ HB1.out).mono ?_
    rintro e w2 ⟨rfl, hb⟩
    have HB2 := hid (HB1.out.below hb)
    have B2 := hid (Below.then' B1.out hb)
    have k0 := HB2.out.wid
    clear hb
    go_wp2_with fail
    refine (HT.out _ HB2.out.glob).mono ?_
    rintro e w3 ⟨rfl, hb⟩
    have B3 := hid (Below.then' B2.out hb)
    clear hb
    go_wp2_with fail
    go_ret
    exact ⟨by rw [HN.out]; rfl, B3.out⟩
set_option maxHeartbeats 2000000 in
theorem src_look (k : Int) (ao : Option Addr) (hs : List ByteArray) (cap p : Nat) (hz : ∀ x ∈ hs, x.size ≤ 1048576) (hl : hs.length ≤ 4611686018427387904) (l i : Int) (w : World) (hB : SrcAt k ao hs cap p w) :
    Calls Tryd.prog 92 #[.pointer (some ⟨p, 0, none⟩), .agg #[.int .i64 l, .int .i64 i]] w fun e w' => e = .returned (saidV (lookN k hs l i)) ∧ Below w.heap.size w w' := by
  have B0 := (Below.refl w.heap.size w).alloc (Nat.le_refl _) (.cells #[.int .i64 l, .int .i64 i] 84)
  have hB1 := hB.below B0
  have HB1 := hid hB1
  have BB := hid B0
  have HS := hid (ref5_Span l i (w.alloc (.cells #[.int .i64 l, .int .i64 i] 84)))
  clear hB1 B0 hB
  rcases span_err l i with ⟨h50, _⟩ | ⟨l, i, rfl, rfl, hl62, hm, hsp⟩
  · have HR : Hid (lookN k hs l i = (⟨#[]⟩, 50)) := by unfold Hid lookN; rw [h50]; rfl
    unfold spanV at HS
    rw [h50] at HS
    clear h50
    generalize (spanN l i).1 = a at HS
    generalize (spanN l i).2.1 = b at HS
    go_enter Tryd.func92, Tryd.ntmps92
    go_wp2_with fail
    refine HS.out.mono ?_
    rintro e w1 ⟨rfl, hb⟩
    have B1 := hid (Below.then' BB.out hb)
    clear hb
    go_wp2_with fail
    go_ret2
    exact ⟨by rw [HR.out]; rfl, B1.out⟩
  · rw [hsp] at HS
    unfold spanV at HS
    have hm2 : i * 2 ^ l ≤ (i + 1) * 2 ^ l := Nat.mul_le_mul_right _ (by omega)
    by_cases hlt : (hs.length : Int) < (((i + 1) * 2 ^ l : Nat) : Int)
    · have HR : Hid (lookN k hs l i = (⟨#[]⟩, 80)) := by unfold Hid lookN; rw [hsp]; simp only; rw [if_neg (by simp), if_pos hlt]
      clear hsp
      generalize i * 2 ^ l = a at *
      generalize (i + 1) * 2 ^ l = b at *
      go_enter Tryd.func92, Tryd.ntmps92
      go_wp2_with fail
      refine HS.out.mono ?_
      rintro e w1 ⟨rfl, hb⟩
      have B1 := hid (Below.then' BB.out hb)
      have HB2 := HB1.out.below hb
      have k0 := HB2.size
      clear hb HB2
      go_wp2_with fail
      go_ret2
      exact ⟨by rw [HR.out]; rfl, B1.out⟩
    · have HR : Hid (lookN k hs l i = (nodeAt k hs l i, 0)) := by unfold Hid lookN; rw [hsp]; simp only; rw [if_neg (by simp), if_neg hlt, Int.toNat_natCast, Int.toNat_natCast]
      have HN := hid (fun (W : World) (h : SrcAt k ao hs cap p W) => src_rooted k ao hs cap p hz l i (i * 2 ^ l) ((i + 1) * 2 ^ l) W rfl rfl (by omega) hl h)
      clear hsp
      generalize i * 2 ^ l = a at *
      generalize (i + 1) * 2 ^ l = b at *
      generalize nodeAt k hs l i = y at *
      go_enter Tryd.func92, Tryd.ntmps92
      go_wp2_with fail
      refine HS.out.mono ?_
      rintro e w1 ⟨rfl, hb⟩
      have B1 := hid (Below.then' BB.out hb)
      have HB2 := hid (HB1.out.below hb)
      have k0 := HB2.out.size
      have k1 := HB2.out.made
      clear hb
      go_wp2_with fail
      refine (HN.out _ HB2.out).mono ?_
      rintro e w2 ⟨rfl, hb⟩
      have B2 := hid (Below.then' B1.out hb)
      clear hb
      go_wp2_with fail
      go_ret2
      exact ⟨by rw [HR.out]; rfl, B2.out⟩
end Go.Proofs.YtaaldkkfedinpaaDoor
