/- What is looked at first, and the root, on both sides. -/
import Derived.Test.YtaaldkkfedinpaaDoorHashR
set_option maxRecDepth 100000
namespace Go.Proofs.YtaaldkkfedinpaaDoor
open Go Go.RowKit

def checkedN (size n : Int) : Int := if size < 0 ∨ 4611686018427387904 < size then 10 else if n < 0 ∨ size < n then 80 else 0
theorem prove_checked (s : Src) (pt : Nat) (n : Int) (w : World) : Calls Tryd.prog 39 #[readerV s pt, .int .i64 n] w fun e w' => e = .returned (.int .i64 (checkedN s.size n)) ∧ Below w.heap.size w w' := by
  have HB := hid ((Below.refl w.heap.size w).alloc (Nat.le_refl _) (.cells #[.int .i64 s.k, .int .i64 s.size, .func (.func 41) #[.pointer (some ⟨pt, 0, none⟩)] #[]] 45))
  have HD : Hid (checkedN s.size n = if s.size < 0 ∨ 4611686018427387904 < s.size then 10 else if n < 0 ∨ s.size < n then 80 else 0) := rfl
  have hfn := fn_no'
  unfold readerV
  generalize s.size = z at *
  by_cases h1 : z < 0
  · have HR : Hid (checkedN z n = 10) := by unfold Hid; rw [HD.out, if_pos (.inl h1)]
    clear HD
    go_enter Tryd.func39, Tryd.ntmps39
    go_wp2_with fail
    go_ret
    exact ⟨by rw [HR.out]; rfl, HB.out⟩
  · by_cases h2 : 4611686018427387904 < z
    · have HR : Hid (checkedN z n = 10) := by unfold Hid; rw [HD.out, if_pos (.inr h2)]
      clear HD
      go_enter Tryd.func39, Tryd.ntmps39
      go_wp2_with fail
      go_ret
      exact ⟨by rw [HR.out]; rfl, HB.out⟩
    · by_cases h3 : n < 0
      · have HR : Hid (checkedN z n = 80) := by unfold Hid; rw [HD.out, if_neg (by omega), if_pos (.inl h3)]
        clear HD
        go_enter Tryd.func39, Tryd.ntmps39
        go_wp2_with fail
        go_ret
        exact ⟨by rw [HR.out]; rfl, HB.out⟩
      · by_cases h4 : z < n
        · have HR : Hid (checkedN z n = 80) := by unfold Hid; rw [HD.out, if_neg (by omega), if_pos (.inr h4)]
          clear HD
          go_enter Tryd.func39, Tryd.ntmps39
          go_wp2_with fail
          go_ret
          exact ⟨by rw [HR.out]; rfl, HB.out⟩
        · have HR : Hid (checkedN z n = 0) := by unfold Hid; rw [HD.out, if_neg (by omega), if_neg (by omega)]
          clear HD
          go_enter Tryd.func39, Tryd.ntmps39
          go_wp2_with fail
          go_ret
          exact ⟨by rw [HR.out]; rfl, HB.out⟩
theorem src_goes (p : Nat) (z n : Int) (w : World) (c1 : w.cell? ⟨p, 1, none⟩ = some (.int .i64 z)) : Calls Tryd.prog 42 #[.pointer (some ⟨p, 0, none⟩), .int .i64 n] w fun e w' => e = .returned (.int .i64 (checkedN z n)) ∧ w = w' := by
  have HD : Hid (checkedN z n = if z < 0 ∨ 4611686018427387904 < z then 10 else if n < 0 ∨ z < n then 80 else 0) := rfl
  by_cases h1 : z < 0
  · have HR : Hid (checkedN z n = 10) := by unfold Hid; rw [HD.out, if_pos (.inl h1)]
    clear HD
    go_enter Tryd.func42, Tryd.ntmps42
    go_wp2_with fail
    go_ret
    exact ⟨by rw [HR.out]; rfl, rfl⟩
  · by_cases h2 : 4611686018427387904 < z
    · have HR : Hid (checkedN z n = 10) := by unfold Hid; rw [HD.out, if_pos (.inr h2)]
      clear HD
      go_enter Tryd.func42, Tryd.ntmps42
      go_wp2_with fail
      go_ret
      exact ⟨by rw [HR.out]; rfl, rfl⟩
    · by_cases h3 : n < 0
      · have HR : Hid (checkedN z n = 80) := by unfold Hid; rw [HD.out, if_neg (by omega), if_pos (.inl h3)]
        clear HD
        go_enter Tryd.func42, Tryd.ntmps42
        go_wp2_with fail
        go_ret
        exact ⟨by rw [HR.out]; rfl, rfl⟩
      · by_cases h4 : z < n
        · have HR : Hid (checkedN z n = 80) := by unfold Hid; rw [HD.out, if_neg (by omega), if_pos (.inr h4)]
          clear HD
          go_enter Tryd.func42, Tryd.ntmps42
          go_wp2_with fail
          go_ret
          exact ⟨by rw [HR.out]; rfl, rfl⟩
        · have HR : Hid (checkedN z n = 0) := by unfold Hid; rw [HD.out, if_neg (by omega), if_neg (by omega)]
          clear HD
          go_enter Tryd.func42, Tryd.ntmps42
          go_wp2_with fail
          go_ret
          exact ⟨by rw [HR.out]; rfl, rfl⟩
theorem checked_ok' {z n : Int} (h : checkedN z n = 0) : 0 ≤ n ∧ n ≤ 4611686018427387904 := by
  unfold checkedN at h
  split at h
  · cases h
  · split at h
    · cases h
    · omega
/-- The root of the first n leaves. -/
def rootG (s : Src) (n : Int) (asked : List (Int × Int)) : ByteArray × Int × List (Int × Int) := if checkedN s.size n ≠ 0 then (⟨#[]⟩, checkedN s.size n, asked) else hashG s 0 n.toNat asked
theorem rootG_len (s : Src) (n : Int) (asked : List (Int × Int)) : (rootG s n asked).2.2.length ≤ asked.length + 126 := by
  unfold rootG
  split
  · simp
  · rename_i h
    have h : checkedN s.size n = 0 := by simpa using h
    have := checked_ok' h
    exact hashG_len s 0 n.toNat (by omega) asked
theorem checked_ok {z n : Int} (h : checkedN z n = 0) : 0 ≤ n ∧ n ≤ 4611686018427387904 := by
  unfold checkedN at h
  split at h
  · cases h
  · split at h
    · cases h
    · omega
set_option maxHeartbeats 1000000 in
theorem prove_Root (B p pt : Nat) (s : Src) (lv v : Value) (asked : List (Int × Int)) (n : Int) (w w0 : World) (hz : ∀ x ∈ s.leaves, x.size ≤ 1048576) (hl : s.leaves.length ≤ 1048576) (ha : asked.length ≤ 1048570000)
    (hM : SrcM B p s lv v asked w) (hg : GlobR w0) (hgp : GlobP w0) (ht : TabP w0) (hb : Below w0.heap.size w0 w) (hB : w0.heap.size ≤ B) (hpt : w.cell? ⟨pt, 0, none⟩ = some (.pointer (some ⟨p, 0, none⟩))) (hpp : pt ≠ p) (hpv : v.ownBlock ≠ some pt) :
    Calls Tryd.prog 16 #[readerV s pt, .int .i64 n] w fun e w' => ∃ v', e = .returned (saidV ((rootG s n asked).1, (rootG s n asked).2.1)) ∧ SrcM B p s lv v' (rootG s n asked).2.2 w' ∧ SStep p v w v' w' := by
  obtain ⟨W, hW⟩ : ∃ W, w.alloc (.cells #[.int .i64 s.k, .int .i64 s.size, .func (.func 41) #[.pointer (some ⟨pt, 0, none⟩)] #[]] 45) = W := ⟨_, rfl⟩
  have bW : Below w.heap.size w W := by rw [← hW]; exact (Below.refl w.heap.size w).alloc (Nat.le_refl _) _
  have kW : RdK s pt p w.heap.size W := by rw [← hW]; exact RdK.new s pt p w hpt
  have HC := hid (prove_checked s pt n)
  have HD : Hid (rootG s n asked = if checkedN s.size n ≠ 0 then (⟨#[]⟩, checkedN s.size n, asked) else hashG s 0 n.toNat asked) := rfl
  have HOK := hid (fun (h : checkedN s.size n = 0) => checked_ok h)
  have HH : Hid (∀ W', Below w.heap.size w W' → 0 ≤ n → n ≤ 4611686018427387904 → Calls Tryd.prog 40 #[readerV s pt, .agg #[.int .i64 0, .int .i64 n]] W' fun e w' => ∃ v', e = .returned (saidV ((hashG s 0 n.toNat asked).1, (hashG s 0 n.toNat asked).2.1)) ∧ SrcM B p s lv v' (hashG s 0 n.toNat asked).2.2 w' ∧ SStep p v w v' w') := by
    intro W' h1 h2 h3
    have := prove_hash B p pt s lv v asked 0 n.toNat (Nat.zero_le _) (by omega) W' w0 hz hl ha (hM.below h1) hg hgp ht (Below.then' hb h1) hB ((h1.cell (World.block_lt_of_cell? _ _ hpt)).trans hpt) hpp hpv
    rw [show ((n.toNat : Nat) : Int) = n by omega] at this
    refine this.mono ?_
    rintro e w' ⟨v', h4, h5, h6, _⟩
    exact ⟨v', h4, h5, (SStep.of h1).trans h6⟩
  have BW := hid bW
  have KW := hid kW
  have HM := hid hM
  have hfn := fn_no'
  generalize rootG s n asked = r at *
  generalize checkedN s.size n = ch at *
  generalize hashG s 0 n.toNat asked = hh at *
  have HW := hid hW
  obtain ⟨r0, r1, r2⟩ := And.intro kW.r0 (And.intro kW.r1 kW.r2)
  clear hW bW kW hM hg hgp ht hb hpt hz
  go_enter Tryd.func16, Tryd.ntmps16
  go_upto_region 1 with fail
  rw [HW.out]
  clear HW
  go_wp2_with fail
  refine (HC.out _).mono ?_
  rintro e w1 ⟨rfl, d1⟩
  have B1 := hid (Below.then' BW.out d1)
  have K1 := hid (KW.out.below d1)
  obtain ⟨q0, q1, q2⟩ := And.intro K1.out.r0 (And.intro K1.out.r1 K1.out.r2)
  clear d1 r0 r1 r2
  by_cases hch : ch = 0
  · obtain ⟨hn0, hn62⟩ := HOK.out hch
    have HR : Hid (r = hh) := by unfold Hid; rw [HD.out, if_neg (by simp [hch])]
    subst hch
    have HH2 := hid (HH.out w1 B1.out hn0 hn62)
    clear HD HOK HH hn0 hn62
    unfold saidV at HH2
    go_wp2_with fail
    refine HH2.out.mono ?_
    rintro e w2 ⟨v', rfl, hM2, hS2⟩
    have M2 := hid hM2
    have S2 := hid hS2
    clear hM2 hS2
    go_wp2_with fail
    go_ret2
    exact ⟨v', by rw [HR.out]; rfl, by rw [HR.out]; exact M2.out, S2.out⟩
  · have hch1 : (ch == 0) = false := beq_eq_false_iff_ne.2 hch
    have hch2 : (ch != 0) = true := bne_iff_ne.2 hch
    have HR : Hid (r = (⟨#[]⟩, ch, asked)) := by unfold Hid; rw [HD.out, if_pos hch]
    clear HD HOK HH hch
    go_wp2_with fail
    go_ret2
    exact ⟨v, by rw [HR.out]; rfl, by rw [HR.out]; exact HM.out.below B1.out, SStep.of B1.out⟩
set_option maxHeartbeats 1000000 in
theorem ref8_Root (B p : Nat) (s : Src) (lv v : Value) (asked : List (Int × Int)) (n : Int) (w w0 : World) (hz : ∀ x ∈ s.leaves, x.size ≤ 1048576) (hl : s.leaves.length ≤ 1048576) (ha : asked.length ≤ 1048570000)
    (hM : SrcM B p s lv v asked w) (hg : GlobR w0) (ht : TabP w0) (hb : Below w0.heap.size w0 w) (hB : w0.heap.size ≤ B) :
    Calls Tryd.prog 18 #[.pointer (some ⟨p, 0, none⟩), .int .i64 n] w fun e w' => ∃ v', e = .returned (saidV ((rootG s n asked).1, (rootG s n asked).2.1)) ∧ SrcM B p s lv v' (rootG s n asked).2.2 w' ∧ SStep p v w v' w' := by
  have HC := hid (src_goes p s.size n w hM.c1)
  have HD : Hid (rootG s n asked = if checkedN s.size n ≠ 0 then (⟨#[]⟩, checkedN s.size n, asked) else hashG s 0 n.toNat asked) := rfl
  have HOK := hid (fun (h : checkedN s.size n = 0) => checked_ok h)
  have HH : Hid (0 ≤ n → n ≤ 4611686018427387904 → Calls Tryd.prog 43 #[.pointer (some ⟨p, 0, none⟩), .int .i64 0, .int .i64 n] w fun e w' => ∃ v', e = .returned (saidV ((hashG s 0 n.toNat asked).1, (hashG s 0 n.toNat asked).2.1)) ∧ SrcM B p s lv v' (hashG s 0 n.toNat asked).2.2 w' ∧ SStep p v w v' w') := by
    intro h2 h3
    have := src_hash B p s lv v asked 0 n.toNat (Nat.zero_le _) (by omega) w w0 hz hl ha hM hg ht hb hB
    rw [show ((n.toNat : Nat) : Int) = n by omega] at this
    exact this
  have HM := hid hM
  generalize rootG s n asked = r at *
  generalize checkedN s.size n = ch at *
  generalize hashG s 0 n.toNat asked = hh at *
  clear hM hg ht hb hz
  go_enter Tryd.func18, Tryd.ntmps18
  go_wp2_with fail
  refine HC.out.mono ?_
  rintro e w1 ⟨rfl, rfl⟩
  by_cases hch : ch = 0
  · obtain ⟨hn0, hn62⟩ := HOK.out hch
    have HR : Hid (r = hh) := by unfold Hid; rw [HD.out, if_neg (by simp [hch])]
    subst hch
    have HH2 := hid (HH.out hn0 hn62)
    clear HD HOK HH hn0 hn62
    unfold saidV at HH2
    go_wp2_with fail
    refine HH2.out.mono ?_
    rintro e w2 ⟨v', rfl, hM2, hS2⟩
    have M2 := hid hM2
    have S2 := hid hS2
    clear hM2 hS2
    go_wp2_with fail
    go_ret2
    exact ⟨v', by rw [HR.out]; rfl, by rw [HR.out]; exact M2.out, S2.out⟩
  · have hch1 : (ch == 0) = false := beq_eq_false_iff_ne.2 hch
    have hch2 : (ch != 0) = true := bne_iff_ne.2 hch
    have HR : Hid (r = (⟨#[]⟩, ch, asked)) := by unfold Hid; rw [HD.out, if_pos hch]
    clear HD HOK HH hch
    go_wp2_with fail
    go_ret2
    exact ⟨v, by rw [HR.out]; rfl, by rw [HR.out]; exact HM.out, SStep.refl _ _ _⟩
end Go.Proofs.YtaaldkkfedinpaaDoor
