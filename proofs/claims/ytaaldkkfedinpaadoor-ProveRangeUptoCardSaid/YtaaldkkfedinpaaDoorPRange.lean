/- A range's proof, on both sides. -/
import Derived.Test.YtaaldkkfedinpaaDoorWalkP
import Derived.Test.YtaaldkkfedinpaaDoorOutsideP
set_option maxRecDepth 100000
namespace Go.Proofs.YtaaldkkfedinpaaDoor
open Go Go.RowKit

def rangeP (lo hi n : Int) : List (Nat × Nat) := outP (wtR lo.toNat hi.toNat) (itR lo.toNat hi.toNat) 63 0 n.toNat
/-- A range's proof: the hashes, the refusal, what was asked. -/
def rangeG (s : Src) (lo hi n : Int) (asked : List (Int × Int)) : List ByteArray × Int × List (Int × Int) :=
  if checkedN s.size n ≠ 0 then ([], checkedN s.size n, asked) else if lo < 0 ∨ hi ≤ lo ∨ n < hi then ([], 81, asked) else toldG s (rangeP lo hi n) asked []
theorem ceil62 (n : Nat) (h : n ≤ 4611686018427387904) : ceilN n < 63 := by
  have := ceil_le n 62 (by omega)
  omega
theorem rangeP_len (lo hi n : Int) (h : 0 < n) : (rangeP lo hi n).length ≤ 126 := outR_len _ _ 63 0 n.toNat (by omega)
theorem rangeP_in (lo hi n : Int) (h : 0 < n) (hn : n ≤ 4611686018427387904) : ∀ q ∈ rangeP lo hi n, q.1 ≤ q.2 ∧ q.2 ≤ 4611686018427387904 := by
  intro q hq
  have := outP_in _ _ (range_split lo.toNat hi.toNat) 63 0 n.toNat (by omega) q hq
  omega
theorem rangeG_len (s : Src) (lo hi n : Int) (asked : List (Int × Int)) : (rangeG s lo hi n asked).2.2.length ≤ asked.length + 15876 := by
  unfold rangeG
  split
  · simp
  · rename_i h
    have h : checkedN s.size n = 0 := by simpa using h
    have hn := checked_ok' h
    split
    · simp
    · have h1 := rangeP_len lo hi n (by omega)
      have h2 := toldG_len s (rangeP lo hi n) (fun q hq => (rangeP_in lo hi n (by omega) hn.2 q hq).2) asked []
      omega
set_option maxHeartbeats 2000000 in
theorem ref8_Range (B p : Nat) (s : Src) (lv v : Value) (asked : List (Int × Int)) (lo hi n : Int) (w w0 : World) (hz : ∀ x ∈ s.leaves, x.size ≤ 1048576) (hl : s.leaves.length ≤ 1048576) (ha : asked.length ≤ 1048000000)
    (hM : SrcM B p s lv v asked w) (hg : GlobR w0) (ht : TabP w0) (hb : Below w0.heap.size w0 w) (hB : w0.heap.size ≤ B) :
    Calls Tryd.prog 27 #[.pointer (some ⟨p, 0, none⟩), .int .i64 lo, .int .i64 hi, .int .i64 n] w fun e w' => ∃ v' lr, e = .returned (.tuple #[lr, .int .i64 (rangeG s lo hi n asked).2.1]) ∧ w'.ownsRow w.heap.size 9 1 lr (rangeG s lo hi n asked).1.length (strs' (rangeG s lo hi n asked).1) ∧ SrcM B p s lv v' (rangeG s lo hi n asked).2.2 w' ∧ SStep p v w v' w' := by
  have HC := hid (src_goes p s.size n w hM.c1)
  have HD : Hid (rangeG s lo hi n asked = if checkedN s.size n ≠ 0 then ([], checkedN s.size n, asked) else if lo < 0 ∨ hi ≤ lo ∨ n < hi then ([], 81, asked) else toldG s (rangeP lo hi n) asked []) := rfl
  have HOK := hid (fun (h : checkedN s.size n = 0) => checked_ok h)
  have HM := hid hM
  have HOUT : Hid (0 ≤ lo → lo < hi → hi ≤ n → n ≤ 4611686018427387904 → Calls Tryd.prog 52 #[.int .i64 0, .int .i64 n, .int .i64 lo, .int .i64 hi] w fun e w' => ∃ pv, e = .returned pv ∧ w'.ownsRow w.heap.size 92 2 pv (rangeP lo hi n).length (partsV (rangeP lo hi n)) ∧ Below w.heap.size w w') := by
    intro h1 h2 h3 h4
    have := ref8_outside lo.toNat hi.toNat (by omega) (by omega) 63 0 n.toNat (by omega) (ceil62 _ (by omega)) (by omega) (Nat.le_refl _) w
    rw [show ((n.toNat : Nat) : Int) = n by omega, show ((lo.toNat : Nat) : Int) = lo by omega, show ((hi.toNat : Nat) : Int) = hi by omega] at this
    exact this
  have HTO : Hid (0 < n → n ≤ 4611686018427387904 → ∀ pv W', Below w.heap.size w W' → W'.ownsRow w.heap.size 92 2 pv (rangeP lo hi n).length (partsV (rangeP lo hi n)) → Calls Tryd.prog 48 #[.pointer (some ⟨p, 0, none⟩), pv] W' fun e w' => ∃ v' lr, e = .returned (.tuple #[lr, .int .i64 (toldG s (rangeP lo hi n) asked []).2.1]) ∧ w'.ownsRow w.heap.size 9 1 lr (toldG s (rangeP lo hi n) asked []).1.length (strs' (toldG s (rangeP lo hi n) asked []).1) ∧ SrcM B p s lv v' (toldG s (rangeP lo hi n) asked []).2.2 w' ∧ SStep p v w v' w') := by
    intro h1 h2 pv W' hb' hr
    have hlen := rangeP_len lo hi n h1
    refine (src_told B p s lv v asked (rangeP lo hi n) (rangeP_in lo hi n h1 h2) w.heap.size pv W' w0 hz hl (by omega) (hM.below hb') hg ht (Below.then' hb hb') hB hr (fun q hq => by have := (hr.lt q hq).1; have := hM.lt; omega)).mono ?_
    rintro e w' ⟨v', lr, h3, h4, h5, h6⟩
    exact ⟨v', lr, h3, own_base h4 hb'.size, h5, (SStep.of hb').trans h6⟩
  generalize rangeG s lo hi n asked = r at *
  generalize checkedN s.size n = ch at *
  generalize rangeP lo hi n = L at *
  generalize toldG s L asked [] = tt at *
  clear hM hg ht hb hz
  by_cases hch : ch = 0
  · obtain ⟨hn0, hn62⟩ := HOK.out hch
    subst hch
    by_cases h1 : lo < 0
    · have HR : Hid (r = ([], 81, asked)) := by unfold Hid; rw [HD.out, if_neg (by simp), if_pos (.inl h1)]
      clear HD HOK HOUT HTO hn0 hn62
      go_enter Tryd.func27, Tryd.ntmps27
      go_wp2_with fail
      refine HC.out.mono ?_
      rintro e w1 ⟨rfl, rfl⟩
      go_wp2_with fail
      go_ret2
      exact ⟨v, _, by rw [HR.out]; rfl, by rw [HR.out]; exact World.ownsRow_nil _ _ _ _, by rw [HR.out]; exact HM.out, SStep.refl _ _ _⟩
    · by_cases h2 : hi ≤ lo
      · have HR : Hid (r = ([], 81, asked)) := by unfold Hid; rw [HD.out, if_neg (by simp), if_pos (.inr (.inl h2))]
        clear HD HOK HOUT HTO hn0 hn62
        go_enter Tryd.func27, Tryd.ntmps27
        go_wp2_with fail
        refine HC.out.mono ?_
        rintro e w1 ⟨rfl, rfl⟩
        go_wp2_with fail
        go_ret2
        exact ⟨v, _, by rw [HR.out]; rfl, by rw [HR.out]; exact World.ownsRow_nil _ _ _ _, by rw [HR.out]; exact HM.out, SStep.refl _ _ _⟩
      · by_cases h3 : n < hi
        · have HR : Hid (r = ([], 81, asked)) := by unfold Hid; rw [HD.out, if_neg (by simp), if_pos (.inr (.inr h3))]
          clear HD HOK HOUT HTO hn0 hn62
          go_enter Tryd.func27, Tryd.ntmps27
          go_wp2_with fail
          refine HC.out.mono ?_
          rintro e w1 ⟨rfl, rfl⟩
          go_wp2_with fail
          go_ret2
          exact ⟨v, _, by rw [HR.out]; rfl, by rw [HR.out]; exact World.ownsRow_nil _ _ _ _, by rw [HR.out]; exact HM.out, SStep.refl _ _ _⟩
        · have HR : Hid (r = tt) := by unfold Hid; rw [HD.out, if_neg (by simp), if_neg (by omega)]
          have HO2 := hid (HOUT.out (by omega) (by omega) (by omega) hn62)
          have HT2 := hid (HTO.out (by omega) hn62)
          clear HD HOK HOUT HTO hn0 hn62
          go_enter Tryd.func27, Tryd.ntmps27
          go_wp2_with fail
          refine HC.out.mono ?_
          rintro e w1 ⟨rfl, rfl⟩
          go_wp2_with fail
          refine HO2.out.mono ?_
          rintro e w2 ⟨pv, rfl, hr, d2⟩
          have HT3 := hid (HT2.out pv w2 d2 hr)
          clear hr d2 HO2 HT2
          go_wp2_with fail
          refine HT3.out.mono ?_
          rintro e w3 ⟨v', lr, rfl, hr, hM3, hS3⟩
          have R3 := hid hr
          have M3 := hid hM3
          have S3 := hid hS3
          clear hr hM3 hS3
          go_wp2_with fail
          go_ret2
          exact ⟨v', lr, by rw [HR.out]; rfl, by rw [HR.out]; exact R3.out, by rw [HR.out]; exact M3.out, S3.out⟩
  · have hch1 : (ch == 0) = false := beq_eq_false_iff_ne.2 hch
    have hch2 : (ch != 0) = true := bne_iff_ne.2 hch
    have HR : Hid (r = ([], ch, asked)) := by unfold Hid; rw [HD.out, if_pos hch]
    clear HD HOK HOUT HTO hch
    go_enter Tryd.func27, Tryd.ntmps27
    go_wp2_with fail
    refine HC.out.mono ?_
    rintro e w1 ⟨rfl, rfl⟩
    go_wp2_with fail
    go_ret2
    exact ⟨v, _, by rw [HR.out]; rfl, by rw [HR.out]; exact World.ownsRow_nil _ _ _ _, by rw [HR.out]; exact HM.out, SStep.refl _ _ _⟩
end Go.Proofs.YtaaldkkfedinpaaDoor
