/- Walks of annalsref23.read and Parse. -/
import Derived.Test.YtaaldkkfedinpaaDoorParseP
import Derived.Test.YtaaldkkfedinpaaDoorRefTPath
set_option maxRecDepth 100000
namespace Go.Proofs.YtaaldkkfedinpaaDoor
open Go Go.RowKit

theorem rdR_of (a l : List UInt8) : rdR a l = if l.take a.length = a then digR (l.drop a.length) else (-1, []) := by
  unfold rdR rdA digR
  by_cases h : l.take a.length = a
  · rw [if_pos h, if_pos h]
    by_cases h2 : (digs (l.drop a.length)).1 = [] ∨ 18 < (digs (l.drop a.length)).1.length
    · rw [if_pos h2, if_pos h2]
    · rw [if_neg h2, if_neg h2]
  · rw [if_neg h, if_neg h]
theorem ref23_read (s a : ByteArray) (hs : s.size ≤ 1048576) (ha : a.size ≤ 10) (w : World) : Calls Tryd.prog 34 #[.string s, .string a] w fun e w' => e = .returned (.tuple #[.int .i64 (rdR a.data.toList s.data.toList).1, .string ⟨(rdR a.data.toList s.data.toList).2.toArray⟩]) ∧ Below w.heap.size w w' := by
  have hl : s.data.toList.length = s.size := Array.length_toList
  have hla : a.data.toList.length = a.size := Array.length_toList
  have HR := rdR_of a.data.toList s.data.toList
  rw [hla] at HR
  by_cases h1 : s.size < a.size
  · rw [if_neg (by
      intro e
      have := congrArg List.length e
      rw [List.length_take, hla, hl] at this
      omega)] at HR
    have HR2 := hid HR
    have h1' : (s.size : Int) < (a.size : Int) := by omega
    clear HR hl hla h1
    go_enter Tryd.func34, Tryd.ntmps34
    go_wp2_with fail
    go_ret2
    exact ⟨by rw [HR2.out]; rfl, Below.refl _ _⟩
  · have hle : a.size ≤ s.size := by omega
    have e0 : (s.extract 0 a.size).data.toList = s.data.toList.take a.size := by simp [ByteArray.data_extract]
    by_cases h2 : s.extract 0 a.size = a
    · have h3 : s.data.toList.take a.size = a.data.toList := by rw [← e0, h2]
      rw [if_pos h3] at HR
      have HD := hid (ref23_digits (s.extract a.size s.size) (by rw [ByteArray.size_extract]; omega) w)
      have e1 : (s.extract a.size s.size).data.toList = s.data.toList.drop a.size := by rw [drop_of]
      rw [e1, ← HR] at HD
      have hb : ((s.extract 0 a.size).toList == a.toList) = true := by rw [h2]; simp
      have h1' : ¬ (s.size : Int) < (a.size : Int) := by omega
      generalize (rdR a.data.toList s.data.toList).1 = z at *
      generalize (⟨(rdR a.data.toList s.data.toList).2.toArray⟩ : ByteArray) = t at *
      have hbn : (((s.extract 0 a.size).toList != a.toList)) = false := by simp [bne, hb]
      clear HR e0 e1 h2 h3 hl hla h1
      go_enter Tryd.func34, Tryd.ntmps34
      go_wp2_with fail
      refine HD.out.mono ?_
      rintro e w1 ⟨rfl, hb1⟩
      have HB := hid hb1
      clear hb1
      go_wp2_with fail
      go_ret2
      exact ⟨rfl, HB.out⟩
    · rw [if_neg (by
        intro e
        exact h2 (bytes_eq (by rw [e0, e])))] at HR
      have hb := ne_str h2
      have h1' : ¬ (s.size : Int) < (a.size : Int) := by omega
      have HR2 := hid HR
      clear HR hl hla h1 e0 h2
      go_enter Tryd.func34, Tryd.ntmps34
      go_wp2_with fail
      go_ret2
      exact ⟨by rw [HR2.out]; rfl, Below.refl _ _⟩
end Go.Proofs.YtaaldkkfedinpaaDoor
