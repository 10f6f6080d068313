/- Walk of the reference's digits, the loop. -/
import Derived.Test.YtaaldkkfedinpaaDoorRefDigits
import Derived.Laws.Strings3
set_option maxRecDepth 100000
namespace Go.Proofs.YtaaldkkfedinpaaDoor
open Go Go.RowKit

theorem sl_from (s : ByteArray) (i : Nat) (h : i ≤ s.size) : ∀ W : World, (Instr.slice 9 (.string s) (some (.int .i64 (i : Int))) none none).run Tryd.prog W = .ok (.string (s.extract i s.size)) W := by
  intro W
  rw [run_slice_string_from_if W 9 s .i64 (i : Int) Tryd.underlying9, if_pos ⟨by omega, by omega⟩, Int.toNat_natCast]
theorem sl_to (s : ByteArray) (i : Nat) (h : i ≤ s.size) : ∀ W : World, (Instr.slice 9 (.string s) none (some (.int .i64 (i : Int))) none).run Tryd.prog W = .ok (.string (s.extract 0 i)) W := by
  intro W
  rw [run_slice_string_to_if W 9 s .i64 (i : Int) Tryd.underlying9, if_pos ⟨by omega, by omega⟩, Int.toNat_natCast]
set_option maxHeartbeats 2000000 in
theorem ref23_digits (s : ByteArray) (hs : s.size ≤ 140737488355328) (w : World) : Calls Tryd.prog 63 #[.string s] w fun e w' => e = .returned (.tuple #[.int .i64 (digR s.data.toList).1, .string ⟨(digR s.data.toList).2.toArray⟩]) ∧ Below w.heap.size w w' := by
  have hsp := digs_split s.data.toList
  have hdi := digs_is s.data.toList
  have hde := digs_end s.data.toList
  have HDEF : Hid (digR s.data.toList = if (digs s.data.toList).1 = [] ∨ 18 < (digs s.data.toList).1.length then ((-1 : Int), ([] : List UInt8)) else (((valF 0 (digs s.data.toList).1 : Nat) : Int), (digs s.data.toList).2)) := rfl
  obtain ⟨d, hd⟩ : ∃ d, d = (digs s.data.toList).1 := ⟨_, rfl⟩
  obtain ⟨t, ht⟩ : ∃ t, t = (digs s.data.toList).2 := ⟨_, rfl⟩
  rw [← hd] at hsp hdi HDEF
  rw [← ht] at hsp hde HDEF
  have hlen : d.length + t.length = s.size := by
    have := congrArg List.length hsp
    rw [List.length_append, Array.length_toList] at this
    exact this
  have hget : ∀ (i : Nat) (h : i < s.size), s[i]'h = (d ++ t)[i]'(by rw [List.length_append]; omega) := by
    intro i h
    simp only [hsp]
    rw [Array.getElem_toList]
    rfl
  have HTL : Hid (∀ i : Nat, i = d.length → s.extract i s.size = ⟨t.toArray⟩) := by
    unfold Hid
    intro i hi
    refine ByteArray.ext ?_
    refine Array.toList_inj.1 ?_
    have e2 : (s.extract i s.size).data.toList = s.data.toList.drop i := by
      simp only [ByteArray.data_extract, Array.toList_extract, List.extract]
      refine List.take_of_length_le ?_
      rw [List.length_drop, Array.length_toList]
      exact Nat.le_refl _
    rw [e2, ← hsp, hi, List.drop_left]
  have HGET := hid hget
  have HDI := hid hdi
  have HDE := hid hde
  clear hget hdi hde hd ht hsp
  go_enter Tryd.func63, Tryd.ntmps63
  go_wp2_with fail
  go_loopw [4, 5] (fun n' i' wr => ∃ i : Nat, i' = .int .i64 i ∧ i ≤ d.length ∧ i ≤ 18 ∧ n' = .int .i64 ((valF 0 (d.take i) : Nat) : Int) ∧ Below w.heap.size w wr) (fun _ i' _ => (d.length - intOf i').toNat)
  case atStart => exact ⟨0, rfl, by omega, by omega, rfl, Below.refl _ _⟩
  case round =>
    obtain ⟨i, rfl, hi, hi18, rfl, hbw⟩ := hrel
    have HB := hid hbw
    have hv := valF_lt (d.take i) (fun c hc => HDI.out c (List.mem_of_mem_take hc)) 0 0 (by decide)
    have hv17 : i < 18 → valF 0 (d.take i) < 100000000000000000 := by
      intro h17
      refine Nat.lt_of_lt_of_le hv ?_
      have h1 : 0 + (d.take i).length ≤ 17 := by rw [List.length_take]; omega
      exact Nat.pow_le_pow_right (by decide) h1
    have hv18 : valF 0 (d.take i) < 1000000000000000000 := by
      refine Nat.lt_of_lt_of_le hv ?_
      have h1 : 0 + (d.take i).length ≤ 18 := by rw [List.length_take]; omega
      exact Nat.pow_le_pow_right (by decide) h1
    obtain ⟨v, hvd⟩ : ∃ v, v = valF 0 (d.take i) := ⟨_, rfl⟩
    have HVD := hid hvd
    rw [← hvd] at hv18 hv17 ⊢
    clear hv hvd hbw
    by_cases hlt : i < d.length
    · have hsz : i < s.size := by omega
      have hg := HGET.out i hsz
      rw [List.getElem_append_left hlt] at hg
      have hc := HDI.out d[i] (List.getElem_mem hlt)
      unfold isDig at hc
      simp only [Bool.and_eq_true, decide_eq_true_eq] at hc
      rw [← hg] at hc
      have hst : valF 0 (d.take (i + 1)) = 10 * v + ((s[i]'hsz).toNat - 48) := by
        rw [List.take_succ_eq_append_getElem hlt, valF_append, ← HVD.out, hg]
        rfl
      have HST := hid hst
      obtain ⟨cc, hcc⟩ : ∃ cc, cc = (s[i]'hsz).toNat := ⟨_, rfl⟩
      rw [← hcc] at hc HST
      have hci : ((s[i]'hsz).toNat : Int) = (cc : Int) := by rw [hcc]
      obtain ⟨hc1, hc2⟩ := hc
      have hz1 : (48 : Int) ≤ (cc : Int) := by omega
      have hz2 : (cc : Int) ≤ 57 := by omega
      clear hg hst hcc
      by_cases h18 : i = 18
      · have HR : Hid (digR s.data.toList = (-1, [])) := by unfold Hid; rw [HDEF.out, if_pos (.inr (by omega))]
        subst h18
        go_wp2_with fail
        go_ret2
        exact ⟨by rw [HR.out]; rfl, HB.out⟩
      · have hi17 : (i : Int) < 18 := by omega
        have hv17 := hv17 (by omega)
        go_wp2_with fail
        go_roundw
        case rel => exact ⟨i + 1, by go_num, by omega, by omega, by rw [HST.out]; congr 1; omega, HB.out⟩
        case measure => simp [intOf]; omega
    · have hie : i = d.length := by omega
      have hvd : v = valF 0 d := by rw [HVD.out, hie, List.take_length]
      have HEND : Hid (∀ h : i < s.size, ¬ ((48 : Int) ≤ ((s[i]'h).toNat : Int) ∧ ((s[i]'h).toNat : Int) ≤ 57)) := by
        intro h
        have hg := HGET.out i h
        rw [List.getElem_append_right (by omega)] at hg
        cases t with
        | nil => simp at hlen; omega
        | cons c r =>
          have hc := HDE.out c r rfl
          have : s[i]'h = c := by rw [hg]; simp [hie]
          rw [this]
          unfold isDig at hc
          simp only [Bool.and_eq_false_iff, decide_eq_false_iff_not] at hc
          omega
      obtain ⟨hz0, hz1⟩ : (0 : Int) ≤ (i : Int) ∧ (i : Int) ≤ 18 := by omega
      have HZ : Hid (i = 0 → digR s.data.toList = (-1, [])) := by
        unfold Hid
        intro h0
        rw [HDEF.out, if_pos (.inl (List.eq_nil_of_length_eq_zero (by omega)))]
      have HX : Hid (i ≠ 0 → Ending.returned (.tuple #[.int .i64 (v : Int), .string (s.extract i s.size)]) = Ending.returned (.tuple #[.int .i64 (digR s.data.toList).1, .string ⟨(digR s.data.toList).2.toArray⟩])) := by
        unfold Hid
        intro h0
        rw [HTL.out i hie, HDEF.out, if_neg (by
          intro h
          rcases h with h | h
          · rw [h] at hie; exact h0 hie
          · omega), hvd]
      have hile : (i : Int) ≤ (s.size : Int) := by omega
      clear hvd hie hlt hv17
      by_cases hzi : i = 0
      · have HR := hid (HZ.out hzi)
        have hzi0 : (i : Int) = 0 := by omega
        clear HZ HX
        by_cases hsz : i < s.size
        · have hne := HEND.out hsz
          obtain ⟨cc, hcc⟩ : ∃ cc, cc = (s[i]'hsz).toNat := ⟨_, rfl⟩
          have hci : ((s[i]'hsz).toNat : Int) = (cc : Int) := by rw [hcc]
          have hz : 0 < s.size := by omega
          have hci0 : ((s[0]'hz).toNat : Int) = (cc : Int) := by rw [hcc]; simp [hzi]
          have hz' : (0 : Int) < (s.size : Int) := by omega
          rw [hci] at hne
          by_cases h48 : (48 : Int) ≤ (cc : Int)
          · have h57 : ¬ ((cc : Int) ≤ 57) := fun h => hne ⟨h48, h⟩
            clear hne hcc
            go_wp2_with fail
            go_ret2
            exact ⟨by rw [HR.out]; rfl, HB.out⟩
          · clear hne hcc
            go_wp2_with fail
            go_ret2
            exact ⟨by rw [HR.out]; rfl, HB.out⟩
        · have hsz' : ¬ (i : Int) < (s.size : Int) := by omega
          have hsz0 : ¬ (0 : Int) < (s.size : Int) := by omega
          have hsz1 : s.size = 0 := by omega
          go_wp2_with fail
          go_ret2
          exact ⟨by rw [HR.out]; rfl, HB.out⟩
      · have HR := hid (HX.out hzi)
        have hzi0 : ¬ (i : Int) = 0 := by omega
        have HSL := hid (sl_from s i (by omega))
        clear HZ HX
        by_cases hsz : i < s.size
        · have hne := HEND.out hsz
          obtain ⟨cc, hcc⟩ : ∃ cc, cc = (s[i]'hsz).toNat := ⟨_, rfl⟩
          have hci : ((s[i]'hsz).toNat : Int) = (cc : Int) := by rw [hcc]
          rw [hci] at hne
          by_cases h48 : (48 : Int) ≤ (cc : Int)
          · have h57 : ¬ ((cc : Int) ≤ 57) := fun h => hne ⟨h48, h⟩
            clear hne hcc
            go_wp2_with fail
            have hsl2 := HSL.out
            go_quiet (fail)
            go_wp2_with fail
            go_ret2
            exact ⟨HR.out, below_drewN HB.out _⟩
          · clear hne hcc
            go_wp2_with fail
            have hsl2 := HSL.out
            go_quiet (fail)
            go_wp2_with fail
            go_ret2
            exact ⟨HR.out, below_drewN HB.out _⟩
        · have hsz' : ¬ (i : Int) < (s.size : Int) := by omega
          go_wp2_with fail
          have hsl2 := HSL.out
          go_quiet (fail)
          go_wp2_with fail
          go_ret2
          exact ⟨HR.out, below_drewN HB.out _⟩
end Go.Proofs.YtaaldkkfedinpaaDoor
