/- Walk of the law's again: what the reader that takes the bytes reads, written again. -/
import Derived.Test.YtocjjiacmedjmaaOnly
import Derived.Test.YtocjjiacmedjmaaApartK
import Derived.Test.YtocjjiacmedjmaaUnHashes
import Derived.Test.YtocjjiacmedjmaaWireUnFr
import Derived.Test.YtocjjiacmedjmaaFrontier
import Derived.Test.YtocjjiacmedjmaaSame
import Derived.Deep.DeepCutAuto
import Derived.Deep.CutBlock
set_option maxRecDepth 100000
namespace Go.Proofs.Ytocjjiacmedjmaa
open Go Go.RowKit

theorem bytes_of {s : ByteArray} {l : List UInt8} (h : s.data.toList = l) : (⟨l.toArray⟩ : ByteArray) = s := by
  apply ByteArray.ext
  apply Array.toList_inj.1
  rw [h]
theorem back_proof {s : ByteArray} (h : (unProof s).2 = 0) : proofR (unProof s).1.k (unProof s).1.wd (unProof s).1.a (unProof s).1.b (unProof s).1.n (unProof s).1.xs (unProof s).1.hs = (s, 0) := by
  obtain ⟨f, e⟩ := proof_read h
  rw [fit_proofR f]
  exact Prod.ext (bytes_of e) rfl
theorem fit_widthN {n : Nat} (h1 : 1 ≤ n) (h2 : n ≤ 32) : widthN n = n := by
  unfold widthN
  rw [if_neg (by omega)]
  omega
theorem fit_frontR {n lo hi : Nat} {hs : List ByteArray} (f : FitF n lo hi hs) : frontR n lo hi hs = (⟨(frontBy n lo hi hs).toArray⟩, 0) := by
  have h1 := f.le
  have h2 := f.top
  have h3 : ¬ frontBad lo hi := by unfold frontBad; omega
  unfold frontR
  rw [if_neg h3, if_neg (by rw [Int.toNat_natCast, Int.toNat_natCast]; exact fun h => h f.cnt), fit_widthN f.w1 f.w32, if_pos (sized_all fun i hi => f.size _ (List.getElem_mem hi))]
  rfl
theorem back_front {s : ByteArray} (h : (unFrontier s).2.2 = 0) : frontR (unFrontier s).2.1 (unFrontier s).1.lo (unFrontier s).1.hi (unFrontier s).1.hs = (s, 0) := by
  obtain ⟨f, e⟩ := front_read h
  rw [fit_frontR f]
  exact Prod.ext (bytes_of e) rfl
theorem fit_hashesR {n : Nat} {hs : List ByteArray} (f : FitH n hs) : hashesR n hs = (⟨(hashesBy n hs).toArray⟩, 0) := by
  unfold hashesR
  have h1 := f.few
  rw [if_neg (by omega), fit_widthN f.w1 f.w32, if_pos (sized_all fun i hi => f.size _ (List.getElem_mem hi))]
  rfl
theorem back_row {s : ByteArray} (h : (unHashes s).2.2 = 0) : hashesR (unHashes s).2.1 (unHashes s).1 = (s, 0) := by
  obtain ⟨f, e⟩ := row_read h
  rw [fit_hashesR f]
  exact Prod.ext (bytes_of e) rfl
theorem fit_leaves {hs : List ByteArray} (f : FitL hs) : hs.length ≤ 1024 ∧ bigLeaf hs = false := ⟨f.few, big_of hs f.size⟩
theorem back_list {s : ByteArray} (h : (unLeaves s).2 = 0) : (⟨(leavesB (unLeaves s).1).toArray⟩ : ByteArray) = s := bytes_of (list_read h).2
/-- What stands behind each of the four. -/
def st1 (s : ByteArray) : ByteArray × Nat := if (unProof s).2 = 0 then (s, 1) else (⟨#[]⟩, 0)
def st2 (s : ByteArray) : ByteArray × Nat := if (unFrontier s).2.2 = 0 then (s, (st1 s).2 + 1) else st1 s
def st3 (s : ByteArray) : ByteArray × Nat := if (unHashes s).2.2 = 0 then (s, (st2 s).2 + 1) else st2 s
def st4 (s : ByteArray) : ByteArray × Nat := if (unLeaves s).2 = 0 then (s, (st3 s).2 + 1) else st3 s
theorem st1_le (s : ByteArray) : (st1 s).2 ≤ 1 := by unfold st1; split <;> simp
theorem st2_le (s : ByteArray) : (st2 s).2 ≤ 2 := by have := st1_le s; unfold st2; split <;> omega
theorem st3_le (s : ByteArray) : (st3 s).2 ≤ 3 := by have := st2_le s; unfold st3; split <;> omega
theorem st_again (s : ByteArray) : st4 s = againN s := by
  have no : ∀ {l m : Nat}, Took s l → l ≠ m → ¬ Took s m := fun h hne k => hne (h.one k)
  rcases again_one s with ⟨l, h⟩ | h
  · rw [again_yes h]
    unfold st4 st3 st2 st1
    cases h with
    | proof h =>
      rw [if_neg (fun k => no (.proof h) (by decide) (.list k)), if_neg (fun k => no (.proof h) (by decide) (.row k)), if_neg (fun k => no (.proof h) (by decide) (.front k)), if_pos h]
    | front h =>
      rw [if_neg (fun k => no (.front h) (by decide) (.list k)), if_neg (fun k => no (.front h) (by decide) (.row k)), if_pos h, if_neg (fun k => no (.front h) (by decide) (.proof k))]
    | row h =>
      rw [if_neg (fun k => no (.row h) (by decide) (.list k)), if_pos h, if_neg (fun k => no (.row h) (by decide) (.front k)), if_neg (fun k => no (.row h) (by decide) (.proof k))]
    | list h =>
      rw [if_pos h, if_neg (fun k => no (.list h) (by decide) (.row k)), if_neg (fun k => no (.list h) (by decide) (.front k)), if_neg (fun k => no (.list h) (by decide) (.proof k))]
  · rw [again_no h]
    unfold st4 st3 st2 st1
    rw [if_neg (fun k => h _ (.list k)), if_neg (fun k => h _ (.row k)), if_neg (fun k => h _ (.front k)), if_neg (fun k => h _ (.proof k))]
theorem unProof_len (s : ByteArray) : (unProof s).1.xs.length ≤ 1024 ∧ (unProof s).1.hs.length ≤ 65536 := by
  unfold unProof
  split
  · have h1 := upF_len s
    have h2 := rdHashes_len s (upW s).1 (upC s).1.toNat (upSt5 s) []
    have h3 : (upC s).1 ≤ 65536 := countN_bound _ _ _ _ _
    refine ⟨?_, ?_⟩
    · show (upF s).2.2.1.length ≤ _
      omega
    · show (rdHashes s (upW s).1 (upC s).1.toNat (upSt5 s) []).1.length ≤ _
      simp only [List.length_nil] at h2
      omega
  · simp [noPF]
theorem front_len (s : ByteArray) : (unFrontier s).1.hs.length ≤ 1000 := by
  have h2 := rdHashes_len s (ufW s).1 (coverN (ufLo s).1 (ufHi s).1).length (ufSt s) []
  have hl := cover_len (ufLo s).1 (ufHi s).1 (rdNum_le s 4611686018427387904 10 (ufLo s).2)
  have h3 : (ufHs s).1.length ≤ 1000 := by
    unfold ufHs
    simp only [List.length_nil] at h2
    omega
  cases hS : ufSt s with
  | error k => unfold unFrontier; rw [hS]; simp [noFr]
  | ok q =>
    unfold unFrontier
    rw [hS]
    simp only
    split
    · exact h3
    · simp [noFr]

set_option maxHeartbeats 4000000 in
theorem law_again (s : ByteArray) (hs : s.size ≤ 140737488355328) (w : World) :
    Calls Try.prog 22 #[.string s] w fun e w' => e = .returned (.tuple #[.string (againN s).1, .int .i64 (againN s).2]) ∧ Below w.heap.size w w' := by
  have HP := hid (fun W => wire_UnProof s hs W)
  have HF := hid (fun W => wire_UnFrontier s hs W)
  have HH := hid (fun W => wire_UnHashes s hs W)
  have HL := hid (fun W => wire_UnLeaves s hs W)
  have hnum := hid law_num
  have HA := hid (st_again s)
  go_enter Try.func22, Try.ntmps22
  go_wp2_with fail
  refine (HP.out _).mono ?_
  rintro e w1 ⟨ao, cap, ho, hcap, rfl, ox, oz, b1⟩
  obtain ⟨W1, hW, hO⟩ := (Owns.nil w).proofI (k := (unProof s).1.k) (wd := (unProof s).1.wd) (a := (unProof s).1.a) (b := (unProof s).1.b) (n := (unProof s).1.n) ox oz b1
  have O1 := hid hO
  have HW := hid hW
  clear ox oz b1 hW hO
  unfold pfV
  go_upto_if 20 with ((go_at_call 9; refine (hnum.out _ _).mono ?_; rintro e w' ⟨rfl, rfl⟩))
  rw [HW.out]
  clear HW
  go_cut [4, 5] (fun o c wc => o = .string (st1 s).1 ∧ c = .int .i64 (st1 s).2 ∧ Below w.heap.size w wc)
  case first =>
    obtain ⟨q0, q1, q2, q3, q4, q5, q6⟩ := O1.out.seven 0 rfl
    by_cases h0 : (unProof s).2 = 0
    · have h1 : Hid (st1 s = (s, 1)) := by unfold Hid st1; rw [if_pos h0]
      have hl := unProof_len s
      have hp := hid (wire_Proof (unProof s).1.k (unProof s).1.wd (unProof s).1.a (unProof s).1.b (unProof s).1.n ao (unProof s).1.xs cap ho (unProof s).1.hs hcap W1 (own_at (O1.out.getR 2 rfl)) (own_at (O1.out.getR 1 rfl)) (by omega) (by omega) (own_cap (O1.out.getR 1 rfl)))
      rw [back_proof h0] at hp
      clear hl
      go_wp2_with fail
      refine Calls.mono hp.out ?_
      rintro e w2 ⟨rfl, b2⟩
      unfold strErr
      simp only
      go_wp2_with fail
      go_meet
      case rel => exact ⟨by rw [h1.out], by rw [h1.out]; rfl, (O1.out.below b2).bel⟩
    · have h1 : Hid (st1 s = (⟨#[]⟩, 0)) := by unfold Hid st1; rw [if_neg h0]
      go_wp2_with fail
      go_meet
      case rel => exact ⟨by rw [h1.out], by rw [h1.out]; rfl, O1.out.bel⟩
  case rest =>
  obtain ⟨rfl, rfl, hb⟩ := hcut
  have B1 := hid hb
  clear hb O1 HP
  obtain ⟨o1, ho1⟩ : ∃ o, o = (st1 s).1 := ⟨_, rfl⟩
  obtain ⟨c1, hc1⟩ : ∃ o, o = (st1 s).2 := ⟨_, rfl⟩
  rw [← ho1, ← hc1]
  have H1 := hid (show st1 s = (o1, c1) by rw [ho1, hc1])
  have l1 : c1 ≤ 1 := by rw [hc1]; exact st1_le s
  clear ho1 hc1
  go_wp2_with fail
  refine (HF.out _).mono ?_
  rintro e w2 ⟨v, rfl, ow, b2⟩
  obtain ⟨fo, fcap, rfl⟩ := own_val ow
  have B2 := hid (Below.then' B1.out b2)
  have K2 := hid (FrK.start w2 (unFrontier s).1.lo (unFrontier s).1.hi fo (unFrontier s).1.hs.length fcap)
  have R2 := hid ((own_at ow).below K2.out.1)
  have hcap2 := own_cap ow
  clear ow b2 B1
  go_upto_if 36 with ((go_at_call 9; refine (hnum.out _ _).mono ?_; rintro e w' ⟨rfl, rfl⟩))
  generalize hW2 : w2.alloc (.cells #[.int .i64 (unFrontier s).1.lo, .int .i64 (unFrontier s).1.hi, .slice fo (unFrontier s).1.hs.length fcap] 44) = W2 at *
  clear hW2
  go_cut [4, 5] (fun o c wc => o = .string (st2 s).1 ∧ c = .int .i64 (st2 s).2 ∧ Below w.heap.size w wc)
  case first =>
    obtain ⟨k1, k2, k3, k4⟩ := K2.out
    by_cases h0 : (unFrontier s).2.2 = 0
    · have h1 : Hid (st2 s = (s, c1 + 1)) := by unfold Hid st2; rw [if_pos h0, H1.out]
      have hl := front_len s
      have hp := hid (wire_Frontier (unFrontier s).2.1 (unFrontier s).1.lo (unFrontier s).1.hi fo (unFrontier s).1.hs fcap W2 hcap2 (by omega) R2.out)
      rw [back_front h0] at hp
      clear hl
      go_wp2_with fail
      refine Calls.mono hp.out ?_
      rintro e w3 ⟨rfl, b3⟩
      unfold strErr
      simp only
      go_wp2_with fail
      go_meet
      case rel => exact ⟨by rw [h1.out], by rw [h1.out]; rfl, Below.then' (Below.then' B2.out k1) b3⟩
    · have h1 : Hid (st2 s = (o1, c1)) := by unfold Hid st2; rw [if_neg h0, H1.out]
      go_wp2_with fail
      go_meet
      case rel => exact ⟨by rw [h1.out], by rw [h1.out], Below.then' B2.out k1⟩
  case rest =>
  obtain ⟨rfl, rfl, hb⟩ := hcut
  have B3 := hid hb
  clear hb K2 R2 B2 HF hcap2 H1
  obtain ⟨o2, ho2⟩ : ∃ o, o = (st2 s).1 := ⟨_, rfl⟩
  obtain ⟨c2, hc2⟩ : ∃ o, o = (st2 s).2 := ⟨_, rfl⟩
  rw [← ho2, ← hc2]
  have H2 := hid (show st2 s = (o2, c2) by rw [ho2, hc2])
  have l2 : c2 ≤ 2 := by rw [hc2]; exact st2_le s
  clear ho2 hc2
  go_wp2_with fail
  refine (HH.out _).mono ?_
  rintro e w4 ⟨v, rfl, ow, b4⟩
  obtain ⟨ho, hcap, rfl⟩ := own_val ow
  have B4 := hid (Below.then' B3.out b4)
  have R4 := hid (own_at ow)
  have hcap4 := own_cap ow
  rw [strs'_length] at hcap4 ⊢
  clear ow b4 B3
  go_upto_if 53 with ((go_at_call 9; refine (hnum.out _ _).mono ?_; rintro e w' ⟨rfl, rfl⟩))
  go_cut [4, 5] (fun o c wc => o = .string (st3 s).1 ∧ c = .int .i64 (st3 s).2 ∧ Below w.heap.size w wc)
  case first =>
    by_cases h0 : (unHashes s).2.2 = 0
    · have h1 : Hid (st3 s = (s, c2 + 1)) := by unfold Hid st3; rw [if_pos h0, H2.out]
      have hp := hid (wire_Hashes (unHashes s).2.1 ho (unHashes s).1 hcap w4 hcap4 R4.out)
      rw [back_row h0] at hp
      go_wp2_with fail
      refine Calls.mono hp.out ?_
      rintro e w5 ⟨rfl, b5⟩
      unfold strErr
      simp only
      go_wp2_with fail
      go_meet
      case rel => exact ⟨by rw [h1.out], by rw [h1.out]; rfl, Below.then' B4.out b5⟩
    · have h1 : Hid (st3 s = (o2, c2)) := by unfold Hid st3; rw [if_neg h0, H2.out]
      go_wp2_with fail
      go_meet
      case rel => exact ⟨by rw [h1.out], by rw [h1.out], B4.out⟩
  case rest =>
  obtain ⟨rfl, rfl, hb⟩ := hcut
  have B5 := hid hb
  clear hb R4 B4 HH hcap4 H2
  obtain ⟨o3, ho3⟩ : ∃ o, o = (st3 s).1 := ⟨_, rfl⟩
  obtain ⟨c3, hc3⟩ : ∃ o, o = (st3 s).2 := ⟨_, rfl⟩
  rw [← ho3, ← hc3]
  have H3 := hid (show st3 s = (o3, c3) by rw [ho3, hc3])
  have l3 : c3 ≤ 3 := by rw [hc3]; exact st3_le s
  clear ho3 hc3
  go_wp2_with fail
  refine (HL.out _).mono ?_
  rintro e w6 ⟨v, rfl, ow, b6⟩
  obtain ⟨lo, lcap, rfl⟩ := own_val ow
  have B6 := hid (Below.then' B5.out b6)
  have R6 := hid (own_at ow)
  clear ow b6 B5
  by_cases h0 : (unLeaves s).2 = 0
  · have h1 : Hid (againN s = (s, c3 + 1)) := by unfold Hid; rw [← HA.out]; unfold st4; rw [if_pos h0, H3.out]
    obtain ⟨f1, f2⟩ := fit_leaves (list_read h0).1
    have hp := hid (wire_Leaves_ok lo (unLeaves s).1 lcap w6 R6.out f1 f2)
    rw [back_list h0] at hp
    rw [strs'_length]
    clear f1 f2
    go_wp2_with ((go_at_call 9; refine (hnum.out _ _).mono ?_; rintro e w' ⟨rfl, rfl⟩))
    refine Calls.mono hp.out ?_
    rintro e w7 ⟨rfl, b7⟩
    unfold strErr
    simp only
    go_wp2_with fail
    go_ret2
    exact ⟨by rw [h1.out]; rfl, Below.then' B6.out b7⟩
  · have h1 : Hid (againN s = (o3, c3)) := by unfold Hid; rw [← HA.out]; unfold st4; rw [if_neg h0, H3.out]
    go_wp2_with ((go_at_call 9; refine (hnum.out _ _).mono ?_; rintro e w' ⟨rfl, rfl⟩))
    go_ret2
    exact ⟨by rw [h1.out]; rfl, B6.out⟩
end Go.Proofs.Ytocjjiacmedjmaa
