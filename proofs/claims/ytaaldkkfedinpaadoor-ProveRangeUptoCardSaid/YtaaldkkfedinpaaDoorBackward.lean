/- slices.Backward over strings: what a loop over it is given. -/
import Derived.Test.YtaaldkkfedinpaaDoorArgs
import Derived.RangeFuncNested
import Derived.RangeFuncBound
import Derived.RangeFuncCalls
import Derived.RangeFuncLeaves
import Derived.RangeFuncBox
import Derived.Shelf.Abstract
import Derived.Shelf.RegionOpen
import Derived.WalkKit
import Derived.OwnWalkIn
import Derived.TacticsInMore
import Derived.LoopNIn
import Derived.LoopIn
import Derived.Stop.RegionWithIn
set_option maxRecDepth 100000
namespace Go.Proofs.YtaaldkkfedinpaaDoor
open Go Go.RowKit
attribute [local go_sem] Oper.semAt_some

/-- Texts of a size that a round can bear. -/
abbrev Sm := { b : ByteArray // b.size ≤ 1048576 }
def clip (b : ByteArray) : Sm := if h : b.size ≤ 1048576 then ⟨b, h⟩ else ⟨⟨#[]⟩, by decide⟩
theorem clip_of {b : ByteArray} (h : b.size ≤ 1048576) : clip b = ⟨b, h⟩ := dif_pos h
/-- What round j is handed: from the last on. -/
def backAt (ys : List ByteArray) (j : Nat) : Nat × Sm := (ys.length - 1 - j, clip ((ys[ys.length - 1 - j]?).getD ⟨#[]⟩))
def backTo (ys : List ByteArray) (k : Nat) : List (Nat × Sm) := (List.range k).map (backAt ys)
theorem backTo_succ (ys : List ByteArray) (k : Nat) : backTo ys (k + 1) = backTo ys k ++ [backAt ys k] := by simp [backTo, List.range_succ]
theorem backTo_length (ys : List ByteArray) (k : Nat) : (backTo ys k).length = k := by simp [backTo]
def backV (x : Nat × Sm) : Array Value := #[.int .i64 x.1, .string x.2.1]
/-- What a round keeps: the iterator's box, what lay below. -/
def BackK (Bs n₀ : Nat) (A B : World) : Prop := (∀ v, A.cell? ⟨Bs, 0, none⟩ = some v → B.cell? ⟨Bs, 0, none⟩ = some v) ∧ Below n₀ A B
set_option maxHeartbeats 1000000 in
theorem back1_in (n : Nat) (hn : 1 ≤ n) (l Bs n₀ b off cap : Nat) (ys : List ByteArray) (hreach : ys.length ≤ 140737488355328) (hb : b < n₀) (hsm : ∀ x ∈ ys, x.size ≤ 1048576) (J Jx : List (Nat × Sm) → World → Prop)
    (hY : ∀ pre x W, J pre W → pre.length < ys.length → YieldAt Fence.wide (n - 1) Tryd.prog l (backV x) W fun e W' =>
      (e = .returned (.bool true) ∧ J (pre ++ [x]) W' ∧ BackK Bs n₀ W W') ∨ (e = .returned (.bool false) ∧ Jx (pre ++ [x]) W'))
    (W : World) (hBs : W.cell? ⟨Bs, 0, none⟩ = some (.slice (some ⟨b, off, none⟩) ys.length cap)) (hc : ∀ j (h : j < ys.length), W.cell? ⟨b, off + j, none⟩ = some (.string ys[j])) (h0 : J [] W) :
    CallsIn Fence.wide n Tryd.prog 118 #[.func (.yield l) #[] #[], .pointer (some ⟨Bs, 0, none⟩)] W fun e W' => (∃ v, e = .returned v) ∧
      ((∃ zs, zs = backTo ys ys.length ∧ J zs W') ∨ (∃ pre, (∃ k, k ≤ ys.length ∧ pre = backTo ys k) ∧ Jx pre W')) := by
  refine callsIn_of_wp Tryd.func118 rfl trivial ?_ rfl
  simp only [Tryd.ntmps118, List.size_toArray, List.length_cons, List.length_nil, Nat.reduceAdd, Nat.reduceSub, Array.replicate_succ, Array.replicate_zero, List.push_toArray, List.append_toArray, List.nil_append, List.cons_append]
  have hw0 : IntKind.i64.wrap ((ys.length : Int) - 1) = (ys.length : Int) - 1 := by rw [IntKind.wrap_i64]; omega
  obtain ⟨m, hm⟩ : ∃ m, m = ys.length := ⟨_, rfl⟩
  have HC := hid hc
  have HM := hid hm
  have HSM := hid hsm
  rw [← hm] at hBs hw0 hY ⊢
  clear hc hm hsm
  gi_wp2
  gi_loopw [3] (fun i' wr => ∃ k : Nat, k ≤ m ∧ i' = .int .i64 ((m : Int) - 1 - (k : Int)) ∧ J (backTo ys k) wr ∧ BackK Bs n₀ W wr) (fun i' _ => (intOf i' + 1).toNat)
  case atStart => exact ⟨0, Nat.zero_le _, by simp, h0, fun _ h => h, Below.refl _ _⟩
  case round =>
    obtain ⟨k, hk, rfl, hJ, hK⟩ := hrel
    have hcell := hK.1 _ hBs
    by_cases hlt : k < m
    · obtain ⟨i, hi⟩ : ∃ i, i = m - 1 - k := ⟨_, rfl⟩
      have hii : (m : Int) - 1 - (k : Int) = (i : Int) := by omega
      have him : i < ys.length := by have := HM.out; omega
      have hcx := (hK.2.cell (p := ⟨b, off + i, none⟩) hb).trans (HC.out i him)
      have hsz := HSM.out ys[i] (List.getElem_mem him)
      have hba : backAt ys k = (i, (⟨ys[i], hsz⟩ : Sm)) := by
        unfold backAt
        rw [show ys.length - 1 - k = i by have := HM.out; omega, List.getElem?_eq_getElem him]
        exact congrArg (Prod.mk i) (clip_of hsz)
      obtain ⟨s, hs⟩ : ∃ s : Sm, s = ⟨ys[i], hsz⟩ := ⟨_, rfl⟩
      rw [← hs] at hba
      rw [show ys[i] = s.1 by rw [hs]] at hcx
      obtain ⟨fn, tmps, assign, body, hy, hR⟩ := hY (backTo ys k) (i, s) wr hJ (by rw [backTo_length]; omega)
      dsimp only [backV] at hy
      have HR := hid hR
      have HBA := hid hba
      have HKK := hid hK
      have hw1 : IntKind.i64.wrap ((i : Int) - 1) = (i : Int) - 1 := by rw [IntKind.wrap_i64]; omega
      have hiI : (i : Int) < (m : Int) := by omega
      rw [hii]
      clear hR hba hs hsz hY hJ h0 hK HC hi him
      gi_wp2
      refine HR.out.mono ?_
      rintro e W3 (⟨rfl, hJ3, hk3⟩ | ⟨rfl, hJx3⟩)
      · have HK3 := hid (show BackK Bs n₀ W W3 from ⟨fun v h => hk3.1 v (HKK.out.1 v h), HKK.out.2.trans hk3.2⟩)
        clear hk3
        gi_wp2
        go_roundw
        case rel => exact ⟨k + 1, by omega, by first | (congr 1; omega) | (congr 1), by rw [backTo_succ, HBA.out]; exact hJ3, HK3.out⟩
        case measure => first | (simp [intOf]; done) | (simp [intOf]; omega)
      · gi_wp2
        refine bodyPost_ret (results_none rfl _ _ _) rfl ?_
        exact ⟨⟨_, rfl⟩, .inr ⟨_, ⟨k + 1, by have := HM.out; omega, by rw [backTo_succ, HBA.out]⟩, hJx3⟩⟩
    · obtain rfl : k = m := by omega
      have hneg : (k : Int) - 1 - (k : Int) = -1 := by omega
      rw [hneg]
      clear hY
      gi_wp2
      go_end0
      exact ⟨⟨_, rfl⟩, .inl ⟨_, by first | rfl | (rw [← HM.out]), hJ⟩⟩
theorem back_in (n : Nat) (ao : Option Addr) (len cap : Nat) (w : World) :
    CallsIn Fence.wide n Tryd.prog 90 #[.slice ao len cap] w fun e w' => e = .returned (.func (.func 118) #[] #[.pointer (some ⟨w.heap.size, 0, none⟩)]) ∧ w' = w.alloc (.cells #[.slice ao len cap] 36) := by
  refine callsIn_of_wp Tryd.func90 rfl trivial ?_ rfl
  simp only [Tryd.ntmps90, List.size_toArray, List.length_cons, List.length_nil, Nat.reduceAdd, Nat.reduceSub, Array.replicate_succ, Array.replicate_zero, List.push_toArray, List.append_toArray, List.nil_append, List.cons_append]
  gi_wp2
  go_ret
  exact ⟨rfl, rfl⟩
theorem back_stops (n : Nat) (hn : 1 ≤ n) (Bs n₀ b off cap : Nat) (ys : List ByteArray) (hreach : ys.length ≤ 140737488355328) (hb : b < n₀) (hsm : ∀ x ∈ ys, x.size ≤ 1048576) (w : World) (hn₀ : n₀ ≤ w.heap.size) (h1 : Bs < w.heap.size)
    (hBs : w.cell? ⟨Bs, 0, none⟩ = some (.slice (some ⟨b, off, none⟩) ys.length cap)) (hc : ∀ j (h : j < ys.length), w.cell? ⟨b, off + j, none⟩ = some (.string ys[j])) :
    SeqStopsK Fence.wide n Tryd.prog 118 #[.pointer (some ⟨Bs, 0, none⟩)] backV (BackK Bs n₀)
      (fun zs => zs = backTo ys ys.length) (fun pre => ∃ k, k ≤ ys.length ∧ pre = backTo ys k) ys.length w := fun l J Jx W hW _ _ hY h0 =>
  back1_in n hn l Bs n₀ b off cap ys hreach hb hsm J Jx hY W ((hW.cell (p := ⟨Bs, 0, none⟩) h1).trans hBs) (fun j h => (hW.cell (p := ⟨b, off + j, none⟩) (show b < w.heap.size by omega)).trans (hc j h)) h0
end Go.Proofs.YtaaldkkfedinpaaDoor
