/- Walks of a source's Look and Node. -/
import Derived.Test.YtaaldkkfedinpaaDoorShelfItoa
import Derived.Test.YtaaldkkfedinpaaDoorKit
import Derived.Lib.AppendIntMem
import Derived.Test.YtaaldkkfedinpaaDoorSrc
import Derived.Deep.RegionHeld3
set_option maxRecDepth 100000
namespace Go.Proofs.YtaaldkkfedinpaaDoor
open Go Go.RowKit

theorem dec_small (u : Nat) (h : u < 10) : Lib.decDigits u = [UInt8.ofNat (48 + u)] := by rw [Lib.decDigits, dif_pos h]
theorem dec_step (u : Nat) (h : 10 ≤ u) : Lib.decDigits u = Lib.decDigits (u / 10) ++ [UInt8.ofNat (48 + u % 10)] := by rw [Lib.decDigits, dif_neg (by omega)]
theorem dec_len (k : Nat) : ∀ u, u < 10 ^ (k + 1) → (Lib.decDigits u).length ≤ k + 1 := by
  induction k with
  | zero => intro u h; rw [dec_small u (by simpa using h)]; simp
  | succ k ih =>
    intro u h
    by_cases h1 : u < 10
    · rw [dec_small u h1]; simp
    · rw [dec_step u (by omega), List.length_append]
      have := ih (u / 10) (by rw [Nat.pow_succ] at h; omega)
      simp; omega
theorem dec_len20 (u : Nat) (h : u ≤ 4611686018427387904) : (Lib.decDigits u).length ≤ 20 := dec_len 19 u (by omega)
/-- strconv's table lies as the program's text lays it. -/
def TabP (w : World) : Prop := Lib.TabIs Tryd.prog w "internal/strconv.uint64pow10" .u64 Lib.pow10Tab
theorem TabP.below {w w' : World} (h : TabP w) (hb : Below w.heap.size w w') : TabP w' := by
  have hgn : Tryd.prog.globalNamed "internal/strconv.uint64pow10" = some 3 := by kernel_rfl
  unfold TabP Lib.TabIs World.var? at h ⊢
  rw [hgn] at h ⊢
  simp only [Option.bind_some] at h ⊢
  have hlt : 3 < w.heap.size := by
    rcases Nat.lt_or_ge 3 w.heap.size with h' | h'
    · exact h'
    · rw [Array.getElem?_eq_none h'] at h; cases h
  rw [hb.block _ hlt]
  exact h
theorem ret_str' {a b : ByteArray} (h : a = b) : Ending.returned (.string a) = .returned (.string b) := by rw [h]
theorem p_Itoa (n : Nat) (hn : n ≤ 4611686018427387904) (w : World) (ht : TabP w) :
    Calls Tryd.prog 37 #[.int .i64 n] w fun e w' => e = .returned (.string ⟨(Lib.decDigits n).toArray⟩) ∧ Below w.heap.size w w' := by
  refine (Tryd.strconv_Itoa n (by omega) (by omega) w ht).mono ?_
  rintro e w' ⟨rfl, k, os, rfl⟩
  refine ⟨?_, Lib.below_grow _ w (Nat.le_refl _) k os⟩
  unfold Lib.itoa
  rw [if_neg (by omega), Int.toNat_natCast]
end Go.Proofs.YtaaldkkfedinpaaDoor
set_option maxRecDepth 100000
namespace Go.Proofs.YtaaldkkfedinpaaDoor
open Go Go.RowKit

structure LkK (w : World) (k l i : Int) (p : Nat) (W : World) : Prop where
  bel : Below w.heap.size w W
  glob : GlobR W
  tab : TabP W
  b0 : W.cell? ⟨w.heap.size, 0, none⟩ = some (.int .i64 l)
  b1 : W.cell? ⟨w.heap.size, 1, none⟩ = some (.int .i64 i)
  c0 : W.cell? ⟨p, 0, none⟩ = some (.int .i64 k)
theorem LkK.step {w : World} {k l i : Int} {p : Nat} {W W' : World} (h : LkK w k l i p W) (hb : Below W.heap.size W W') : LkK w k l i p W' := by
  have hk := fun {p : Addr} {v : Value} (hc : W.cell? p = some v) => (hb.cell (World.block_lt_of_cell? _ _ hc)).trans hc
  exact ⟨Below.then' h.bel hb, h.glob.below hb, h.tab.below hb, hk h.b0, hk h.b1, hk h.c0⟩
set_option maxHeartbeats 2000000 in
/-- Look, of a rule. -/
theorem src_look_made (s : Src) (p : Nat) (l i : Int) (w : World) (hm : s.made = true) (c0 : w.cell? ⟨p, 0, none⟩ = some (.int .i64 s.k)) (c1 : w.cell? ⟨p, 1, none⟩ = some (.int .i64 s.size)) (c3 : w.cell? ⟨p, 3, none⟩ = some (.bool true)) (hg : GlobR w) (ht : TabP w) :
    Calls Tryd.prog 92 #[.pointer (some ⟨p, 0, none⟩), .agg #[.int .i64 l, .int .i64 i]] w fun e w' => e = .returned (saidV (lookG s l i)) ∧ Below w.heap.size w w' := by
  have B0 := (Below.refl w.heap.size w).alloc (Nat.le_refl _) (.cells #[.int .i64 l, .int .i64 i] 84)
  have hk := fun {p : Addr} {v : Value} (hc : w.cell? p = some v) => (B0.cell (World.block_lt_of_cell? _ _ hc)).trans hc
  have K0 := hid (show LkK w s.k l i p (w.alloc (.cells #[.int .i64 l, .int .i64 i] 84)) from ⟨B0, hg.below B0, ht.below B0, by simp [go_sem], by simp [go_sem], hk c0⟩)
  have C1 := hid (hk c1)
  have C3 := hid (hk c3)
  have HS := hid (ref5_Span l i (w.alloc (.cells #[.int .i64 l, .int .i64 i] 84)))
  clear c0 c1 c3 hg ht hk B0
  rcases span_err l i with ⟨h50, _⟩ | ⟨l, i, rfl, rfl, hl62, hb62, hsp⟩
  · have HR : Hid (lookG s l i = (⟨#[]⟩, 50)) := by unfold Hid lookG; rw [h50]; rfl
    unfold spanV at HS
    rw [h50] at HS
    clear h50
    generalize (spanN l i).1 = a at HS
    generalize (spanN l i).2.1 = b at HS
    go_enter Tryd.func92, Tryd.ntmps92
    go_wp2_with fail
    refine HS.out.mono ?_
    rintro e w1 ⟨rfl, hb⟩
    have K1 := hid (K0.out.step hb)
    clear hb
    go_wp2_with fail
    go_ret2
    exact ⟨by rw [HR.out]; rfl, K1.out.bel⟩
  · rw [hsp] at HS
    unfold spanV at HS
    have hi62 : i ≤ 4611686018427387904 := by
      have : i + 1 ≤ (i + 1) * 2 ^ l := Nat.le_mul_of_pos_right _ (Nat.pow_pos (by decide))
      omega
    have hm2 : i * 2 ^ l ≤ (i + 1) * 2 ^ l := Nat.mul_le_mul_right _ (by omega)
    by_cases hlt : s.size < (((i + 1) * 2 ^ l : Nat) : Int)
    · have HR : Hid (lookG s l i = (⟨#[]⟩, 80)) := by unfold Hid lookG; rw [hsp]; simp only; rw [if_neg (by simp), if_pos hlt]
      clear hsp
      generalize i * 2 ^ l = a at *
      generalize (i + 1) * 2 ^ l = b at *
      go_enter Tryd.func92, Tryd.ntmps92
      go_wp2_with fail
      refine HS.out.mono ?_
      rintro e w1 ⟨rfl, hb⟩
      have K1 := hid (K0.out.step hb)
      have k1 := (hb.cell (World.block_lt_of_cell? _ _ C1.out)).trans C1.out
      clear hb
      go_wp2_with fail
      go_ret2
      exact ⟨by rw [HR.out]; rfl, K1.out.bel⟩
    · have HR : Hid (lookG s l i = (cutS (nodeText l i).data.toList s.k, 0)) := by unfold Hid lookG; rw [hsp]; simp only; rw [if_neg (by simp), if_neg hlt, if_pos hm]
      have hnt : nodeText l i = (⟨#[110, 111, 100, 101, 32]⟩ : ByteArray) ++ ⟨(Lib.decDigits l).toArray⟩ ++ ⟨#[32]⟩ ++ ⟨(Lib.decDigits i).toArray⟩ := by unfold nodeText; rw [Int.toNat_natCast, Int.toNat_natCast]
      have HIl := hid (fun (W : World) (hW : TabP W) => p_Itoa l (by omega) W hW)
      have HIi := hid (fun (W : World) (hW : TabP W) => p_Itoa i hi62 W hW)
      obtain ⟨A, hA⟩ : ∃ A, A = (⟨(Lib.decDigits l).toArray⟩ : ByteArray) := ⟨_, rfl⟩
      obtain ⟨B, hB⟩ : ∃ A, A = (⟨(Lib.decDigits i).toArray⟩ : ByteArray) := ⟨_, rfl⟩
      have zA : A.size ≤ 50 := by have := dec_len20 l (by omega); rw [hA]; simp [ByteArray.size]; omega
      have zB : B.size ≤ 50 := by have := dec_len20 i hi62; rw [hB]; simp [ByteArray.size]; omega
      rw [← hA] at HIl hnt
      rw [← hB] at HIi hnt
      obtain ⟨X1, hX1⟩ : ∃ X : ByteArray, (⟨#[110, 111, 100, 101, 32]⟩ : ByteArray) ++ A = X := ⟨_, rfl⟩
      have zX1 : X1.size ≤ 60 := by rw [← hX1, ByteArray.size_append]; have e1 : (⟨#[110, 111, 100, 101, 32]⟩ : ByteArray).size = 5 := rfl; omega
      obtain ⟨X2, hX2⟩ : ∃ X : ByteArray, X1 ++ ⟨#[32]⟩ = X := ⟨_, rfl⟩
      have zX2 : X2.size ≤ 70 := by rw [← hX2, ByteArray.size_append]; have e1 : (⟨#[32]⟩ : ByteArray).size = 1 := rfl; omega
      obtain ⟨T, hX3⟩ : ∃ X : ByteArray, X2 ++ B = X := ⟨_, rfl⟩
      have zT : T.size ≤ 120 := by rw [← hX3, ByteArray.size_append]; omega
      have hT : nodeText l i = T := by rw [hnt, hX1, hX2, hX3]
      rw [hT] at HR
      have HC := hid (fun (W : World) (h : GlobR W) => ref_Cut T (by omega) s.k W h)
      generalize cutS T.data.toList s.k = y at HR HC
      have n1 : ¬ 9223372036854775807 < 5 + A.size := by omega
      have n2 : ¬ 9223372036854775807 < X1.size + 1 := by omega
      have n3 : ¬ 9223372036854775807 < X2.size + B.size := by omega
      clear hsp hA hB hT hnt zA zB zX1 zX2 zT hm hm2 hb62
      generalize i * 2 ^ l = a at *
      generalize (i + 1) * 2 ^ l = b at *
      generalize s.k = k at *
      go_enter Tryd.func92, Tryd.ntmps92
      go_wp2_with fail
      refine HS.out.mono ?_
      rintro e w1 ⟨rfl, hb⟩
      have K1 := hid (K0.out.step hb)
      have k1 := (hb.cell (World.block_lt_of_cell? _ _ C1.out)).trans C1.out
      have k3 := (hb.cell (World.block_lt_of_cell? _ _ C3.out)).trans C3.out
      have q0 := K1.out.b0
      have q1 := K1.out.b1
      have q2 := K1.out.c0
      clear hb C1 C3 K0 HS
      have K1d := hid (LkK.step K1.out (Below.refl _ _).drew)
      go_wp2_with fail
      go_region_held3 (fun W => W.cell? ⟨w.heap.size, 0, none⟩ = some (.int .i64 l) ∧ W.cell? ⟨w.heap.size, 1, none⟩ = some (.int .i64 i) ∧ W.cell? ⟨p, 0, none⟩ = some (.int .i64 k)) (go_keep) (first
        | (go_at_call 37; (with_reducible refine Calls.mono (HIl.out _ ?htab) ?_); (case htab => exact LkK.tab (show Hid (LkK w k l i p _) by assumption)); rintro e w2 ⟨rfl, hb⟩; have K2 := hid (LkK.step (Hid.out (show Hid (LkK w k l i p _) by assumption)) hb); have q20 := K2.out.b0; have q21 := K2.out.b1; have q22 := K2.out.c0; clear hb)
        | (go_at_call 37; (with_reducible refine Calls.mono (HIi.out _ ?htab) ?_); (case htab => exact LkK.tab (show Hid (LkK w k l i p _) by assumption)); rintro e w3 ⟨rfl, hb⟩; have K3 := hid (LkK.step (Hid.out (show Hid (LkK w k l i p _) by assumption)) hb); have q30 := K3.out.b0; have q31 := K3.out.b1; have q32 := K3.out.c0; clear hb)
        | (go_at_call 120; (with_reducible refine Calls.mono (HC.out _ ?hgl) ?_); (case hgl => exact LkK.glob (show Hid (LkK w k l i p _) by assumption)); rintro e w4 ⟨rfl, hb⟩; have K4 := hid (LkK.step (Hid.out (show Hid (LkK w k l i p _) by assumption)) hb); have q40 := K4.out.b0; have q41 := K4.out.b1; have q42 := K4.out.c0; clear hb))
      all_goals
        go_wp2_with fail
        go_ret2
        exact ⟨by rw [HR.out]; rfl, K4.out.bel⟩
end Go.Proofs.YtaaldkkfedinpaaDoor
