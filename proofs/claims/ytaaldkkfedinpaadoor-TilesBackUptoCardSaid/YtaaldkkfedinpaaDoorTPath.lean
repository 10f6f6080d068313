/- tiles.three, index, Path. -/
import Derived.Test.YtaaldkkfedinpaaDoorTPure
import Derived.Deep.RegionHeld3
import Derived.Lib.AppendIntMem
set_option maxRecDepth 100000
namespace Go.Proofs.YtaaldkkfedinpaaDoor
open Go Go.RowKit

/-- strconv's table lies as the program's text lays it. -/
def TabP (w : World) : Prop := Lib.TabIs Tryd.prog w "internal/strconv.uint64pow10" .u64 Lib.pow10Tab
theorem TabP.below {w w' : World} (h : TabP w) (hb : Below w.heap.size w w') : TabP w' := by
  have hgn : Tryd.prog.globalNamed "internal/strconv.uint64pow10" = some 3 := by kernel_rfl
  unfold TabP Lib.TabIs World.var? at h ⊢
  rw [hgn] at h ⊢
  simp only [Option.bind_some] at h ⊢
  have hlt : 3 < w.heap.size := by
    rcases Nat.lt_or_ge 3 w.heap.size with h' | h'
    · exact h'
    · rw [Array.getElem?_eq_none h'] at h; cases h
  rw [hb.block _ hlt]
  exact h
theorem ret_str' {a b : ByteArray} (h : a = b) : Ending.returned (.string a) = .returned (.string b) := by rw [h]
theorem p_Itoa (n : Nat) (hn : n ≤ 4611686018427387904) (w : World) (ht : TabP w) :
    Calls Tryd.prog 37 #[.int .i64 n] w fun e w' => e = .returned (.string ⟨(Lib.decDigits n).toArray⟩) ∧ Below w.heap.size w w' := by
  refine (Tryd.strconv_Itoa n (by omega) (by omega) w ht).mono ?_
  rintro e w' ⟨rfl, k, os, rfl⟩
  refine ⟨?_, Lib.below_grow _ w (Nat.le_refl _) k os⟩
  unfold Lib.itoa
  rw [if_neg (by omega), Int.toNat_natCast]
theorem tiles_three (n : Nat) (hn : n ≤ 4611686018427387904) (w : World) (ht : TabP w) :
    Calls Tryd.prog 68 #[.int .i64 n] w fun e w' => e = .returned (.string ⟨(three3 (n % 1000)).toArray⟩) ∧ Below w.heap.size w w' := by
  have hI := p_Itoa (1000 + n % 1000) (by omega) w ht
  rw [dec_thousand _ (Nat.mod_lt _ (by decide))] at hI
  have hmod : ((n : Int).tmod 1000) = ((n % 1000 : Nat) : Int) := by rw [Int.tmod_eq_emod_of_nonneg (by omega)]; omega
  obtain ⟨r, hr⟩ : ∃ r, r = n % 1000 := ⟨_, rfl⟩
  have hr1 : r < 1000 := by omega
  rw [← hr] at hI hmod ⊢
  rw [show ((1000 + r : Nat) : Int) = 1000 + (r : Int) by omega] at hI
  obtain ⟨S, hS⟩ : ∃ S, S = (⟨(49 :: three3 r).toArray⟩ : ByteArray) := ⟨_, rfl⟩
  rw [← hS] at hI
  have hsz : S.size = 4 := by rw [hS]; rfl
  have HE : Hid (S.extract 1 4 = ⟨(three3 r).toArray⟩) := by
    unfold Hid; rw [hS]; rfl
  have HI := hid hI
  clear hI hr hS
  go_enter Tryd.func68, Tryd.ntmps68
  go_wp2_with fail
  refine (HI.out).mono ?_
  rintro e w1 ⟨rfl, hb⟩
  have HB := hid hb
  clear hb
  go_wp2_with fail
  go_ret
  exact ⟨ret_str' HE.out, HB.out⟩
set_option maxHeartbeats 400000 in
theorem tiles_index (n : Nat) (hn : n ≤ 4611686018427387904) (w : World) (ht : TabP w) :
    Calls Tryd.prog 38 #[.int .i64 n] w fun e w' => e = .returned (.string ⟨(indexL n).toArray⟩) ∧ Below w.heap.size w w' := by
  have h3 := tiles_three n hn w ht
  have hq : (n : Int).tdiv 1000 = ((n / 1000 : Nat) : Int) := by rw [Int.tdiv_eq_ediv_of_nonneg (by omega)]; omega
  have hlen := indexL_len n hn
  obtain ⟨S0, hS0⟩ : ∃ S, S = (⟨(three3 (n % 1000)).toArray⟩ : ByteArray) := ⟨_, rfl⟩
  have H0 : Hid (preL (n / 1000) ++ S0.data.toList = indexL n) := by unfold Hid; rw [hS0]; rfl
  obtain ⟨m0, hm0⟩ : ∃ m, m = n / 1000 := ⟨_, rfl⟩
  rw [← hS0] at h3
  rw [← hm0] at hq H0
  have hm0n : m0 ≤ n := by omega
  have H3 := hid h3
  have HT := hid ht
  have HLen := hid hlen
  clear h3 hS0 ht hm0 hlen
  go_enter Tryd.func38, Tryd.ntmps38
  go_wp2_with fail
  refine (H3.out).mono ?_
  rintro e w1 ⟨rfl, hb⟩
  have HB := hid hb
  clear hb
  go_wp2_with fail
  go_loopw [0, 3] (fun m' s' wr => ∃ (m : Nat) (S : ByteArray), m' = .int .i64 m ∧ s' = .string S ∧ m ≤ n ∧ preL m ++ S.data.toList = indexL n ∧ Below w.heap.size w wr) (fun m' _ _ => (intOf m').toNat)
  case atStart => exact ⟨m0, S0, rfl, rfl, hm0n, H0.out, HB.out⟩
  case round =>
    clear hq HB H0 H3
    obtain ⟨m, S, rfl, rfl, hmn, hpre, hbw⟩ := hrel
    have hSz : S.size ≤ 50 := by
      have := congrArg List.length hpre
      rw [List.length_append] at this
      have e : S.data.toList.length = S.size := Array.length_toList
      have := HLen.out
      omega
    have HP := hid hpre
    have HBw := hid hbw
    by_cases h0 : m = 0
    · have HR : Hid (S = ⟨(indexL n).toArray⟩) := by
        unfold Hid; refine bytes_eq ?_
        rw [← HP.out, h0, preL_zero]; simp
      subst h0
      clear hpre hbw
      go_wp2_with fail
      go_ret
      exact ⟨ret_str' HR.out, HBw.out⟩
    · have h3 := hid (tiles_three m (by omega) wr (HT.out.below hbw))
      have hq : (m : Int).tdiv 1000 = ((m / 1000 : Nat) : Int) := by rw [Int.tdiv_eq_ediv_of_nonneg (by omega)]; omega
      obtain ⟨T, hT⟩ : ∃ T, T = (⟨(three3 (m % 1000)).toArray⟩ : ByteArray) := ⟨_, rfl⟩
      have hTz : T.size = 3 := by rw [hT]; rfl
      have HR : Hid (preL (m / 1000) ++ (⟨#[120]⟩ ++ T ++ ⟨#[47]⟩ ++ S : ByteArray).data.toList = indexL n) := by
        unfold Hid; rw [← HP.out, preL_step m h0, hT]; simp [three3]
      rw [← hT] at h3
      obtain ⟨q, hqq⟩ : ∃ q, q = m / 1000 := ⟨_, rfl⟩
      have hqn : q < m := by omega
      rw [← hqq] at hq HR
      have hm1 : (0 : Int) < m := by omega
      clear hpre hbw hT hqq h0
      go_wp2_with fail
      refine (h3.out).mono ?_
      rintro e w3 ⟨rfl, hb3⟩
      have HB3 := hid (Below.then' HBw.out hb3)
      clear hb3
      go_wp2_with fail
      go_roundw
      case rel => exact ⟨q, _, rfl, rfl, by omega, HR.out, HB3.out⟩
      case measure => simp [intOf]; omega
theorem ret_path {a b : ByteArray} {n : Int} (h : a = b) : Ending.returned (.tuple #[.string a, .int .i64 n]) = .returned (.tuple #[.string b, .int .i64 n]) := by rw [h]
/-- What each world of Path's first region knows. -/
def ThK (w : World) (h l i c : Int) (w' : World) : Prop := Below w.heap.size w w' ∧ TabP w' ∧ w'.cell? ⟨w.heap.size, 0, none⟩ = some (.int .i64 h) ∧ w'.cell? ⟨w.heap.size, 1, none⟩ = some (.int .i64 l) ∧ w'.cell? ⟨w.heap.size, 2, none⟩ = some (.int .i64 i) ∧ w'.cell? ⟨w.heap.size, 3, none⟩ = some (.int .i64 c)
theorem ThK.step {w : World} {h l i c : Int} {w' w'' : World} (k : ThK w h l i c w') (hb : Below w'.heap.size w' w'') : ThK w h l i c w'' := by
  obtain ⟨k1, k2, k3, k4, k5, k6⟩ := k
  have hk := fun {p : Addr} {v : Value} (hc : w'.cell? p = some v) => (hb.cell (World.block_lt_of_cell? _ _ hc)).trans hc
  exact ⟨Below.then' k1 hb, k2.below hb, hk k3, hk k4, hk k5, hk k6⟩
theorem ThK.tab {w : World} {h l i c : Int} {w' : World} (k : Hid (ThK w h l i c w')) : TabP w' := k.out.2.1
theorem ThK.start (h l i c : Int) (w : World) (ht : TabP w) : ThK w h l i c (w.alloc (.cells #[.int .i64 h, .int .i64 l, .int .i64 i, .int .i64 c] 23)) := by
  refine ⟨(Below.refl _ _).alloc (Nat.le_refl _) _, ht.below ((Below.refl _ _).alloc (Nat.le_refl _) _), ?_, ?_, ?_, ?_⟩ <;> simp
set_option maxHeartbeats 800000 in
theorem tiles_Path (h l i c : Int) (bh : -9223372036854775808 ≤ h ∧ h ≤ 9223372036854775807) (bl : -9223372036854775808 ≤ l ∧ l ≤ 9223372036854775807) (bi : -9223372036854775808 ≤ i ∧ i ≤ 9223372036854775807) (bc : -9223372036854775808 ≤ c ∧ c ≤ 9223372036854775807) (w : World) (ht : TabP w) :
    Calls Tryd.prog 14 #[.agg #[.int .i64 h, .int .i64 l, .int .i64 i, .int .i64 c]] w fun e w' => e = .returned (.tuple #[.string (pathS h l i c), .int .i64 (pathE h l i c)]) ∧ Below w.heap.size w w' := by
  have hG := fun W => tiles_goes h l i c bh bl bi bc W
  have HE : Hid (pathS h l i c = if Lies h l i c 4611686018427387904 then ⟨(pathL h.toNat l.toNat i.toNat c.toNat).toArray⟩ else ⟨#[]⟩) := rfl
  have HC : Hid (pathE h l i c = if Lies h l i c 4611686018427387904 then 0 else 230) := rfl
  generalize pathS h l i c = s at *
  generalize pathE h l i c = z at *
  by_cases hL : Lies h l i c 4611686018427387904
  · rw [decide_eq_true hL] at hG
    have HG := hid hG
    have hS := HE.out
    have hZ := HC.out
    rw [if_pos hL] at hS hZ
    obtain ⟨h1, h8, l0, lh, i0, c1, cP, cR, iR⟩ := hL
    have hlm : l ≤ 62 := by
      rcases Int.lt_or_le 62 l with hl | hl
      · have := Int.mul_le_mul_of_nonneg_left h1 l0
        omega
      · exact hl
    have cP2 : (2 ^ h.toNat : Nat) ≤ 256 := Nat.pow_le_pow_right (by decide) (show h.toNat ≤ 8 by omega)
    have iB : i ≤ 4611686018427387904 := by
      refine Int.le_trans iR (Int.le_trans (Int.ediv_le_self _ (by omega)) ?_)
      have := Nat.div_le_self 4611686018427387904 (2 ^ (l * h).toNat)
      omega
    have cB : c ≤ 256 := by omega
    clear cR iR lh HE HC cP2
    obtain ⟨h, rfl⟩ := Int.eq_ofNat_of_zero_le (show 0 ≤ h by omega)
    obtain ⟨l, rfl⟩ := Int.eq_ofNat_of_zero_le l0
    obtain ⟨i, rfl⟩ := Int.eq_ofNat_of_zero_le i0
    obtain ⟨c, rfl⟩ := Int.eq_ofNat_of_zero_le (show 0 ≤ c by omega)
    simp only [Int.toNat_natCast] at hS cP
    have HIh := hid (fun (W : World) (hW : TabP W) => p_Itoa h (by omega) W hW)
    have HIl := hid (fun (W : World) (hW : TabP W) => p_Itoa l (by omega) W hW)
    have HIi := hid (fun (W : World) (hW : TabP W) => tiles_index i (by omega) W hW)
    have HIc := hid (fun (W : World) (hW : TabP W) => p_Itoa c (by omega) W hW)
    obtain ⟨A, hA⟩ : ∃ A, A = (⟨(Lib.decDigits h).toArray⟩ : ByteArray) := ⟨_, rfl⟩
    obtain ⟨B, hB⟩ : ∃ A, A = (⟨(Lib.decDigits l).toArray⟩ : ByteArray) := ⟨_, rfl⟩
    obtain ⟨D, hD⟩ : ∃ A, A = (⟨(indexL i).toArray⟩ : ByteArray) := ⟨_, rfl⟩
    obtain ⟨C, hC⟩ : ∃ A, A = (⟨(Lib.decDigits c).toArray⟩ : ByteArray) := ⟨_, rfl⟩
    have zA : A.size ≤ 50 := by have := dec_len20 h (by omega); rw [hA]; simp [ByteArray.size]; omega
    have zB : B.size ≤ 50 := by have := dec_len20 l (by omega); rw [hB]; simp [ByteArray.size]; omega
    have zD : D.size ≤ 50 := by have := indexL_len i (by omega); rw [hD]; simp [ByteArray.size]; omega
    have zC : C.size ≤ 50 := by have := dec_len20 c (by omega); rw [hC]; simp [ByteArray.size]; omega
    obtain ⟨P, hP⟩ : ∃ P, P = 2 ^ h := ⟨_, rfl⟩
    have hpow : (2 : Int) ^ h = (P : Int) := by rw [hP]; simp
    have hP2 : P ≤ 256 := by rw [hP]; exact Nat.pow_le_pow_right (show 0 < 2 by decide) (show h ≤ 8 by omega)
    obtain ⟨X1, hX1⟩ : ∃ X : ByteArray, (⟨#[116, 105, 108, 101, 47]⟩ : ByteArray) ++ A = X := ⟨_, rfl⟩
    have zX1 : X1.size ≤ 60 := by rw [← hX1, ByteArray.size_append]; have e1 : (⟨#[116, 105, 108, 101, 47]⟩ : ByteArray).size = 5 := rfl; omega
    obtain ⟨X2, hX2⟩ : ∃ X : ByteArray, X1 ++ ⟨#[47]⟩ = X := ⟨_, rfl⟩
    have zX2 : X2.size ≤ 70 := by rw [← hX2, ByteArray.size_append]; have e1 : (⟨#[47]⟩ : ByteArray).size = 1 := rfl; omega
    obtain ⟨X3, hX3⟩ : ∃ X : ByteArray, X2 ++ B = X := ⟨_, rfl⟩
    have zX3 : X3.size ≤ 120 := by rw [← hX3, ByteArray.size_append]; omega
    obtain ⟨X4, hX4⟩ : ∃ X : ByteArray, X3 ++ ⟨#[47]⟩ = X := ⟨_, rfl⟩
    have zX4 : X4.size ≤ 130 := by rw [← hX4, ByteArray.size_append]; have e1 : (⟨#[47]⟩ : ByteArray).size = 1 := rfl; omega
    obtain ⟨T, hX5⟩ : ∃ X : ByteArray, X4 ++ D = X := ⟨_, rfl⟩
    have zT : T.size ≤ 200 := by rw [← hX5, ByteArray.size_append]; omega
    obtain ⟨Y, hY⟩ : ∃ X : ByteArray, (⟨#[46, 112, 47]⟩ : ByteArray) ++ C = X := ⟨_, rfl⟩
    have zY : Y.size ≤ 60 := by rw [← hY, ByteArray.size_append]; have e1 : (⟨#[46, 112, 47]⟩ : ByteArray).size = 3 := rfl; omega
    have hT : T = (⟨#[116, 105, 108, 101, 47]⟩ : ByteArray) ++ A ++ ⟨#[47]⟩ ++ B ++ ⟨#[47]⟩ ++ D := by rw [← hX5, ← hX4, ← hX3, ← hX2, ← hX1]
    have n1 : ¬ 9223372036854775807 < 5 + A.size := by omega
    have n2 : ¬ 9223372036854775807 < X1.size + 1 := by omega
    have n3 : ¬ 9223372036854775807 < X2.size + B.size := by omega
    have n4 : ¬ 9223372036854775807 < X3.size + 1 := by omega
    have n5 : ¬ 9223372036854775807 < X4.size + D.size := by omega
    have HR1 : Hid (c < P → T ++ Y = s) := by
      unfold Hid; intro hcp
      rw [hS, hT, ← hY, hA, hB, hD, hC]; refine bytes_eq ?_
      unfold pathL; rw [if_pos (by rw [← hP]; exact hcp)]; simp
    have HR2 : Hid (¬ c < P → T = s) := by
      unfold Hid; intro hcp
      rw [hS, hT, hA, hB, hD]; refine bytes_eq ?_
      unfold pathL; rw [if_neg (by rw [← hP]; exact hcp)]; simp
    rw [← hA] at HIh
    rw [← hB] at HIl
    rw [← hD] at HIi
    rw [← hC] at HIc
    subst hZ
    clear hG hS hA hB hC hD hP cP hT bh bl bi bc
    go_enter Tryd.func14, Tryd.ntmps14
    go_wp2_with fail
    refine (HG.out _).mono ?_
    rintro e w1 ⟨rfl, hb⟩
    have K1 := hid (ThK.step (ThK.start h l i c w ht) hb)
    have q0 := K1.out.2.2.1
    have q1 := K1.out.2.2.2.1
    have q2 := K1.out.2.2.2.2.1
    clear hb
    have K1d := hid (ThK.step K1.out (Below.refl _ _).drew)
    go_wp2_with fail
    go_region_held3 (fun W => W.cell? ⟨w.heap.size, 0, none⟩ = some (.int .i64 h) ∧ W.cell? ⟨w.heap.size, 1, none⟩ = some (.int .i64 l) ∧ W.cell? ⟨w.heap.size, 2, none⟩ = some (.int .i64 i)) (go_keep) (first
      | (go_at_call 37; (with_reducible refine Calls.mono (HIh.out _ ?htab) ?_); (case htab => exact ThK.tab (show Hid (ThK w h l i c _) by assumption)); rintro e w2 ⟨rfl, hb⟩; have K2 := hid (ThK.step (Hid.out (show Hid (ThK w h l i c _) by assumption)) hb); have q20 := K2.out.2.2.1; have q21 := K2.out.2.2.2.1; have q22 := K2.out.2.2.2.2.1; clear hb)
      | (go_at_call 37; (with_reducible refine Calls.mono (HIl.out _ ?htab) ?_); (case htab => exact ThK.tab (show Hid (ThK w h l i c _) by assumption)); rintro e w3 ⟨rfl, hb⟩; have K3 := hid (ThK.step (Hid.out (show Hid (ThK w h l i c _) by assumption)) hb); have q30 := K3.out.2.2.1; have q31 := K3.out.2.2.2.1; have q32 := K3.out.2.2.2.2.1; clear hb)
      | (go_at_call 38; (with_reducible refine Calls.mono (HIi.out _ ?htab) ?_); (case htab => exact ThK.tab (show Hid (ThK w h l i c _) by assumption)); rintro e w4 ⟨rfl, hb⟩; have K4 := hid (ThK.step (Hid.out (show Hid (ThK w h l i c _) by assumption)) hb); have q40 := K4.out.2.2.1; have q41 := K4.out.2.2.2.1; have q42 := K4.out.2.2.2.2.1; clear hb))
    have q43 := K4.out.2.2.2.2.2
    clear n1 n2 n3 n4 n5 hX1 hX2 hX3 hX4 hX5
    go_wp2_with fail
    by_cases hcp : c < P
    · have HR := hid (HR1.out hcp)
      have hcI : (c : Int) < (P : Int) := by omega
      clear hcp HR1 HR2
      go_region
      go_wp2_with fail
      refine (HIc.out _ (K4.out.2.1.below (Below.refl _ _).drew)).mono ?_
      rintro e w5 ⟨rfl, hb⟩
      have HB := hid (Below.then' (Below.then' K4.out.1 (Below.refl _ _).drew) hb)
      clear hb
      go_wp2_with fail
      go_ret2
      exact ⟨ret_path HR.out, HB.out⟩
    · have HR := hid (HR2.out hcp)
      have hcI : ¬ (c : Int) < (P : Int) := by omega
      clear hcp HR1 HR2
      go_region
      go_wp2_with fail
      go_ret2
      exact ⟨ret_path HR.out, Below.then' K4.out.1 (Below.refl _ _).drew⟩
  · rw [decide_eq_false hL] at hG
    have HG := hid hG
    have hS := HE.out
    have hZ := HC.out
    rw [if_neg hL] at hS hZ
    have HR : Hid (Ending.returned (.tuple #[.string ⟨#[]⟩, .int .i64 230]) = Ending.returned (.tuple #[.string s, .int .i64 z])) := by unfold Hid; rw [hS, hZ]
    clear hG hL HE HC hS hZ
    go_enter Tryd.func14, Tryd.ntmps14
    go_wp2_with fail
    refine (HG.out _).mono ?_
    rintro e w1 ⟨rfl, hb⟩
    have HB := hid (Below.then' ((Below.refl _ _).alloc (Nat.le_refl _) _) hb)
    clear hb
    go_wp2_with fail
    go_ret2
    exact ⟨HR.out, HB.out⟩
end Go.Proofs.YtaaldkkfedinpaaDoor
