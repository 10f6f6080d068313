/- Numbers as bytes, the highest first; the text behind a text. -/
import Derived.Test.YtaaldkkfedinpaaDoorShaA
import Derived.ArgAppend
import Derived.Lib.ConvBytes
set_option maxRecDepth 100000
namespace Go.Proofs.YtaaldkkfedinpaaDoor
open Go Go.RowKit

/-- The highest c of the k bytes of n. -/
def beP (n k c : Nat) : List UInt8 := (List.range c).map fun i => UInt8.ofNat (n / 2 ^ (8 * (k - 1 - i)))
def be (n k : Nat) : List UInt8 := beP n k k
theorem beP_succ (n k c : Nat) : beP n k (c + 1) = beP n k c ++ [UInt8.ofNat (n / 2 ^ (8 * (k - 1 - c)))] := by simp [beP, List.range_succ]
theorem beP_length (n k c : Nat) : (beP n k c).length = c := by simp [beP]
theorem bytesV_snoc (l : List UInt8) (n : Nat) : bytesV (l ++ [UInt8.ofNat n]) = bytesV l ++ [.int .u8 ((n : Int) % 256)] := by
  rw [bytesV_append]
  congr 1
/-- What is answered is a row of the call's own that holds these bytes. -/
def OwnB (base : Nat) (l : List UInt8) (w : World) (e : Ending) (w' : World) : Prop := ∃ v, e = .returned v ∧ w'.ownsRow base 5 1 v (bytesV l).length (bytesV l) ∧ Below base w w'

theorem sha_put (base : Nat) (v : Value) (l : List UInt8) (n k : Nat) (_hn : n < 18446744073709551616) (hk : k ≤ 8) (hl : l.length + 8 ≤ 140737488355328) (w : World) (HO : w.ownsRow base 5 1 v (bytesV l).length (bytesV l)) (hb : base ≤ w.heap.size) :
    Calls Tryd.prog 168 #[v, .int .u64 n, .int .i64 k] w (OwnB base (l ++ be n k) w) := by
  have H0 := hid HO; clear HO
  go_enter Tryd.func168, Tryd.ntmps168
  go_wp2_with fail
  go_loopw [0, 2] (fun b' x' wr => ∃ (d : Nat) (x : Int), x' = .int .i64 x ∧ x = (d : Int) - 1 ∧ d ≤ k ∧ wr.ownsRow base 5 1 b' (bytesV (l ++ beP n k (k - d))).length (bytesV (l ++ beP n k (k - d))) ∧ Below base w wr) (fun _ x' _ => (intOf x' + 1).toNat)
  case atStart => exact ⟨k, (k : Int) - 1, rfl, rfl, by omega, by rw [Nat.sub_self]; simpa [beP] using H0.out, Below.refl _ _⟩
  case round =>
    clear H0
    obtain ⟨d, x, rfl, hx, hd, hown, hbw⟩ := hrel
    have HB := hid hbw
    have HO := hid hown
    clear hown hbw
    cases d with
    | zero =>
      obtain rfl : x = -1 := by omega
      clear hx
      go_wp2_with fail
      go_ret
      exact ⟨_, rfl, HO.out, HB.out⟩
    | succ j =>
      obtain rfl : x = (j : Int) := by omega
      clear hx
      have hbase := Nat.le_trans hb HB.out.size
      have hbytes : ((bytesV (l ++ beP n k (k - (j + 1)))).length + 1) * 1 ≤ 140737488355328 := by rw [bytesV_length, List.length_append, beP_length]; omega
      have HN : Hid (bytesV (l ++ beP n k (k - j)) = bytesV (l ++ beP n k (k - (j + 1))) ++ [.int .u8 ((n : Int) / 2 ^ (8 * j) % 256)]) := by
        unfold Hid
        rw [show k - j = k - (j + 1) + 1 by omega, beP_succ, ← List.append_assoc, bytesV_snoc, show k - 1 - (k - (j + 1)) = j by omega]
        simp
      go_wp2_with (at_builtin; refine wp_append1 base rfl (.tmp 13) (.tmp 19) 137 5 (.int .u8 0) 1 rfl Tryd.underlying137 info_byte rfl (by omega) _ _ _ rfl rfl rfl HO.out hbase hbytes ?_; intro v1 w1 hown1 hb1; rw [← HN.out] at hown1; have H1 := hid hown1; have HB1 := hid hb1; clear hown1 hb1)
      go_roundw
      case rel => exact ⟨j, (j : Int) - 1, rfl, rfl, by omega, H1.out, HB.out.trans HB1.out⟩
      case measure => simp [intOf]

/-- How many noughts stand behind the mark. -/
def padZ (n : Nat) : Nat := (119 - n % 64) % 64
/-- What is put behind a text of n bytes. -/
def padT (n : Nat) : List UInt8 := 128 :: List.replicate (padZ n) 0 ++ be (8 * n) 8
theorem be_length (n k : Nat) : (be n k).length = k := beP_length _ _ _
theorem padT_length (n : Nat) : (padT n).length = padZ n + 9 := by simp [padT, be_length]
theorem padT_all (n : Nat) : (n + (padT n).length) % 64 = 0 := by rw [padT_length]; unfold padZ; omega
theorem bytesV_zero (_l : List UInt8) (c : Nat) : bytesV (128 :: List.replicate (c + 1) 0) = bytesV (128 :: List.replicate c 0) ++ [.int .u8 0] := by
  rw [List.replicate_succ']
  show bytesV ((128 :: List.replicate c 0) ++ [0]) = _
  rw [bytesV_append]; rfl

/-- How long a slice is. -/
def rowLen : Value → Nat | .slice _ n _ => n | _ => 0
theorem sha_padding (n : Nat) (hn : n ≤ 140737488355328) (w : World) :
    Calls Tryd.prog 161 #[.int .i64 n] w fun e w' => e = .returned (.string ⟨(padT n).toArray⟩) ∧ Below w.heap.size w w' := by
  have hput : Hid (∀ (v : Value) (W : World), W.ownsRow w.heap.size 5 1 v (bytesV (128 :: List.replicate (padZ n) 0)).length (bytesV (128 :: List.replicate (padZ n) 0)) → w.heap.size ≤ W.heap.size →
      Calls Tryd.prog 168 #[v, .int .u64 (8 * (n : Int)), .int .i64 8] W (OwnB w.heap.size (padT n) W)) := fun v W HO hb => by
    have h := sha_put w.heap.size v (128 :: List.replicate (padZ n) 0) (8 * n) 8 (by omega) (by omega) (by simp [padZ]; omega) W HO hb
    rwa [show ((8 * n : Nat) : Int) = 8 * (n : Int) by omega] at h
  have hz : padZ n < 64 := Nat.mod_lt _ (by omega)
  have Z0 := hid (World.ownsRow_lit (e := 5) (base := w.heap.size) (size := 1) w #[.int .u8 128] 1 (Nat.le_refl _) (by unfold maxLen; omega) rfl)
  go_enter Tryd.func161, Tryd.ntmps161
  go_wp2_with fail
  go_loopw [3] (fun b' wr => ∃ c : Nat, c ≤ padZ n ∧ wr.ownsRow w.heap.size 5 1 b' (bytesV (128 :: List.replicate c 0)).length (bytesV (128 :: List.replicate c 0)) ∧ Below w.heap.size w wr) (fun b' wr => 1000 - rowLen b')
  case atStart => exact ⟨0, by omega, Z0.out, (Below.refl _ _).alloc (Nat.le_refl _) _⟩
  case round =>
    clear Z0
    obtain ⟨c, hc, hown, hbw⟩ := hrel
    obtain ⟨g, cap, hv, hg1, hg2, hg3, hg4, _⟩ := own_form hown (by simp [bytesV])
    have hL : (bytesV (128 :: List.replicate c 0)).length = c + 1 := by simp [bytesV]
    rw [hL] at hv hg2 hown
    subst hv
    have HO := hid hown
    have HB := hid hbw
    have HL := hid hL
    have HZ := hid (bytesV_zero [] c)
    clear hown hbw hL
    by_cases hlt : c < padZ n
    · have hne : ¬ ((n : Int) + ((c : Int) + 1)) % 64 = 56 := by unfold padZ at hlt; omega
      have hbt : (((n : Int) + ((c : Int) + 1)) % 64 != 56) = true := by simp [bne_iff_ne, hne]
      have HB0 := hid HB.out.size
      have hbytes : ((bytesV (128 :: List.replicate c 0)).length + 1) * 1 ≤ 140737488355328 := by rw [HL.out]; omega
      go_wp2_with (at_builtin; refine wp_append1 w.heap.size rfl (.tmp 11) (.tmp 12) 137 5 (.int .u8 0) 1 rfl Tryd.underlying137 info_byte rfl (by omega) _ _ _ rfl rfl rfl (by rw [HL.out]; exact HO.out) HB0.out hbytes ?_; intro v1 w1 hown1 hb1; rw [← HZ.out] at hown1; have H1 := hid hown1; have HB1 := hid hb1; clear hown1 hb1)
      go_roundw
      case rel => exact ⟨c + 1, by omega, H1.out, HB.out.trans HB1.out⟩
      case measure =>
        have e := H1.out.1
        obtain ⟨g1, c1, e1, _⟩ := own_form H1.out (by simp [bytesV])
        rw [e1]
        simp [rowLen, bytesV]
        omega
    · obtain rfl : c = padZ n := by omega
      have hne : (((n : Int) + ((padZ n : Int) + 1)) % 64) = 56 := by unfold padZ; omega
      have hbt : (((n : Int) + ((padZ n : Int) + 1)) % 64 != 56) = false := by simp [hne]
      clear hne
      have HP := hid (hput.out _ _ (by rw [HL.out]; exact HO.out) HB.out.size)
      have hm : (8 * (n : Int)) % 18446744073709551616 = 8 * (n : Int) := by omega
      go_wp2_with fail
      refine (HP.out).mono ?_
      rintro e w2 ⟨v2, rfl, hown2, hb2⟩
      have hconv := conv_own (dst := 9) Tryd.underlying137 Tryd.underlying5 Tryd.underlying9 hown2
      have HB2 := hid (HB.out.trans hb2)
      clear hown2 hb2
      go_wp2_with fail
      go_ret
      exact ⟨rfl, HB2.out⟩
end Go.Proofs.YtaaldkkfedinpaaDoor
