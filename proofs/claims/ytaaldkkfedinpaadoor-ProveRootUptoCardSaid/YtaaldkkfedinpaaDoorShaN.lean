/- Walks: sha.number, annalsref2.word; arrays in a block of their own. -/
import Derived.Test.YtaaldkkfedinpaaDoorShaW
import Derived.Test.YtaaldkkfedinpaaDoorBytes
set_option maxRecDepth 100000
namespace Go.Proofs.YtaaldkkfedinpaaDoor
open Go Go.RowKit

theorem i64_in' (x : Int) (h : -9223372036854775808 ≤ x ∧ x ≤ 9223372036854775807) : IntKind.i64.wrap x = x := IntWalk.i64_in _ h
theorem sha_number (s : ByteArray) (hs : s.size ≤ 4) (w : World) :
    Calls Tryd.prog 169 #[.string s] w fun e w' => e = .returned (.int .u32 (beN s.data.toList)) ∧ w = w' := by
  have hsz : s.size ≤ 9223372036854775807 := by omega
  go_enter Tryd.func169, Tryd.ntmps169
  go_wp2_with fail
  go_loop [3, 7] (fun v i => ∃ k : Nat, k ≤ s.size ∧ i = .int .i64 k ∧ v = .int .u32 (beN (s.data.toList.take k))) (fun _ i => s.size - (intOf i).toNat)
  case atStart => exact ⟨0, Nat.zero_le _, rfl, rfl⟩
  case round =>
    obtain ⟨k, hk, rfl, rfl⟩ := hrel
    have hlt := beN_lt (s.data.toList.take k)
    have hlen : (s.data.toList.take k).length ≤ k := List.length_take_le _ _
    by_cases hks : k < s.size
    · have hp : 256 ^ (s.data.toList.take k).length ≤ 256 ^ 3 := Nat.pow_le_pow_right (by omega) (by omega)
      have hb := s[k].toNat_lt
      have ht : s.data.toList.take (k + 1) = s.data.toList.take k ++ [s[k]] := by
        rw [List.take_succ_eq_append_getElem (by simpa using hks)]; rfl
      have HN : Hid (beN (s.data.toList.take (k + 1)) = beN (s.data.toList.take k) * 256 + s[k].toNat) := by rw [ht]; exact beN_snoc _ _
      obtain ⟨v, hv⟩ : ∃ v, v = beN (s.data.toList.take k) := ⟨_, rfl⟩
      rw [← hv] at HN hlt ⊢
      have hv2 : (v : Int) < 16777216 := by omega
      have HO := hid (u32_or_add v s[k].toNat (by omega) (by omega))
      clear hv hlt hp ht
      go_wp2_with fail
      go_round
      case rel => exact ⟨k + 1, by omega, by go_num, by rw [HN.out]; exact int_eq HO.out⟩
      case measure => simp [intOf]; omega
    · go_wp2_with fail
      go_ret
      exact ⟨ret_int (by rw [List.take_of_length_le (by simp; omega)]), rfl⟩
theorem be4 (a b c d : UInt8) : beN [a, b, c, d] = ((a.toNat * 256 + b.toNat) * 256 + c.toNat) * 256 + d.toNat := by simp [beN]
theorem word_or (a b c d : Nat) (ha : a < 256) (hb : b < 256) (hc : c < 256) (hd : d < 256) :
    Go.bits .or .u32 (Go.bits .or .u32 (Go.bits .or .u32 ((a : Int) * 16777216) ((b : Int) * 65536)) ((c : Int) * 256)) (d : Int) = ((((a * 256 + b) * 256 + c) * 256 + d : Nat) : Int) := by
  have e1 := u32_or_nat (a * 16777216) (b * 65536) (by omega) (by omega)
  rw [nat_join 24 (a * 16777216) (b * 65536) (by omega) (by omega)] at e1
  have e2 := u32_or_nat (a * 16777216 + b * 65536) (c * 256) (by omega) (by omega)
  rw [nat_join 16 (a * 16777216 + b * 65536) (c * 256) (by omega) (by omega)] at e2
  have e3 := u32_or_nat (a * 16777216 + b * 65536 + c * 256) d (by omega) (by omega)
  rw [nat_join 8 (a * 16777216 + b * 65536 + c * 256) d (by omega) (by omega)] at e3
  rw [show (a : Int) * 16777216 = ((a * 16777216 : Nat) : Int) by omega, show (b : Int) * 65536 = ((b * 65536 : Nat) : Int) by omega, show (c : Int) * 256 = ((c * 256 : Nat) : Int) by omega, e1, e2, e3]
  congr 1
  omega
theorem ref_word (g : Nat) (l : List UInt8) (cap p : Nat) (hp : p + 4 ≤ l.length) (hl : l.length ≤ 140737488355328) (w : World) (hc : ∀ i (h : i < l.length), w.cell? ⟨g, i, none⟩ = some (.int .u8 (l[i]'h).toNat)) :
    Calls Tryd.prog 165 #[.slice (some ⟨g, 0, none⟩) l.length cap, .int .i64 p] w fun e w' => e = .returned (.int .u32 (beN ((l.drop p).take 4))) ∧ Below w.heap.size w w' := by
  have c0 := hc p (by omega)
  have c1 := hc (p + 1) (by omega)
  have c2 := hc (p + 2) (by omega)
  have c3 := hc (p + 3) (by omega)
  have b0 := (l[p]'(by omega)).toNat_lt
  have b1 := (l[p + 1]'(by omega)).toNat_lt
  have b2 := (l[p + 2]'(by omega)).toNat_lt
  have b3 := (l[p + 3]'(by omega)).toNat_lt
  have ht : (l.drop p).take 4 = [l[p]'(by omega), l[p + 1]'(by omega), l[p + 2]'(by omega), l[p + 3]'(by omega)] := by
    refine List.ext_getElem (by simp; omega) (fun i h1 h2 => ?_)
    rw [List.getElem_take, List.getElem_drop]
    have hi : i < 4 := by simpa using h2
    obtain rfl | rfl | rfl | rfl : i = 0 ∨ i = 1 ∨ i = 2 ∨ i = 3 := by omega
    all_goals rfl
  rw [ht, be4]
  generalize (l[p]'(by omega)).toNat = a at *
  generalize (l[p + 1]'(by omega)).toNat = b at *
  generalize (l[p + 2]'(by omega)).toNat = c at *
  generalize (l[p + 3]'(by omega)).toNat = d at *
  have HO := hid (word_or a b c d b0 b1 b2 b3)
  clear ht hc
  have i0 : (0 : Int) ≤ (p : Int) := by omega
  have i1 : (0 : Int) ≤ (p : Int) + 1 := by omega
  have i2 : (0 : Int) ≤ (p : Int) + 2 := by omega
  have i3 : (0 : Int) ≤ (p : Int) + 3 := by omega
  have j0 : (p : Int) < (l.length : Int) := by omega
  have j1 : (p : Int) + 1 < (l.length : Int) := by omega
  have j2 : (p : Int) + 2 < (l.length : Int) := by omega
  have j3 : (p : Int) + 3 < (l.length : Int) := by omega
  have t1 : ((p : Int) + 1).toNat = p + 1 := by omega
  have t2 : ((p : Int) + 2).toNat = p + 2 := by omega
  have t3 : ((p : Int) + 3).toNat = p + 3 := by omega
  have w1 := i64_in' ((p : Int) + 1) (by omega)
  have w2 := i64_in' ((p : Int) + 2) (by omega)
  have w3 := i64_in' ((p : Int) + 3) (by omega)
  generalize l.length = n at *
  go_enter Tryd.func165, Tryd.ntmps165
  go_wp2_with fail
  go_quiet (fail)
  go_wp2_with fail
  go_ret
  exact ⟨ret_int HO.out, below_drewN (Below.refl _ _) _⟩
end Go.Proofs.YtaaldkkfedinpaaDoor
