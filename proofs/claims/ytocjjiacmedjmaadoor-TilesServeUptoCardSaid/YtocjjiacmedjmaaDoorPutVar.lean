/- Walks of nums.PutVar and the reference's: a number's bytes. -/
import Derived.Test.YtocjjiacmedjmaaDoorBytes
set_option maxRecDepth 100000
namespace Go.Proofs.YtocjjiacmedjmaaDoor
open Go Go.RowKit

/-- A number as bytes of seven bits, the lowest first. -/
def putVar (v : Nat) : List UInt8 := if v ≤ 127 then [UInt8.ofNat v] else UInt8.ofNat (v % 128 + 128) :: putVar (v / 128)
theorem putVar_small (v : Nat) (h : v ≤ 127) : putVar v = [UInt8.ofNat v] := by rw [putVar, if_pos h]
theorem putVar_more (v : Nat) (h : ¬ v ≤ 127) : putVar v = UInt8.ofNat (v % 128 + 128) :: putVar (v / 128) := by rw [putVar, if_neg h]
theorem putVar_len (k : Nat) : ∀ v, v < 128 ^ (k + 1) → (putVar v).length ≤ k + 1 := by
  induction k with
  | zero => intro v h; rw [putVar_small v (by omega)]; simp
  | succ k ih =>
    intro v h
    by_cases hv : v ≤ 127
    · rw [putVar_small v hv]; simp
    · rw [putVar_more v hv]
      have := ih (v / 128) (by rw [Nat.pow_succ] at h; omega)
      simp; omega

theorem fits_u64 (x y : Int) (w : World) : Calls Tryd.prog 102 #[.int .u64 x, .int .u64 y] w fun e w' => e = .returned (.bool (decide (x ≤ y))) ∧ w = w' := by
  go_enter Tryd.func102, Tryd.ntmps102
  go_wp2
  go_ret
  exact ⟨rfl, rfl⟩

theorem nums_PutVar (v : Nat) (hv : v < 18446744073709551616) (w : World) :
    Calls Tryd.prog 78 #[.int .u64 v] w fun e w' => e = .returned (.string ⟨(putVar v).toArray⟩) ∧ Below w.heap.size w w' := by
  have hl := putVar_len 9 v (by omega)
  go_enter Tryd.func78, Tryd.ntmps78
  go_wp2_with fail
  go_loopw [0, 3] (fun n' b' wr => ∃ (m : Nat) (l : List UInt8), n' = .int .u64 m ∧ m < 18446744073709551616 ∧ l ++ putVar m = putVar v ∧ wr.ownsRow w.heap.size 5 1 b' (bytesV l).length (bytesV l) ∧ Below w.heap.size w wr) (fun n' _ _ => (intOf n').toNat)
  case atStart => exact ⟨v, [], rfl, hv, rfl, World.ownsRow_nil _ _ _ _, Below.refl _ _⟩
  case round =>
    obtain ⟨m, l, rfl, hm, hlm, hown, hbw⟩ := hrel
    have hlen : (l ++ putVar m).length ≤ 10 := by rw [hlm]; exact hl
    rw [List.length_append] at hlen
    have hbytes : ((bytesV l).length + 1) * 1 ≤ 140737488355328 := by rw [bytesV_length]; omega
    have HL := hid hlm
    have HO := hid hown
    have HB := hid hbw
    clear hlm hown hbw
    by_cases hsm : m ≤ 127
    · have HP := hid (putVar_small m hsm)
      have hd : decide ((m : Int) ≤ 127) = true := by simp; omega
      go_wp2_with (first
        | (go_at_call 102; refine (fits_u64 _ _ _).mono ?_; rintro e w' ⟨rfl, rfl⟩)
        | (at_builtin; refine wp_append1 w.heap.size rfl (.tmp 15) (.tmp 18) 94 5 (.int .u8 0) 1 rfl Tryd.underlying94 info_byte rfl (by omega) _ _ _ rfl rfl rfl HO.out (HB.out.size) hbytes ?_; intro v1 w1 hown1 hb1; have hown2 : w1.ownsRow w.heap.size 5 1 v1 (bytesV (putVar v)).length (bytesV (putVar v)) := by { rw [← HL.out, HP.out, bytesV_append]; have e1 : ((UInt8.ofNat m).toNat : Int) = m := by { rw [byte_ofNat m (by omega)] }; have e2 : bytesV [UInt8.ofNat m] = [Value.int .u8 m] := by { unfold bytesV; simp only [List.map_cons, List.map_nil, e1] }; rw [e2]; exact hown1 }; have hconv := conv_own (dst := 9) Tryd.underlying94 Tryd.underlying5 Tryd.underlying9 hown2; have HB1 := hid hb1; clear hown1 hown2 hb1))
      go_ret
      exact ⟨rfl, HB.out.trans HB1.out⟩
    · have HP := hid (putVar_more m hsm)
      have hd : decide ((m : Int) ≤ 127) = false := by simp; omega
      go_wp2_with (first
        | (go_at_call 102; refine (fits_u64 _ _ _).mono ?_; rintro e w' ⟨rfl, rfl⟩)
        | (at_builtin; refine wp_append1 w.heap.size rfl (.tmp 7) (.tmp 11) 94 5 (.int .u8 0) 1 rfl Tryd.underlying94 info_byte rfl (by omega) _ _ _ rfl rfl rfl HO.out (HB.out.size) hbytes ?_; intro v1 w1 hown1 hb1; rw [or_128] at hown1; have H1 := hid hown1; have HB1 := hid hb1; clear hown1 hb1))
      go_roundw
      case rel =>
        refine ⟨m / 128, l ++ [UInt8.ofNat (m % 128 + 128)], by go_num, by omega, ?_, ?_, HB.out.trans HB1.out⟩
        · rw [List.append_assoc, List.singleton_append, ← HP.out]; exact HL.out
        · have h := H1.out
          have e2 : bytesV [UInt8.ofNat (m % 128 + 128)] = [Value.int .u8 ((m % 128 + 128 : Nat) : Int)] := by
            unfold bytesV; simp only [List.map_cons, List.map_nil, byte_ofNat (m % 128 + 128) (by omega)]
          rw [bytesV_append, e2]; exact h
      case measure => simp [intOf]; omega

theorem ref1_PutVar (v : Nat) (hv : v < 18446744073709551616) (w : World) :
    Calls Tryd.prog 82 #[.int .u64 v] w fun e w' => e = .returned (.string ⟨(putVar v).toArray⟩) ∧ Below w.heap.size w w' := by
  have hl := putVar_len 9 v (by omega)
  have hc := hid (conv_one (P := Tryd.prog) 94 9 5 Tryd.underlying94 Tryd.underlying5 Tryd.underlying9)
  go_enter Tryd.func82, Tryd.ntmps82
  go_wp2_with fail
  go_loopw [0, 3] (fun n' b' wr => ∃ (m : Nat) (l : List UInt8), n' = .int .u64 m ∧ m < 18446744073709551616 ∧ l ++ putVar m = putVar v ∧ b' = .string ⟨l.toArray⟩ ∧ Below w.heap.size w wr) (fun n' _ _ => (intOf n').toNat)
  case atStart => exact ⟨v, [], rfl, hv, rfl, rfl, Below.refl _ _⟩
  case round =>
    obtain ⟨m, l, rfl, hm, hlm, rfl, hbw⟩ := hrel
    have hlen : (l ++ putVar m).length ≤ 10 := by rw [hlm]; exact hl
    rw [List.length_append] at hlen
    have HL := hid hlm
    have HB := hid hbw
    clear hlm hbw
    by_cases hsm : m ≤ 127
    · have HP := hid (putVar_small m hsm)
      have hd : ¬ (128 : Int) ≤ (m : Int) := by omega
      have hcc := hc.out m wr
      go_wp2_with fail
      go_ret
      refine ⟨ret_eq ?_, (HB.out.alloc HB.out.size _)⟩
      show Value.string ((⟨l.toArray⟩ : ByteArray) ++ ⟨[UInt8.ofNat m].toArray⟩) = _
      rw [str_app, ← HP.out, HL.out]
    · have HP := hid (putVar_more m hsm)
      have hd : (128 : Int) ≤ (m : Int) := by omega
      have hcc := hc.out ((m : Int) % 128 + 128) wr
      go_wp2_with fail
      go_roundw
      case rel =>
        refine ⟨m / 128, l ++ [UInt8.ofNat (m % 128 + 128)], by go_num, by omega, ?_, ?_, (HB.out.alloc HB.out.size _)⟩
        · rw [List.append_assoc, List.singleton_append, ← HP.out]; exact HL.out
        · show Value.string ((⟨l.toArray⟩ : ByteArray) ++ ⟨[UInt8.ofNat (m % 128) + 128].toArray⟩) = _
          rw [str_app, UInt8.ofNat_add]; rfl
      case measure => simp [intOf]; omega
end Go.Proofs.YtocjjiacmedjmaaDoor
