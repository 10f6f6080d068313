/- Walk of the reference's Leaves; wire.Leaves in one contract. -/
import Derived.Test.YtmihgnjifmkaaaaLeaves
set_option maxRecDepth 100000
namespace Go.Proofs.Ytmihgnjifmkaaaa
open Go Go.RowKit

/-- The bytes l, a row of the call's own. -/
def Own (B : Nat) (v : Value) (l : List UInt8) (w : World) : Prop := w.ownsRow B 5 1 v (bytesV l).length (bytesV l)

theorem own_eq {B : Nat} {v : Value} {l m : List UInt8} {w : World} (h : Own B v l w) (e : l = m) : Own B v m w := e ▸ h
theorem own_bytes {B : Nat} {v : Value} {c : Nat} {w : World} (h : w.ownsRow B 5 1 v ([] ++ [Value.int .u8 (c : Int)]).length ([] ++ [Value.int .u8 (c : Int)])) (hc : c < 256 := by decide) : Own B v [UInt8.ofNat c] w := by
  have e : bytesV [UInt8.ofNat c] = [] ++ [Value.int .u8 (c : Int)] := by
    unfold bytesV; simp only [List.map_cons, List.map_nil, byte_ofNat c hc, List.nil_append]
  unfold Own; rw [e]; exact h
theorem Own.below {B : Nat} {v : Value} {l : List UInt8} {w w' : World} (h : Own B v l w) (hb : Below w.heap.size w w') : Own B v l w' :=
  h.kept (row := none) ⟨hb.os, hb.tape, hb.output, hb.size, fun k hk _ => hb.block k hk⟩ (by cases v.ownBlock <;> simp)

theorem wire_Leaves (ao : Option Addr) (xs : List ByteArray) (cap : Nat) (w : World) (hx : RowAt w ao (strs' xs)) :
    Calls Try.prog 14 #[.slice ao xs.length cap] w fun e w' => e = .returned (strErr (leavesR xs)) ∧ Below w.heap.size w w' := by
  unfold leavesR
  by_cases h : 1024 < xs.length
  · rw [if_pos h]; exact wire_Leaves_many ao xs cap w h
  · rw [if_neg h]
    cases hb : bigLeaf xs
    · simpa using wire_Leaves_ok ao xs cap w hx (by omega) hb
    · simpa using wire_Leaves_big ao xs cap w hx (by omega) hb
theorem big_at (xs : List ByteArray) (i : Nat) (hi : i < xs.length) (h : 4096 < xs[i].size) : bigLeaf xs = true := by
  unfold bigLeaf
  rw [List.any_eq_true]
  exact ⟨xs[i], List.getElem_mem hi, by simpa using h⟩
theorem big_none (xs : List ByteArray) (h : ∀ i (hi : i < xs.length), xs[i].size ≤ 4096) : bigLeaf xs = false := by
  unfold bigLeaf
  rw [List.any_eq_false]
  intro x hx
  obtain ⟨i, hi, rfl⟩ := List.getElem_of_mem hx
  have := h i hi
  simp; omega
/-- The bytes of the first i leaves. -/
def leavesTo (xs : List ByteArray) (i : Nat) : List UInt8 := 76 :: (putVar xs.length ++ (xs.take i).flatMap leafB)
theorem leavesTo_step (xs : List ByteArray) (i : Nat) (hi : i < xs.length) : leavesTo xs (i + 1) = leavesTo xs i ++ putVar xs[i].size ++ xs[i].data.toList := by
  unfold leavesTo
  rw [flat_take xs i hi]; simp [leafB]
theorem leavesTo_len (xs : List ByteArray) (h : xs.length ≤ 1024) (i : Nat) (hi : i ≤ xs.length) (hs : ∀ k (hk : k < i), (xs[k]'(by omega)).size ≤ 4096) : (leavesTo xs i).length ≤ 4106 * i + 12 := by
  induction i with
  | zero =>
    have := putVar_len 9 xs.length (by omega)
    unfold leavesTo; simp; omega
  | succ i ih =>
    rw [leavesTo_step xs i (by omega), List.length_append, List.length_append]
    have := ih (by omega) (fun k hk => hs k (by omega))
    have h2 := leafB_len xs[i] (hs i (by omega))
    unfold leafB at h2
    rw [List.length_append] at h2
    omega

set_option maxHeartbeats 1000000 in
theorem ref11_Leaves (ao : Option Addr) (xs : List ByteArray) (cap : Nat) (w : World) (hx : RowAt w ao (strs' xs)) :
    Calls Try.prog 16 #[.slice ao xs.length cap] w fun e w' => e = .returned (strErr (leavesR xs)) ∧ Below w.heap.size w w' := by
  by_cases h : 1024 < xs.length
  · have HR : Hid (leavesR xs = (⟨#[]⟩, 83)) := by unfold Hid leavesR; rw [if_pos h]
    go_enter Try.func16, Try.ntmps16
    go_wp2_with fail
    go_ret2
    exact ⟨by rw [HR.out]; rfl, Below.refl _ _⟩
  · have HX := hid hx
    clear hx
    have hpl := putVar_len 9 xs.length (by omega)
    have hn := hid (fun W => ref11_number xs.length (by omega) W)
    go_enter Try.func16, Try.ntmps16
    go_wp2_with (first
      | (at_builtin; refine wp_append1 w.heap.size rfl (.tmp 9) (.tmp 10) 79 5 (.int .u8 0) 1 rfl Try.underlying79 info_byte rfl (by omega) _ [] _ rfl rfl rfl (World.ownsRow_nil _ _ _ _) (Nat.le_refl _) (by simp) ?_; intro v1 w1 hown1 hb1; have H1 := hid hown1; have HB1 := hid hb1; clear hown1 hb1)
      | fail)
    refine (hn.out _).mono ?_
    rintro e w2 ⟨rfl, hb2⟩
    have H2 : Hid (Own w.heap.size v1 [76] w2) := hid ((own_bytes H1.out).below hb2)
    have HB2 := hid (Below.then' HB1.out hb2); clear hb2 H1 HB1
    go_wp2_with (first
      | (at_builtin; refine wp_append_str w.heap.size rfl (.tmp 12) (.tmp 15) 79 9 5 rfl Try.underlying79 Try.underlying9 info_byte _ [76] _ rfl rfl H2.out HB2.out.size (by rw [str_size, List.length_singleton]; omega) ?_; intro v3 w3 hown3 hb3; have H3 : Hid (Own w.heap.size v3 (leavesTo xs 0) w3) := hid (own_eq hown3 (by simp [leavesTo])); have HB3 := hid (HB2.out.trans hb3); clear hown3 hb3 H2 HB2)
      | fail)
    go_loopw [4, 5] (fun v' i' wr => ∃ i : Nat, i' = .int .i64 i ∧ i ≤ xs.length ∧ (∀ k (hk : k < i) (hk2 : k < xs.length), (xs[k]'hk2).size ≤ 4096) ∧ Own w.heap.size v' (leavesTo xs i) wr ∧ Below w.heap.size w wr) (fun _ i' _ => (xs.length - intOf i').toNat)
    case atStart => exact ⟨0, rfl, by omega, fun k hk => absurd hk (by omega), H3.out, HB3.out⟩
    case round =>
      clear H3 HB3
      obtain ⟨i, rfl, hi, hall, hown, hbw⟩ := hrel
      have hlen := leavesTo_len xs (by omega) i hi (fun k hk => hall k hk (by omega))
      have HO := hid hown
      have HB := hid hbw
      clear hown
      by_cases hlt : i < xs.length
      · have hx := HX.out.below hbw
        obtain ⟨b, off, rfl, hc⟩ := hx.str (k := i) hlt
        have hcell := hc i hlt
        have hbl : b < w.heap.size := by
          obtain ⟨b', off', e, hc'⟩ := HX.out.str (k := i) hlt
          cases e
          exact World.block_lt_of_cell? _ _ (hc' i hlt)
        clear hx hc hbw
        by_cases hsz : 4096 < (xs[i]'hlt).size
        · have hbig := big_at xs i hlt hsz
          have HR : Hid (leavesR xs = (⟨#[]⟩, 121)) := by unfold Hid leavesR; rw [if_neg h, if_pos hbig]
          clear hall
          go_wp2_with fail
          go_ret2
          exact ⟨by rw [HR.out]; rfl, HB.out⟩
        · have hst := leavesTo_step xs i hlt
          have hall' : ∀ k (hk : k < i + 1) (hk2 : k < xs.length), (xs[k]'hk2).size ≤ 4096 := by
            intro k hk hk2
            rcases Nat.lt_or_ge k i with h1 | h1
            · exact hall k h1 hk2
            · obtain rfl : k = i := by omega
              omega
          have HA := hid hall'
          clear hall hall'
          obtain ⟨y, hy⟩ : ∃ y, y = xs[i]'hlt := ⟨_, rfl⟩
          rw [← hy] at hcell hsz hst
          have HST := hid hst
          have hpy := putVar_len 9 y.size (by omega)
          clear hy hst
          have hyn := hid (fun W => ref11_number y.size (by omega) W)
          go_wp2_with fail
          refine (hyn.out _).mono ?_
          rintro e w2 ⟨rfl, hb2⟩
          have H2 : Hid (Own w.heap.size _ (leavesTo xs i) w2) := hid (HO.out.below hb2)
          have hcell2 := (hb2.cell (World.block_lt_of_cell? _ _ hcell)).trans hcell
          have HB2 := hid (Below.then HB.out HB.out.size hb2); clear hb2 HO HB hcell
          go_wp2_with (first
            | (at_builtin; refine wp_append_str w.heap.size rfl (.tmp 29) (.tmp 35) 79 9 5 rfl Try.underlying79 Try.underlying9 info_byte _ (leavesTo xs i) _ rfl rfl H2.out HB2.out.size (by rw [str_size]; omega) ?_; intro v3 w3 hown3 hb3; have H3 : Hid (Own w.heap.size v3 (leavesTo xs i ++ putVar y.size) w3) := hid hown3; have hcell3 := (hb3.cell hbl).trans hcell2; have HB3 := hid (HB2.out.trans hb3); clear hown3 hb3 H2 HB2 hcell2)
            | (at_builtin; refine wp_append_str w.heap.size rfl (.tmp 37) (.tmp 41) 79 9 5 rfl Try.underlying79 Try.underlying9 info_byte _ (leavesTo xs i ++ putVar y.size) _ rfl rfl H3.out HB3.out.size (by rw [List.length_append]; omega) ?_; intro v4 w4 hown4 hb4; have H4 : Hid (Own w.heap.size v4 (leavesTo xs (i + 1)) w4) := hid (own_eq hown4 HST.out.symm); have HB4 := hid (HB3.out.trans hb4); clear hown4 hb4 H3 HB3)
            | fail)
          go_roundw
          case rel => exact ⟨i + 1, by go_num, by omega, HA.out, H4.out, HB4.out⟩
          case measure => simp [intOf]; omega
      · have hbig := big_none xs (fun k hk => hall k (by omega) hk)
        have hto : leavesTo xs i = leavesB xs := by unfold leavesTo leavesB; rw [List.take_of_length_le (by omega)]
        have HR : Hid (leavesR xs = (⟨(leavesB xs).toArray⟩, 0)) := by unfold Hid leavesR; rw [if_neg h, if_neg (by simp [hbig])]
        have hconv := conv_own (dst := 9) Try.underlying79 Try.underlying5 Try.underlying9 HO.out
        rw [hto] at hconv
        clear hall hbw hto
        go_wp2_with fail
        go_ret2
        exact ⟨by rw [HR.out]; rfl, HB.out⟩
end Go.Proofs.Ytmihgnjifmkaaaa
