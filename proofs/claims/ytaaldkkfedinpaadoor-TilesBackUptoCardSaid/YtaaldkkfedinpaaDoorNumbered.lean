/- Walks of tiles.numbered and of strings.CutPrefix. -/
import Derived.Test.YtaaldkkfedinpaaDoorNumber
import Derived.Test.YtaaldkkfedinpaaDoorParse
import Derived.Test.YtaaldkkfedinpaaDoorRefDigitsW
set_option maxRecDepth 100000
namespace Go.Proofs.YtaaldkkfedinpaaDoor
open Go Go.RowKit

theorem drop_of (s : ByteArray) (i : Nat) : s.extract i s.size = ⟨(s.data.toList.drop i).toArray⟩ := by
  refine ByteArray.ext ?_
  refine Array.toList_inj.1 ?_
  simp only [ByteArray.data_extract, Array.toList_extract, List.extract]
  rw [List.take_of_length_le (by rw [List.length_drop, Array.length_toList]; exact Nat.le_refl _)]
theorem lite_CutPrefix (s p : ByteArray) (hs : s.size ≤ 140737488355328) (w : World) : Calls Tryd.prog 58 #[.string s, .string p] w fun e w' => e = .returned (.tuple #[.string ⟨(if Lib.hasPrefix s.data.toList p.data.toList = true then s.data.toList.drop p.size else s.data.toList).toArray⟩, .bool (Lib.hasPrefix s.data.toList p.data.toList)]) ∧ Below w.heap.size w w' := by
  have hh := hid (Tryd.stringslite_HasPrefix s p w)
  by_cases h : Lib.hasPrefix s.data.toList p.data.toList = true
  · have hle : p.size ≤ s.size := by
      have := (List.isPrefixOf_iff_prefix.1 h).length_le
      rw [Array.length_toList, Array.length_toList] at this
      exact this
    have HSL := hid (sl_from s p.size hle)
    have HR := hid (drop_of s p.size)
    rw [if_pos h]
    rw [h] at hh ⊢
    clear h
    go_enter Tryd.func58, Tryd.ntmps58
    go_wp2_with fail
    refine hh.out.mono ?_
    rintro e w1 ⟨rfl, rfl⟩
    go_wp2_with fail
    go_ret2
    exact ⟨by rw [← HR.out]; rfl, Below.refl _ _⟩
  · rw [if_neg h]
    rw [Bool.eq_false_iff.2 h] at hh ⊢
    clear h
    go_enter Tryd.func58, Tryd.ntmps58
    go_wp2_with fail
    refine hh.out.mono ?_
    rintro e w1 ⟨rfl, rfl⟩
    go_wp2_with fail
    go_ret2
    exact ⟨rfl, Below.refl _ _⟩
theorem strings_CutPrefix (s p : ByteArray) (hs : s.size ≤ 140737488355328) (w : World) : Calls Tryd.prog 30 #[.string s, .string p] w fun e w' => e = .returned (.tuple #[.string ⟨(if Lib.hasPrefix s.data.toList p.data.toList = true then s.data.toList.drop p.size else s.data.toList).toArray⟩, .bool (Lib.hasPrefix s.data.toList p.data.toList)]) ∧ Below w.heap.size w w' := by
  have hh := hid (lite_CutPrefix s p hs w)
  generalize (⟨(if Lib.hasPrefix s.data.toList p.data.toList = true then s.data.toList.drop p.size else s.data.toList).toArray⟩ : ByteArray) = r at *
  generalize Lib.hasPrefix s.data.toList p.data.toList = b at *
  go_enter Tryd.func30, Tryd.ntmps30
  go_wp2_with fail
  refine hh.out.mono ?_
  rintro e w1 ⟨rfl, hb⟩
  have HB := hid hb
  clear hb
  go_wp2_with fail
  go_ret2
  exact ⟨rfl, HB.out⟩
/-- The library's own bound lies. -/
def MaxV (w : World) : Prop := ∃ m, w.cell? ⟨0, 0, none⟩ = some (.int .i64 m)
theorem MaxV.below {w w' : World} (h : MaxV w) (hb : Below w.heap.size w w') : MaxV w' := by
  obtain ⟨m, h1⟩ := h
  exact ⟨m, (hb.cell (World.block_lt_of_cell? _ _ h1)).trans h1⟩
theorem split_sizes (sep : ByteArray) (k : Nat) : ∀ s : ByteArray, ∀ b ∈ Lib.splitB sep 0 k s, b.size ≤ s.size := by
  induction k with
  | zero => intro s b hb; rw [Lib.splitB_zero, List.mem_singleton] at hb; rw [hb]; exact Nat.le_refl _
  | succ k ih =>
    intro s b hb
    rcases Lib.indexB_cases s sep with hi | ⟨i, hi, _⟩
    · rw [Lib.splitB_miss sep 0 _ s hi, List.mem_singleton] at hb; rw [hb]; exact Nat.le_refl _
    · rw [Lib.splitB_hit sep 0 k s i hi] at hb
      rcases List.mem_cons.1 hb with rfl | hb
      · rw [ByteArray.size_extract]; omega
      · have := ih _ b hb
        rw [ByteArray.size_extract] at this; omega
theorem trim_size (g : ByteArray) : (⟨(Lib.trimPrefix g.data.toList [120]).toArray⟩ : ByteArray).size ≤ g.size := by
  show (Lib.trimPrefix g.data.toList [120]).length ≤ _
  have e : g.data.toList.length = g.size := Array.length_toList
  unfold Lib.trimPrefix
  split
  · rw [List.length_drop]; omega
  · omega
theorem countF_le (sub : List UInt8) (f : Nat) : ∀ l, Lib.countFrom sub f l ≤ f := by
  induction f with
  | zero => intro l; exact Nat.le_refl _
  | succ f ih =>
    intro l
    unfold Lib.countFrom
    split
    · omega
    · have := ih (l.drop ((Lib.index l sub).toNat + sub.length))
      omega
theorem foldN_step (n : Int) (g : ByteArray) (r : List (List UInt8)) (v : Int) (hv : v = numL (Lib.trimPrefix g.data.toList [120])) : foldN n (g.data.toList :: r) = if v < 0 ∨ 1000 ≤ v ∨ (4611686018427387904 - v) / 1000 < n then -1 else foldN (1000 * n + v) r := by rw [hv]; rfl
set_option maxHeartbeats 1000000 in
theorem tiles_numbered (s : ByteArray) (hs : s.size ≤ 1048576) (w : World) (he : ErrV w) (hm : MaxV w) : Calls Tryd.prog 33 #[.string s] w fun e w' => e = .returned (.int .i64 (pN s.data.toList)) ∧ Below w.heap.size w w' := by
  obtain ⟨m, hm⟩ := hm
  have hsp := Tryd.strings_Split s ⟨#[47]⟩ m w (by omega) hm (by decide)
  have hlen := splitB_len ⟨#[47]⟩ (by decide) (Lib.countB s ⟨#[47]⟩) s rfl
  have hfold : foldN 0 ((Lib.splitB ⟨#[47]⟩ 0 (Lib.countB s ⟨#[47]⟩) s).map (fun b => b.data.toList)) = pN s.data.toList := by rw [Lib.splitB_data]; rfl
  have hsz := split_sizes ⟨#[47]⟩ (Lib.countB s ⟨#[47]⟩) s
  have hk : Lib.countB s ⟨#[47]⟩ ≤ 1048577 := by
    have h1 : Lib.countB s ⟨#[47]⟩ ≤ s.data.toList.length + 1 := countF_le _ _ _
    rw [Array.length_toList] at h1
    have : s.data.size = s.size := rfl
    omega
  obtain ⟨L, hL⟩ : ∃ L, L = Lib.splitB ⟨#[47]⟩ 0 (Lib.countB s ⟨#[47]⟩) s := ⟨_, rfl⟩
  rw [← hL] at hsp hlen hfold hsz
  obtain ⟨n, hn⟩ : ∃ n, n = Lib.countB s ⟨#[47]⟩ + 1 := ⟨_, rfl⟩
  rw [← hn] at hlen
  rw [show ((Lib.countB s ⟨#[47]⟩ + 1 : Nat)) = n by omega] at hsp
  have hn2 : n ≤ 1048578 := by omega
  have hcell : ∀ i (h : i < L.length), (w.alloc (.cells (L.map Value.string).toArray 9)).cell? ⟨w.heap.size, i, none⟩ = some (.string L[i]) := by
    intro i h
    have e : (w.alloc (.cells (L.map Value.string).toArray 9)).heap[w.heap.size]? = some (.cells (L.map Value.string).toArray 9 (0, 0)) := heap_alloc_new w _
    unfold World.cell?
    simp only [e]
    rw [List.getElem?_toArray, List.getElem?_map, List.getElem?_eq_getElem h]
    rfl
  have hb0 : Below w.heap.size w (w.alloc (.cells (L.map Value.string).toArray 9)) := (Below.refl _ _).alloc (Nat.le_refl _) _
  have hlt0 : w.heap.size < (w.alloc (.cells (L.map Value.string).toArray 9)).heap.size := by simp
  generalize w.alloc (.cells (L.map Value.string).toArray 9) = W at *
  have HSP := hid hsp
  have HC := hid hcell
  have HB0 := hid hb0
  have HF := hid hfold
  have HSZ := hid hsz
  have HE := hid he
  clear hsp hcell hb0 hfold hsz he hm hL hn hk
  go_enter Tryd.func33, Tryd.ntmps33
  go_wp2_with fail
  refine HSP.out.mono ?_
  rintro e w1 ⟨rfl, rfl⟩
  go_wp2_with fail
  go_loopw [3, 5, 6, 10] (fun n' _ _ i' wr => ∃ (i : Nat) (a : Int), i' = .int .i64 i ∧ i ≤ n ∧ n' = .int .i64 a ∧ 0 ≤ a ∧ a ≤ 4611686018427387904 ∧ foldN a ((L.drop i).map (fun b => b.data.toList)) = pN s.data.toList ∧ Below w1.heap.size w1 wr) (fun _ _ _ i' _ => (n - intOf i').toNat)
  case atStart => exact ⟨0, 0, rfl, by omega, rfl, by omega, by omega, HF.out, Below.refl _ _⟩
  case round =>
    obtain ⟨i, a, rfl, hi, rfl, ha0, ha1, hfo, hbw⟩ := hrel
    have HBW := hid hbw
    by_cases hlt : i < n
    · have hil : i < L.length := by omega
      have hc := (hbw.cell (World.block_lt_of_cell? _ _ (HC.out i hil))).trans (HC.out i hil)
      have hdr : L.drop i = L[i] :: L.drop (i + 1) := List.drop_eq_getElem_cons hil
      rw [hdr, List.map_cons] at hfo
      have hg := HSZ.out L[i] (List.getElem_mem hil)
      obtain ⟨g, hgd⟩ : ∃ g, g = L[i] := ⟨_, rfl⟩
      rw [← hgd] at hc hfo hg
      have hts := trim_size g
      have HT := hid (Tryd.strings_TrimPrefix g ⟨#[120]⟩ wr)
      obtain ⟨T, hT⟩ : ∃ T, T = (⟨(Lib.trimPrefix g.data.toList [120]).toArray⟩ : ByteArray) := ⟨_, rfl⟩
      rw [← hT] at hts
      have HT : Hid (Calls Tryd.prog 62 #[.string g, .string ⟨#[120]⟩] wr fun e w' => e = .returned (.string T) ∧ w' = wr) := by rw [hT]; exact HT
      have HN := hid (tiles_number T (by omega) wr (HE.out.below (Below.then' HB0.out hbw)))
      have hv : numR T = numL (Lib.trimPrefix g.data.toList [120]) := by rw [hT]; rfl
      have hge : -1 ≤ numR T := numL_ge _
      have hle : numR T ≤ 9223372036854775807 := numL_le _
      obtain ⟨v, hvd⟩ : ∃ v, v = numR T := ⟨_, rfl⟩
      rw [← hvd] at HN hv hge hle
      rw [foldN_step a g _ v hv] at hfo
      have HFO := hid hfo
      clear hfo hbw hdr hgd hT hvd hv
      have hltI : (i : Int) < (n : Int) := by omega
      go_wp2_with fail
      refine HT.out.mono ?_
      rintro e w2 ⟨rfl, rfl⟩
      go_wp2_with fail
      refine HN.out.mono ?_
      rintro e w3 ⟨rfl, hb3⟩
      have HB3 := hid (Below.then' HBW.out hb3)
      clear hb3 hc
      by_cases h1 : v < 0
      · have HR : Hid (pN s.data.toList = -1) := by unfold Hid; rw [← HFO.out, if_pos (.inl h1)]
        go_wp2_with fail
        go_ret
        exact ⟨by rw [HR.out]; rfl, Below.then' HB0.out HB3.out⟩
      · by_cases h2 : (1000 : Int) ≤ v
        · have HR : Hid (pN s.data.toList = -1) := by unfold Hid; rw [← HFO.out, if_pos (.inr (.inl h2))]
          go_wp2_with fail
          go_ret
          exact ⟨by rw [HR.out]; rfl, Below.then' HB0.out HB3.out⟩
        · have hq : (4611686018427387904 - v).tdiv 1000 = (4611686018427387904 - v) / 1000 := Int.tdiv_eq_ediv_of_nonneg (by omega)
          have hw1 : wrap64 (4611686018427387904 - v) = 4611686018427387904 - v := wrap64_eq _ _ rfl (by omega) (by omega)
          obtain ⟨q, hqd⟩ : ∃ q, q = (4611686018427387904 - v) / 1000 := ⟨_, rfl⟩
          have hqb : 0 ≤ q ∧ q ≤ 4611686018427387 := by omega
          have hqv : 1000 * q + v ≤ 4611686018427387904 := by omega
          rw [← hqd] at hq HFO
          by_cases h3 : q < a
          · have HR : Hid (pN s.data.toList = -1) := by unfold Hid; rw [← HFO.out, if_pos (.inr (.inr h3))]
            clear hqd HFO
            go_wp2_with fail
            go_ret
            exact ⟨by rw [HR.out]; rfl, Below.then' HB0.out HB3.out⟩
          · have HR : Hid (foldN (1000 * a + v) ((L.drop (i + 1)).map (fun b => b.data.toList)) = pN s.data.toList) := by unfold Hid; rw [← HFO.out, if_neg (by omega)]
            have hm1 : wrap64 (1000 * a) = 1000 * a := wrap64_eq _ _ rfl (by omega) (by omega)
            have hm2 : wrap64 (1000 * a + v) = 1000 * a + v := wrap64_eq _ _ rfl (by omega) (by omega)
            clear hqd HFO
            go_wp2_with fail
            go_roundw
            case rel => exact ⟨i + 1, 1000 * a + v, by go_num, by omega, rfl, by omega, by omega, HR.out, HB3.out⟩
            case measure => simp [intOf]; omega
    · have hin : i = n := by omega
      have HR : Hid (a = pN s.data.toList) := by
        unfold Hid
        rw [← hfo, hin, ← hlen, List.drop_length]
        rfl
      have hltI : ¬ (i : Int) < (n : Int) := by omega
      clear hfo hbw
      go_wp2_with fail
      go_ret
      exact ⟨by rw [HR.out]; rfl, Below.then' HB0.out HBW.out⟩
end Go.Proofs.YtaaldkkfedinpaaDoor
