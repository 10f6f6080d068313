/- Walks of wire.Hashes and the reference's, and what they call. -/
import Derived.Test.YtocjjiacmedjmaaDoorSame
import Derived.Deep.RegionLaw
import Derived.Handy
set_option maxRecDepth 100000
namespace Go.Proofs.YtocjjiacmedjmaaDoor
open Go Go.RowKit

/-- A width out of reach is 32. -/
def widthN (x : Int) : Nat := if x < 1 ∨ 32 < x then 32 else x.toNat
theorem widthN_le (x : Int) : widthN x ≤ 32 := by unfold widthN; split <;> omega
theorem widthN_pos (x : Int) : 1 ≤ widthN x := by unfold widthN; split <;> omega
theorem wire_widthOf (x : Int) (w : World) : Calls Tryd.prog 57 #[.int .i64 x] w fun e w' => e = .returned (.int .i64 (widthN x)) ∧ w = w' := by
  by_cases h1 : x < 1
  · have H : Hid (widthN x = 32) := by unfold Hid widthN; rw [if_pos (by omega)]
    go_enter Tryd.func57, Tryd.ntmps57
    go_wp2_with fail
    go_ret
    exact ⟨by rw [H.out]; rfl, rfl⟩
  · by_cases h2 : 32 < x
    · have H : Hid (widthN x = 32) := by unfold Hid widthN; rw [if_pos (by omega)]
      go_enter Tryd.func57, Tryd.ntmps57
      go_wp2_with fail
      go_ret
      exact ⟨by rw [H.out]; rfl, rfl⟩
    · have H : Hid ((widthN x : Int) = x) := by unfold Hid widthN; rw [if_neg (by omega)]; omega
      go_enter Tryd.func57, Tryd.ntmps57
      go_wp2_with fail
      go_ret
      exact ⟨by rw [H.out]; rfl, rfl⟩
theorem ref2_Width (x : Int) (w : World) : Calls Tryd.prog 37 #[.int .i64 x] w fun e w' => e = .returned (.int .i64 (widthN x)) ∧ w = w' := by
  by_cases h1 : x < 1
  · have H : Hid (widthN x = 32) := by unfold Hid widthN; rw [if_pos (by omega)]
    go_enter Tryd.func37, Tryd.ntmps37
    go_wp2_with fail
    go_ret
    exact ⟨by rw [H.out]; rfl, rfl⟩
  · by_cases h2 : 32 < x
    · have H : Hid (widthN x = 32) := by unfold Hid widthN; rw [if_pos (by omega)]
      go_enter Tryd.func37, Tryd.ntmps37
      go_wp2_with fail
      go_ret
      exact ⟨by rw [H.out]; rfl, rfl⟩
    · have H : Hid ((widthN x : Int) = x) := by unfold Hid widthN; rw [if_neg (by omega)]; omega
      go_enter Tryd.func37, Tryd.ntmps37
      go_wp2_with fail
      go_ret
      exact ⟨by rw [H.out]; rfl, rfl⟩

/-- All strings have n bytes. -/
def sizedB (n : Nat) (xs : List ByteArray) : Bool := xs.all fun s => s.size == n
theorem sized_at {n : Nat} {xs : List ByteArray} (h : sizedB n xs = true) (i : Nat) (hi : i < xs.length) : xs[i].size = n := by
  unfold sizedB at h
  rw [List.all_eq_true] at h
  simpa using h xs[i] (List.getElem_mem hi)
theorem sized_not {n : Nat} {xs : List ByteArray} (i : Nat) (hi : i < xs.length) (h : xs[i].size ≠ n) : sizedB n xs = false := by
  rw [Bool.eq_false_iff]
  intro hs
  exact h (sized_at hs i hi)
theorem sized_all {n : Nat} {xs : List ByteArray} (h : ∀ i (hi : i < xs.length), xs[i].size = n) : sizedB n xs = true := by
  unfold sizedB
  rw [List.all_eq_true]
  intro x hx
  obtain ⟨i, hi, rfl⟩ := List.getElem_of_mem hx
  simpa using h i hi
theorem wire_sized (n : Nat) (ao : Option Addr) (xs : List ByteArray) (cap : Nat) (w : World) (hl : xs.length ≤ 4611686018427387904) (hx : RowAt w ao (strs' xs)) :
    Calls Tryd.prog 58 #[.int .i64 n, .slice ao xs.length cap] w fun e w' => e = .returned (.bool (sizedB n xs)) ∧ w = w' := by
  go_enter Tryd.func58, Tryd.ntmps58
  go_wp2_with fail
  go_loop [6, 9] (fun _ i' => ∃ i : Nat, i' = .int .i64 i ∧ i ≤ xs.length ∧ ∀ k (hk : k < i) (h2 : k < xs.length), (xs[k]'h2).size = n) (fun _ i' => (xs.length - intOf i').toNat)
  case atStart => exact ⟨0, rfl, by omega, fun k hk => absurd hk (by omega)⟩
  case round =>
    obtain ⟨i, rfl, hi, hall⟩ := hrel
    by_cases hlt : i < xs.length
    · obtain ⟨b, off, rfl, hc⟩ := hx.str (k := i) hlt
      have hcell := hc i hlt
      clear hx hc
      by_cases hs : (xs[i]'hlt).size = n
      · have HA : Hid (∀ k (hk : k < i + 1) (h2 : k < xs.length), (xs[k]'h2).size = n) := hid (fun k hk h2 => by
          rcases Nat.lt_or_ge k i with h | h
          · exact hall k h h2
          · obtain rfl : k = i := by omega
            exact hs)
        obtain ⟨y, hy⟩ : ∃ y, y = xs[i]'hlt := ⟨_, rfl⟩
        rw [← hy] at hcell hs
        clear hy hall
        have hs' : ((y.size : Int) == (n : Int)) = true := by rw [hs]; simp
        clear hs
        go_wp2_with fail
        go_round
        case rel => exact ⟨i + 1, by go_num, by omega, HA.out⟩
        case measure => simp [intOf]; omega
      · have HF := hid (sized_not i hlt hs)
        obtain ⟨y, hy⟩ : ∃ y, y = xs[i]'hlt := ⟨_, rfl⟩
        rw [← hy] at hcell hs
        clear hy hall
        have hs' : ((y.size : Int) == (n : Int)) = false := beq_eq_false_iff_ne.2 (by omega)
        clear hs
        go_wp2_with fail
        go_ret
        exact ⟨by rw [HF.out]; rfl, rfl⟩
    · have HF := hid (sized_all (n := n) (xs := xs) (fun k hk => hall k (by omega) hk))
      clear hall hx
      go_wp2_with fail
      go_ret
      exact ⟨by rw [HF.out]; rfl, rfl⟩
theorem ref11_sized (n : Nat) (ao : Option Addr) (xs : List ByteArray) (cap : Nat) (w : World) (hl : xs.length ≤ 4611686018427387904) (hx : RowAt w ao (strs' xs)) :
    Calls Tryd.prog 62 #[.int .i64 n, .slice ao xs.length cap] w fun e w' => e = .returned (.bool (sizedB n xs)) ∧ w = w' := by
  go_enter Tryd.func62, Tryd.ntmps62
  go_wp2_with fail
  go_loop [5] (fun i' => ∃ i : Nat, i' = .int .i64 i ∧ i ≤ xs.length ∧ ∀ k (hk : k < i) (h2 : k < xs.length), (xs[k]'h2).size = n) (fun i' => (xs.length - intOf i').toNat)
  case atStart => exact ⟨0, rfl, by omega, fun k hk => absurd hk (by omega)⟩
  case round =>
    obtain ⟨i, rfl, hi, hall⟩ := hrel
    by_cases hlt : i < xs.length
    · obtain ⟨b, off, rfl, hc⟩ := hx.str (k := i) hlt
      have hcell := hc i hlt
      clear hx hc
      by_cases hs : (xs[i]'hlt).size = n
      · have HA : Hid (∀ k (hk : k < i + 1) (h2 : k < xs.length), (xs[k]'h2).size = n) := hid (fun k hk h2 => by
          rcases Nat.lt_or_ge k i with h | h
          · exact hall k h h2
          · obtain rfl : k = i := by omega
            exact hs)
        obtain ⟨y, hy⟩ : ∃ y, y = xs[i]'hlt := ⟨_, rfl⟩
        rw [← hy] at hcell hs
        clear hy hall
        have hs' : ((y.size : Int) == (n : Int)) = true := by rw [hs]; simp
        clear hs
        go_wp2_with fail
        go_round
        case rel => exact ⟨i + 1, by go_num, by omega, HA.out⟩
        case measure => simp [intOf]; omega
      · have HF := hid (sized_not i hlt hs)
        obtain ⟨y, hy⟩ : ∃ y, y = xs[i]'hlt := ⟨_, rfl⟩
        rw [← hy] at hcell hs
        clear hy hall
        have hs' : ((y.size : Int) == (n : Int)) = false := beq_eq_false_iff_ne.2 (by omega)
        clear hs
        go_wp2_with fail
        go_ret
        exact ⟨by rw [HF.out]; rfl, rfl⟩
    · have HF := hid (sized_all (n := n) (xs := xs) (fun k hk => hall k (by omega) hk))
      clear hall hx
      go_wp2_with fail
      go_ret
      exact ⟨by rw [HF.out]; rfl, rfl⟩

/-- The strings one behind the other. -/
def flatS (xs : List ByteArray) : List UInt8 := xs.flatMap fun s => s.data.toList
theorem flatS_step (xs : List ByteArray) (i : Nat) (hi : i < xs.length) : flatS (xs.take (i + 1)) = flatS (xs.take i) ++ xs[i].data.toList := by
  unfold flatS
  rw [List.take_succ_eq_append_getElem hi, List.flatMap_append, List.flatMap_cons, List.flatMap_nil, List.append_nil]
theorem flatS_len (xs : List ByteArray) (h : ∀ i (hi : i < xs.length), xs[i].size ≤ 4096) (i : Nat) (hi : i ≤ xs.length) : (flatS (xs.take i)).length ≤ 4096 * i := by
  induction i with
  | zero => simp [flatS]
  | succ i ih =>
    rw [flatS_step xs i (by omega), List.length_append]
    have := ih (by omega)
    have h2 := h i (by omega)
    have e : xs[i].data.toList.length = xs[i].size := Array.length_toList
    omega
theorem flatS_all (xs : List ByteArray) (h : ∀ i (hi : i < xs.length), xs[i].size ≤ 4096) : (flatS xs).length ≤ 4096 * xs.length := by
  have := flatS_len xs h xs.length (Nat.le_refl _)
  rwa [List.take_length] at this
theorem ref11_joined (ao : Option Addr) (xs : List ByteArray) (cap : Nat) (w : World) (hl : xs.length ≤ 16777216) (hs : ∀ i (hi : i < xs.length), xs[i].size ≤ 4096) (hx : RowAt w ao (strs' xs)) :
    Calls Tryd.prog 64 #[.slice ao xs.length cap] w fun e w' => e = .returned (.string ⟨(flatS xs).toArray⟩) ∧ Below w.heap.size w w' := by
  have HX := hid hx
  have HS := hid hs
  clear hx hs
  go_enter Tryd.func64, Tryd.ntmps64
  go_wp2_with fail
  go_loopw [3, 4] (fun v' i' wr => ∃ i : Nat, i' = .int .i64 i ∧ i ≤ xs.length ∧ Own w.heap.size v' (flatS (xs.take i)) wr ∧ Below w.heap.size w wr) (fun _ i' _ => (xs.length - intOf i').toNat)
  case atStart => exact ⟨0, rfl, by omega, World.ownsRow_nil _ _ _ _, Below.refl _ _⟩
  case round =>
    obtain ⟨i, rfl, hi, hown, hbw⟩ := hrel
    have HO := hid hown
    have HB := hid hbw
    have hlen := flatS_len xs HS.out i hi
    clear hown
    by_cases hlt : i < xs.length
    · obtain ⟨b, off, rfl, hc⟩ := (HX.out.below hbw).str (k := i) hlt
      have hcell := hc i hlt
      have hsz := HS.out i hlt
      have hst := flatS_step xs i hlt
      obtain ⟨y, hy⟩ : ∃ y, y = xs[i]'hlt := ⟨_, rfl⟩
      rw [← hy] at hcell hsz hst
      have HST := hid hst
      clear hy hc hst hbw
      go_wp2_with (first
        | (at_builtin; refine wp_append_str w.heap.size rfl (.tmp 11) (.tmp 15) 94 9 5 rfl Tryd.underlying94 Tryd.underlying9 info_byte _ (flatS (xs.take i)) _ rfl rfl HO.out HB.out.size (by omega) ?_; intro v4 w4 hown4 hb4; have H4 : Hid (Own w.heap.size v4 (flatS (xs.take (i + 1))) w4) := hid (own_eq hown4 HST.out.symm); have HB4 := hid (HB.out.trans hb4); clear hown4 hb4)
        | fail)
      go_roundw
      case rel => exact ⟨i + 1, by go_num, by omega, H4.out, HB4.out⟩
      case measure => simp [intOf]; omega
    · have hto : xs.take i = xs := List.take_of_length_le (by omega)
      have hconv := conv_own (dst := 9) Tryd.underlying94 Tryd.underlying5 Tryd.underlying9 HO.out
      rw [hto] at hconv
      clear hto hbw
      go_wp2_with fail
      go_ret
      exact ⟨rfl, HB.out⟩
/-- strings.Join with nothing between. -/
theorem intercalate_nil (ls : List (List UInt8)) : Lib.join ls [] = ls.flatten := by
  induction ls with
  | nil => rfl
  | cons x r ih =>
    rw [Lib.join_cons]
    unfold Lib.joinTail
    rw [List.flatten_cons]
    congr 1
    congr 1
    induction r with
    | nil => rfl
    | cons y r ih2 => simp
theorem join_flat (xs : List ByteArray) : Lib.join (xs.map (·.data.toList)) [] = flatS xs := by
  rw [intercalate_nil]
  unfold flatS
  rw [List.flatMap_def]
theorem str_Join (ao : Option Addr) (xs : List ByteArray) (cap : Nat) (w : World) (hl : xs.length ≤ 16777216) (hcap : xs.length ≤ cap) (hs : ∀ i (hi : i < xs.length), xs[i].size ≤ 4096) (hx : RowAt w ao (strs' xs)) :
    Calls Tryd.prog 61 #[.slice ao xs.length cap, .string ⟨#[]⟩] w fun e w' => e = .returned (.string ⟨(flatS xs).toArray⟩) ∧ Below w.heap.size w w' := by
  rcases Nat.eq_zero_or_pos xs.length with h0 | h0
  · obtain rfl : xs = [] := List.eq_nil_of_length_eq_zero h0
    exact (Tryd.strings_Join_none ao cap ⟨#[]⟩ w).mono fun e w' ⟨he, hw⟩ => ⟨he, hw ▸ Below.refl _ _⟩
  · obtain ⟨b, off, rfl, hc⟩ := hx.str (k := 0) h0
    have hf := flatS_all xs hs
    have hj := Tryd.strings_Join b off cap xs ⟨#[]⟩ w (fun j x hj => by
        obtain ⟨hj1, rfl⟩ := List.getElem?_eq_some_iff.1 hj
        exact hc j hj1) (World.block_lt_of_cell? _ _ (hc 0 h0)) (by omega) hcap (by
        show (Lib.join _ []).length ≤ _
        rw [join_flat]; omega)
    refine hj.mono fun e w' ⟨he, hb⟩ => ⟨?_, hb⟩
    rw [he]
    show Ending.returned (.string ⟨(Lib.join _ []).toArray⟩) = _
    rw [join_flat]
/-- string([]byte{x, y}). -/
theorem conv_two {P : Program} (src dst e : TypeId) (hs : P.underlying src = some (.slice e)) (he : P.underlying e = some (.int .u8)) (hd : P.underlying dst = some .string) (x y : Int) (W : World) :
    (convert src dst (.slice (some ⟨W.heap.size, 0, none⟩) 2 2)).run P (W.alloc (.cells #[.int .u8 x, .int .u8 y] e)) = .ok (.string ⟨#[UInt8.ofNat x.toNat, UInt8.ofNat y.toNat]⟩) (W.alloc (.cells #[.int .u8 x, .int .u8 y] e)) := by
  refine run_convert_bytes_arg _ src e hs he W.heap.size 0 2 2 [x, y] rfl (fun i hi => ?_) dst hd
  rcases (show i = 0 ∨ i = 1 by omega) with rfl | rfl <;> simp [go_sem]
theorem wire_head (l n : Nat) (_hl : l < 256) (hn : n < 256) (w : World) :
    Calls Tryd.prog 59 #[.int .u8 l, .int .i64 n] w fun e w' => e = .returned (.string ⟨[UInt8.ofNat l, UInt8.ofNat n].toArray⟩) ∧ Below w.heap.size w w' := by
  have hc := conv_two (P := Tryd.prog) 94 9 5 Tryd.underlying94 Tryd.underlying5 Tryd.underlying9 l n w
  have hwn : IntKind.u8.wrap (n : Int) = n := by simp [IntKind.wrap, IntKind.bits, IntKind.signed]; omega
  go_enter Tryd.func59, Tryd.ntmps59
  go_wp2_with fail
  go_ret
  exact ⟨rfl, (Below.refl _ _).alloc (Nat.le_refl _) _⟩

/-- What is written of hashes. -/
def hashesB (n : Nat) (xs : List ByteArray) : List UInt8 := [72, UInt8.ofNat n] ++ putVar xs.length ++ flatS xs
def hashesR (x : Int) (xs : List ByteArray) : ByteArray × Int :=
  if 256 < xs.length then (⟨#[]⟩, 83) else if sizedB (widthN x) xs then (⟨(hashesB (widthN x) xs).toArray⟩, 0) else (⟨#[]⟩, 72)
theorem wire_Hashes (x : Int) (ao : Option Addr) (xs : List ByteArray) (cap : Nat) (w : World) (hcap : xs.length ≤ cap) (hx : RowAt w ao (strs' xs)) :
    Calls Tryd.prog 33 #[.int .i64 x, .slice ao xs.length cap] w fun e w' => e = .returned (strErr (hashesR x xs)) ∧ Below w.heap.size w w' := by
  have hwd := hid (fun W => wire_widthOf x W)
  have hw32 := widthN_le x
  obtain ⟨n, hn⟩ : ∃ n, n = widthN x := ⟨_, rfl⟩
  rw [← hn] at hwd hw32
  by_cases h : 256 < xs.length
  · have HR : Hid (hashesR x xs = (⟨#[]⟩, 83)) := by unfold Hid hashesR; rw [if_pos h]
    clear hn hx
    go_enter Tryd.func33, Tryd.ntmps33
    go_wp2_with fail
    refine (hwd.out _).mono ?_
    rintro e w' ⟨rfl, rfl⟩
    go_wp2_with fail
    go_ret2
    exact ⟨by rw [HR.out]; rfl, Below.refl _ _⟩
  · have hsz := hid (wire_sized n ao xs cap w (by omega) hx)
    cases hb : sizedB n xs
    · have HR : Hid (hashesR x xs = (⟨#[]⟩, 72)) := by unfold Hid hashesR; rw [if_neg h, if_neg (by rw [← hn, hb]; simp)]
      rw [hb] at hsz
      clear hn hx hb
      go_enter Tryd.func33, Tryd.ntmps33
      go_wp2_with fail
      refine (hwd.out _).mono ?_
      rintro e w' ⟨rfl, rfl⟩
      go_wp2_with fail
      refine hsz.out.mono ?_
      rintro e w' ⟨rfl, rfl⟩
      go_wp2_with fail
      go_ret2
      exact ⟨by rw [HR.out]; rfl, Below.refl _ _⟩
    · have HR : Hid (hashesR x xs = (⟨(hashesB n xs).toArray⟩, 0)) := by unfold Hid hashesR; rw [if_neg h, ← hn, if_pos hb]
      have hs : ∀ i (hi : i < xs.length), xs[i].size ≤ 4096 := fun i hi => by have := sized_at hb i hi; omega
      rw [hb] at hsz
      have hpl := putVar_len 9 xs.length (by omega)
      have hfl := flatS_all xs hs
      have hcat1 : (⟨[UInt8.ofNat 72, UInt8.ofNat n].toArray⟩ : ByteArray).size + (⟨(putVar xs.length).toArray⟩ : ByteArray).size ≤ 9223372036854775807 := by rw [str_size, str_size]; simp; omega
      have hcat2 : (⟨([UInt8.ofNat 72, UInt8.ofNat n] ++ putVar xs.length).toArray⟩ : ByteArray).size + (⟨(flatS xs).toArray⟩ : ByteArray).size ≤ 9223372036854775807 := by rw [str_size, str_size]; simp; omega
      have HC2 := hid hcat2
      have HS := hid hs
      have HX := hid hx
      clear hn hx hb hs hcat2
      go_enter Tryd.func33, Tryd.ntmps33
      go_wp2_with fail
      refine (hwd.out _).mono ?_
      rintro e w' ⟨rfl, rfl⟩
      go_wp2_with fail
      refine hsz.out.mono ?_
      rintro e w' ⟨rfl, rfl⟩
      go_wp2_with fail
      refine (wire_head 72 n (by decide) (by omega) _).mono ?_
      rintro e w1 ⟨rfl, b1⟩
      have B1 := hid b1; clear b1
      go_wp2_with fail
      refine (wire_number xs.length (by omega) _).mono ?_
      rintro e w2 ⟨rfl, b2⟩
      have B2 := hid (Below.then B1.out B1.out.size b2); clear b2
      go_wp2_with fail
      refine (str_Join ao xs cap _ (by omega) hcap HS.out (HX.out.below B2.out)).mono ?_
      rintro e w3 ⟨rfl, b3⟩
      have B3 := hid (Below.then B2.out B2.out.size b3); clear b3
      go_wp2_with fail
      go_ret2
      refine ⟨ret2 ?_ (by rw [HR.out]; rfl), B3.out⟩
      rw [HR.out]
      show Value.string (((⟨[UInt8.ofNat 72, UInt8.ofNat n].toArray⟩ : ByteArray) ++ ⟨(putVar xs.length).toArray⟩) ++ ⟨(flatS xs).toArray⟩) = _
      rw [str_app, str_app]
      rfl

theorem bcell {W w1 : World} (hb : Below W.heap.size W w1) : (∀ b o, b < W.heap.size → w1.cell? ⟨b, o, none⟩ = W.cell? ⟨b, o, none⟩) ∧ (∀ b o, b < W.heap.size → w1.frozen? ⟨b, o, none⟩ = W.frozen? ⟨b, o, none⟩) :=
  ⟨fun b o h => hb.cell (p := ⟨b, o, none⟩) h, fun b o h => hb.frozen (p := ⟨b, o, none⟩) h⟩
theorem cell_ab {w w2 : World} {v : Value} {e : TypeId} (b : Below (w.alloc (.cells #[v] e)).heap.size (w.alloc (.cells #[v] e)) w2) : w2.cell? ⟨w.heap.size, 0, none⟩ = some v := by
  have h := b.cell (p := ⟨w.heap.size, 0, none⟩) (by simp)
  rw [h, World.cell?_alloc_new]; rfl
theorem cell_aa {w w2 : World} {v : Value} {e : TypeId} (b : Below (w.alloc (.cells #[v] e)).drew.heap.size (w.alloc (.cells #[v] e)).drew w2) : w2.cell? ⟨w.heap.size, 0, none⟩ = some v :=
  cell_ab (w := w) (v := v) (e := e) ⟨b.os, b.tape, b.output, b.size, b.block⟩
theorem cell_keep {w w2 : World} {H : Nat} {v : Value} (b : Below w.heap.size w w2) (h : w.cell? ⟨H, 0, none⟩ = some v) : w2.cell? ⟨H, 0, none⟩ = some v :=
  (b.cell (p := ⟨H, 0, none⟩) (World.block_lt_of_cell? _ _ h)).trans h
set_option maxHeartbeats 2000000 in
theorem ref11_Hashes (x : Int) (ao : Option Addr) (xs : List ByteArray) (cap : Nat) (w : World) (hx : RowAt w ao (strs' xs)) :
    Calls Tryd.prog 39 #[.int .i64 x, .slice ao xs.length cap] w fun e w' => e = .returned (strErr (hashesR x xs)) ∧ Below w.heap.size w w' := by
  have hwd := hid (fun W => ref2_Width x W)
  have hw32 := widthN_le x
  obtain ⟨n, hn⟩ : ∃ n, n = widthN x := ⟨_, rfl⟩
  rw [← hn] at hwd hw32
  by_cases h : 256 < xs.length
  · have HR : Hid (hashesR x xs = (⟨#[]⟩, 83)) := by unfold Hid hashesR; rw [if_pos h]
    clear hn hx
    go_enter Tryd.func39, Tryd.ntmps39
    go_wp2_with fail
    refine (hwd.out _).mono ?_
    rintro e w' ⟨rfl, rfl⟩
    go_wp2_with fail
    go_ret2
    exact ⟨by rw [HR.out]; rfl, Below.refl _ _⟩
  · have hsz := hid (ref11_sized n ao xs cap w (by omega) hx)
    cases hb : sizedB n xs
    · have HR : Hid (hashesR x xs = (⟨#[]⟩, 72)) := by unfold Hid hashesR; rw [if_neg h, if_neg (by rw [← hn, hb]; simp)]
      rw [hb] at hsz
      clear hn hx hb
      go_enter Tryd.func39, Tryd.ntmps39
      go_wp2_with fail
      refine (hwd.out _).mono ?_
      rintro e w' ⟨rfl, rfl⟩
      go_wp2_with fail
      refine hsz.out.mono ?_
      rintro e w' ⟨rfl, rfl⟩
      go_wp2_with fail
      go_ret2
      exact ⟨by rw [HR.out]; rfl, Below.refl _ _⟩
    · have HR : Hid (hashesR x xs = (⟨(hashesB n xs).toArray⟩, 0)) := by unfold Hid hashesR; rw [if_neg h, ← hn, if_pos hb]
      have hs : ∀ i (hi : i < xs.length), xs[i].size ≤ 4096 := fun i hi => by have := sized_at hb i hi; omega
      have hpl := putVar_len 9 xs.length (by omega)
      have hfl := flatS_all xs hs
      have hcat0 : (⟨[UInt8.ofNat 72].toArray⟩ : ByteArray).size + (⟨[UInt8.ofNat n].toArray⟩ : ByteArray).size ≤ 9223372036854775807 := by rw [str_size, str_size]; simp
      have hcat1 : (⟨[UInt8.ofNat 72, UInt8.ofNat n].toArray⟩ : ByteArray).size + (⟨(putVar xs.length).toArray⟩ : ByteArray).size ≤ 9223372036854775807 := by rw [str_size, str_size]; simp; omega
      have hwn : IntKind.u8.wrap (n : Int) = n := by simp [IntKind.wrap, IntKind.bits, IntKind.signed]; omega
      have hconv : ∀ (W : World) (k : Nat), W.cell? ⟨k, 0, none⟩ = some (.int .u8 n) → (convert 94 9 (.slice (some ⟨k, 0, none⟩) 1 1)).run Tryd.prog W = .ok (.string ⟨[UInt8.ofNat n].toArray⟩) W := fun W k hc => by
        refine run_convert_bytes_arg _ 94 5 Tryd.underlying94 Tryd.underlying5 k 0 1 1 [(n : Int)] rfl (fun i hi => ?_) 9 Tryd.underlying9
        obtain rfl : i = 0 := by omega
        simpa using hc
      rw [hb] at hsz
      have hn' := hid (fun W => ref11_number xs.length (by omega) W)
      have hj := hid (fun W (hW : Below w.heap.size w W) => ref11_joined ao xs cap W (by omega) hs (hx.below hW))
      clear hn hx hb hs
      go_enter Tryd.func39, Tryd.ntmps39
      go_wp2_with fail
      refine (hwd.out _).mono ?_
      rintro e w' ⟨rfl, rfl⟩
      go_wp2_with fail
      refine hsz.out.mono ?_
      rintro e w' ⟨rfl, rfl⟩
      go_wp2_with fail
      go_region_with (first
        | (go_at_call 63; refine Calls.mono (hn'.out _) ?_; rintro e w2 ⟨rfl, b2⟩; have B2 := fun (h : Below w.heap.size w _) => Below.then h h.size b2; replace B2 := B2 (by go_grown); have hs2 := B2.size; obtain ⟨hc2, hf2⟩ := bcell b2; have hz2 := b2.size; (try simp at hz2); (try (have hlt2 : w.heap.size < w2.heap.size := by omega)); clear b2 hz2)
        | (go_at_call 64; refine Calls.mono (hj.out _ (by go_grown)) ?_; rintro e w3 ⟨rfl, b3⟩; have B3 := fun (h : Below w.heap.size w _) => Below.then h h.size b3; replace B3 := B3 (by go_grown); have hs3 := B3.size; obtain ⟨hc3, hf3⟩ := bcell b3; have hz3 := b3.size; (try simp at hz3); (try (have hlt3 : w.heap.size < w3.heap.size := by omega)); clear b3 hz3))
      all_goals
        go_wp2_with fail
        go_ret2
        refine ⟨ret2 ?_ (by rw [HR.out]; rfl), by go_grown⟩
        rw [HR.out]
        show Value.string (((⟨[UInt8.ofNat 72].toArray⟩ ++ ⟨[UInt8.ofNat n].toArray⟩ : ByteArray) ++ ⟨(putVar xs.length).toArray⟩) ++ ⟨(flatS xs).toArray⟩) = _
        rw [str_app, str_app, str_app]
        rfl
end Go.Proofs.YtocjjiacmedjmaaDoor
