/- The walk of annalslaw9.CheckSound (its last theorems printed by wip/mksound.py). -/
import Derived.Test.YtcgfeeommhljgaaDoorSoundHash
import Derived.Deep.RegionHeld3
import Derived.Test.YtcgfeeommhljgaaDoorCheckMultiWalk
set_option maxRecDepth 100000
namespace Go.Proofs.YtcgfeeommhljgaaDoor
open Go Go.RowKit

def ClashAt (k : Int) (ts us : List ByteArray) (j : Nat) : Prop := ∃ (h1 : j < ts.length) (h2 : j < us.length), ts[j] ≠ us[j] ∧ cutS ts[j].data.toList k = cutS us[j].data.toList k
/-- What each world of the region knows. -/
def ClK (w : World) (A B : Addr) (x y : ByteArray) (w' : World) : Prop := Below w.heap.size w w' ∧ GlobP w' ∧ w'.cell? A = some (.string x) ∧ w'.cell? B = some (.string y)
theorem ClK.step {w : World} {A B : Addr} {x y : ByteArray} {w' w'' : World} (h : ClK w A B x y w') (hb : Below w'.heap.size w' w'') : ClK w A B x y w'' :=
  ⟨Below.then' h.1 hb, GlobP.below h.2.1 hb, (hb.cell (World.block_lt_of_cell? _ _ h.2.2.1)).trans h.2.2.1, (hb.cell (World.block_lt_of_cell? _ _ h.2.2.2)).trans h.2.2.2⟩
theorem ClK.glob {w : World} {A B : Addr} {x y : ByteArray} {w' : World} (h : Hid (ClK w A B x y w')) : GlobP w' := h.out.2.1
theorem ClK.drew {w : World} {A B : Addr} {x y : ByteArray} {w' : World} (h : ClK w A B x y w') : ClK w A B x y w'.drew := h.step (Below.refl _ _).drew
set_option maxHeartbeats 400000 in
theorem law_clash (k : Int) (a1 : Option Addr) (ts : List ByteArray) (c1 : Nat) (a2 : Option Addr) (us : List ByteArray) (c2 : Nat) (w : World) (h1 : RowAt w a1 (strs' ts)) (h2 : RowAt w a2 (strs' us)) (hlen : ts.length = us.length) (hl : ts.length ≤ 4611686018427387904)
    (hs1 : ∀ x ∈ ts, x.size ≤ 1000) (hs2 : ∀ x ∈ us, x.size ≤ 1000) (hg : GlobP w) (hc : Clashes k ts us) :
    Calls Tryd.prog 26 #[.int .i64 k, .slice a1 ts.length c1, .slice a2 us.length c2] w fun e w' => e = .returned (.bool true) ∧ Below w.heap.size w w' := by
  have H1 := hid h1
  have H2 := hid h2
  have HL := hid hlen
  have HG := hid hg
  have HC := hid hc
  have HS1 := hid hs1
  have HS2 := hid hs2
  clear h1 h2 hlen hg hc hs1 hs2
  go_enter Tryd.func26, Tryd.ntmps26
  go_wp2_with fail
  go_loopw [7] (fun i' wr => ∃ i : Nat, i' = .int .i64 i ∧ i ≤ ts.length ∧ (∀ j, j < i → ¬ ClashAt k ts us j) ∧ Below w.heap.size w wr) (fun i' _ => (ts.length - intOf i').toNat)
  case atStart => exact ⟨0, rfl, by omega, fun j h => by omega, Below.refl _ _⟩
  case round =>
    obtain ⟨i, rfl, hi, hno, hbw⟩ := hrel
    have HN := hid hno
    have HB := hid hbw
    clear hno hbw
    by_cases hlt : i < ts.length
    · have hlt2 : i < us.length := by have := HL.out; omega
      obtain ⟨b, off, rfl, hc1⟩ := (H1.out.below HB.out).strG hlt
      obtain ⟨b2, off2, rfl, hc2⟩ := (H2.out.below HB.out).strG hlt2
      have hx1 := hc1 i hlt
      have hy1 := hc2 i hlt2
      have hz1 := HS1.out _ (List.getElem_mem hlt)
      have hz2 := HS2.out _ (List.getElem_mem hlt2)
      have HAt : Hid (ClashAt k ts us i ↔ ts[i] ≠ us[i] ∧ cutS ts[i].data.toList k = cutS us[i].data.toList k) := ⟨fun ⟨_, _, h⟩ => h, fun h => ⟨hlt, hlt2, h⟩⟩
      have HStep : Hid (¬ ClashAt k ts us i → ∀ j, j < i + 1 → ¬ ClashAt k ts us j) := by
        intro h j hj
        rcases Nat.lt_or_ge j i with h' | h'
        · exact HN.out j h'
        · rw [show j = i by omega]; exact h
      obtain ⟨x, hx⟩ : ∃ x, x = ts[i] := ⟨_, rfl⟩
      obtain ⟨y, hy⟩ : ∃ y, y = us[i] := ⟨_, rfl⟩
      rw [← hx] at hx1 hz1 HAt
      rw [← hy] at hy1 hz2 HAt
      clear hc1 hc2 hx hy
      by_cases hxy : x = y
      · have HR := hid (HStep.out (fun h => (HAt.out.1 h).1 hxy))
        subst hxy
        go_wp2_with fail
        go_quiet (fail)
        go_wp2_with fail
        go_roundw
        case rel => exact ⟨i + 1, by go_num, by omega, HR.out, below_drewN HB.out _⟩
        case measure => simp [intOf]; omega
      · have hq := str_ne hxy
        have HCx := hid (fun (W : World) (hW : GlobP W) => sha_Cut x (by omega) k W hW)
        have HCy := hid (fun (W : World) (hW : GlobP W) => sha_Cut y (by omega) k W hW)
        have HGw := hid (HG.out.below HB.out)
        obtain ⟨p, hp⟩ : ∃ p, p = cutS x.data.toList k := ⟨_, rfl⟩
        obtain ⟨q, hqq⟩ : ∃ q, q = cutS y.data.toList k := ⟨_, rfl⟩
        rw [← hp] at HCx
        rw [← hqq] at HCy
        have HAt2 : Hid (ClashAt k ts us i ↔ p = q) := by unfold Hid; rw [HAt.out, hp, hqq]; exact ⟨fun h => h.2, fun h => ⟨hxy, h⟩⟩
        have HK := hid (ClK.drew (⟨HB.out, HGw.out, hx1, hy1⟩ : ClK w ⟨b, off + i, none⟩ ⟨b2, off2 + i, none⟩ x y wr))
        clear hp hqq hxy HAt
        have hi1 : (0 : Int) ≤ (i : Int) := by omega
        have hi2 : (i : Int) < (ts.length : Int) := by omega
        have hi3 : (i : Int) < (us.length : Int) := by omega
        have HI := hid hlt
        clear hz1 hz2 hlt hlt2 hi
        go_wp2_with fail
        go_region_held3 (fun w' => w'.cell? ⟨b, off + i, none⟩ = some (.string x) ∧ w'.cell? ⟨b2, off2 + i, none⟩ = some (.string y)) (go_keep) (first
          | (go_at_call 18; (with_reducible refine Calls.mono (HCx.out _ ?hglob) ?_); (case hglob => exact ClK.glob (show Hid (ClK w ⟨b, off + i, none⟩ ⟨b2, off2 + i, none⟩ x y _) by assumption)); rintro e w5 ⟨rfl, hb5⟩; have HK5 := hid (ClK.step (Hid.out (show Hid (ClK w ⟨b, off + i, none⟩ ⟨b2, off2 + i, none⟩ x y _) by assumption)) hb5); have hc51 := HK5.out.2.2.1; have hc52 := HK5.out.2.2.2; clear hb5)
          | (go_at_call 18; (with_reducible refine Calls.mono (HCy.out _ ?hglob) ?_); (case hglob => exact ClK.glob (show Hid (ClK w ⟨b, off + i, none⟩ ⟨b2, off2 + i, none⟩ x y _) by assumption)); rintro e w6 ⟨rfl, hb6⟩; have HK6 := hid (ClK.step (Hid.out (show Hid (ClK w ⟨b, off + i, none⟩ ⟨b2, off2 + i, none⟩ x y _) by assumption)) hb6); have hc61 := HK6.out.2.2.1; have hc62 := HK6.out.2.2.2; clear hb6))
        by_cases hpq : p = q
        · have hq2 : (p.toList == q.toList) = true := by rw [hpq]; simp
          rw [hq2]
          clear hpq hq2
          go_wp2_with fail
          go_ret
          exact ⟨rfl, HK6.out.1⟩
        · have hq2 := str_ne hpq
          have HR := hid (HStep.out (fun h => hpq (HAt2.out.1 h)))
          rw [hq2]
          clear hpq hq2
          go_wp2_with fail
          go_roundw
          case rel => exact ⟨i + 1, by go_num, by have := HI.out; omega, HR.out, HK6.out.1⟩
          case measure => have := HI.out; simp [intOf]; omega
    · exfalso
      obtain ⟨j, j1, j2, j3⟩ := HC.out
      exact HN.out j (by omega) ⟨j1, j2, j3⟩
end Go.Proofs.YtcgfeeommhljgaaDoor
set_option maxRecDepth 100000
namespace Go.Proofs.YtcgfeeommhljgaaDoor
open Go Go.RowKit

theorem multi_zero (k n : Int) (xs : List Int) (hashes proof : List ByteArray) (root : ByteArray) (h : multiN k n xs hashes proof root = 0) :
    0 < n ∧ Rises xs n ∧ fits (wid k) hashes ∧ fits (wid k) proof ∧ leafN (hasA xs) 0 n.toNat = hashes.length ∧ sideN (hasA xs) 0 n.toNat = proof.length ∧ reckS k (hasA xs) hashes proof 0 n.toNat 0 0 = root := by
  unfold multiN at h
  split at h
  · rename_i h1; exact absurd h h1
  · rename_i h1
    simp only [ne_eq, Decidable.not_not] at h1
    split at h
    · omega
    · rename_i h2
      simp only [ne_eq, Decidable.not_not] at h2
      obtain ⟨q1, hq⟩ : ∃ q1, countN 4 0 0 n xs = (q1, 0) := ⟨(countN 4 0 0 n xs).1, Prod.ext rfl h1⟩
      rw [hq] at h
      obtain ⟨h0, _, hr, he⟩ := count4_ok n xs q1 hq
      unfold gathN at h
      split at h
      · rename_i h3; exact absurd h h3
      · rename_i h3
        simp only [ne_eq, Decidable.not_not] at h3
        obtain ⟨f1, f2, f3⟩ := sized_zero h3
        obtain ⟨m, rfl⟩ := Int.eq_ofNat_of_zero_le (show 0 ≤ n by omega)
        rw [Int.toNat_natCast] at *
        split at h
        · rename_i h4
          refine ⟨h0, hr, fun x hx => f1 x (List.mem_append_left _ hx), f2, ?_, ?_, h4⟩
          · rw [leafA xs m hr (by omega), h2]
          · rw [sideA _ _ _ (by omega)]; omega
        · omega
theorem nodeT_size (l r : ByteArray) : (nodeT l r).size = 1 + l.size + r.size := by
  have := congrArg List.length (nodeT_list l r)
  simp at this
  omega
theorem textS_size (k : Int) (h : Nat → Nat → Nat) (xs ys : List ByteArray) (hx : ∀ x ∈ xs, x.size ≤ 32) (hy : ∀ y ∈ ys, y.size ≤ 32) (N : Nat) : ∀ a b u v, b - a ≤ N → ∀ t ∈ textS k h xs ys a b u v, t.size ≤ 1000 := by
  induction N with
  | zero =>
    intro a b u v hN t ht
    by_cases e : h a b = 0
    · rw [textS_none _ _ _ _ _ _ _ _ e] at ht; cases ht
    · rw [textS_one _ _ _ _ _ _ _ _ e (by omega)] at ht; cases ht
  | succ N ih =>
    intro a b u v hN t ht
    by_cases e : h a b = 0
    · rw [textS_none _ _ _ _ _ _ _ _ e] at ht; cases ht
    · by_cases hn : b - a ≤ 1
      · rw [textS_one _ _ _ _ _ _ _ _ e hn] at ht; cases ht
      · have hs := sp_lt (b - a) (by omega)
        have hp := sp_pos (b - a)
        rw [textS_some _ _ _ _ _ _ _ _ e (by omega)] at ht
        rcases List.mem_append.1 ht with ht | ht
        · rcases List.mem_append.1 ht with ht | ht
          · exact ih _ _ _ _ (by omega) t ht
          · exact ih _ _ _ _ (by omega) t ht
        · rw [List.mem_singleton] at ht
          subst ht
          rw [nodeT_size]
          have h1 := reckS_size h a (a + sp (b - a)) k xs ys u v hx hy
          have h2 := reckS_size h (a + sp (b - a)) b k xs ys (u + leafN h a (a + sp (b - a))) (v + sideN h a (a + sp (b - a))) hx hy
          omega
theorem Arr.grown {B : Nat} {ty : TypeId} {cs : List Value} {w w' : World} {t : Nat} (h : Arr B ty cs w) (hg : w.grownBy w' (Option.some t)) (ht : B ≠ t) : Arr B ty cs w' :=
  (hg.block B h.lt (by simpa using ht)).trans h
theorem walk_begin {B tb : Nat} {ty : TypeId} {a1 a2 : Option Addr} {c1 c2 : Nat} {xs ys : List ByteArray} {W : World} (h : Arr tb ty [.slice a1 xs.length c1, .slice a2 ys.length c2, .int .i64 0, .int .i64 0, .slice none 0 0] W) (hB : B ≤ tb)
    (r1 : RowU B W a1 (strs' xs)) (r2 : RowU B W a2 (strs' ys)) : WalkAt B tb W.heap.size xs ys 0 0 [] W :=
  ⟨hB, h.lt, Nat.le_refl _, h.frozen 2, h.frozen 3, h.frozen 4, ⟨a1, c1, h.cell 0 (by simp), r1⟩, ⟨a2, c2, h.cell 1 (by simp), r2⟩, h.cell 2 (by simp), h.cell 3 (by simp), ⟨_, h.cell 4 (by simp), World.ownsRow_nil W _ _ _⟩⟩
theorem own_row2 {w : World} {base e n : Nat} {v : Value} {xs : List Value} (h : w.ownsRow base e 1 v n xs) : ∃ ao cap, v = .slice ao n cap ∧ n ≤ cap ∧ (ao = none → n = 0 ∧ cap = 0) ∧ RowAt w ao xs := by
  have hl : xs.length = n := by have := h.1; omega
  by_cases h0 : 0 < xs.length
  · obtain ⟨g, cap, hv, _, hc, _, _, _, hcell⟩ := own_form h h0
    exact ⟨some ⟨g, 0, none⟩, cap, by rw [hv, hl], by omega, by simp, .inr ⟨g, 0, rfl, fun i hi => by rw [Nat.zero_add]; exact hcell i hi⟩⟩
  · have hx : xs = [] := List.eq_nil_of_length_eq_zero (by omega)
    rcases h.2 with ⟨hv, hn⟩ | ⟨g, cap, cur, hv, _, _, hc, _⟩
    · exact ⟨none, 0, by rw [hv, hn], by omega, fun _ => ⟨hn, rfl⟩, .inl hx⟩
    · exact ⟨some ⟨g, 0, none⟩, cap, hv, hc, by simp, .inl hx⟩
/-- The texts of a walk, kept while another's block is written. -/
theorem WalkAt.rowKept {B tb lim : Nat} {xs ys ts : List ByteArray} {u v t : Nat} {w w' : World} (h : WalkAt B tb lim xs ys u v ts w) (hg : w.grownBy w' (some t)) (hne : tb ≠ t) (ht : t < lim) :
    ∃ ao cap, w'.cell? ⟨tb, 4, none⟩ = some (.slice ao ts.length cap) ∧ RowAt w' ao (strs' ts) := by
  obtain ⟨val, h5, h6⟩ := h.texts
  have hlt := Nat.lt_of_lt_of_le h.lt h.size
  have ho : w'.ownsRow lim 9 1 val (strs' ts).length (strs' ts) := h6.kept (row := some t) hg (by
    rcases h6.2 with h0 | ⟨g, cap, cur, hv, hg2, _⟩
    · rw [h0.1]; simp [Value.ownBlock]
    · rw [hv]; simp [Value.ownBlock]; omega)
  obtain ⟨ao, cap, hv, _, _, hr⟩ := own_row2 ho
  refine ⟨ao, cap, ?_, hr⟩
  have hc : w'.cell? ⟨tb, 4, none⟩ = w.cell? ⟨tb, 4, none⟩ := by
    have := hg.block tb hlt (by simpa using hne)
    simp [World.cell?, this]
  rw [hc, h5, hv, strs'_length]
theorem WalkAt.row {B tb lim : Nat} {xs ys ts : List ByteArray} {u v : Nat} {w : World} (h : WalkAt B tb lim xs ys u v ts w) :
    ∃ ao cap, w.cell? ⟨tb, 4, none⟩ = some (.slice ao ts.length cap) ∧ RowAt w ao (strs' ts) := by
  obtain ⟨val, h5, h6⟩ := h.texts
  obtain ⟨ao, cap, hv, _, _, hr⟩ := own_row2 h6
  exact ⟨ao, cap, by rw [h5, hv, strs'_length], hr⟩
end Go.Proofs.YtcgfeeommhljgaaDoor
set_option maxRecDepth 100000
namespace Go.Proofs.YtcgfeeommhljgaaDoor
open Go Go.RowKit

theorem RowOff.below {tb : Nat} {w w' : World} {ao : Option Addr} {cs : List Value} (h : RowOff tb w ao cs) (hb : Below w.heap.size w w') : RowOff tb w' ao cs := by
  rcases h with h | ⟨b, off, e, hne, hc⟩
  · exact .inl h
  · exact .inr ⟨b, off, e, hne, fun i hi => (hb.cell (World.block_lt_of_cell? _ _ (hc i hi))).trans (hc i hi)⟩
/-- The two claims' boxes. -/
structure At2 (w : World) (s1 s2 u1 u2 : Value) (W : World) : Prop where
  b : Below w.heap.size w W
  x : Arr w.heap.size 45 [s1, s2] W
  y : Arr (w.heap.size + 1) 45 [u1, u2] W
theorem At2.start (w : World) (s1 s2 u1 u2 : Value) : At2 w s1 s2 u1 u2 ((w.alloc (.cells #[s1, s2] 45)).alloc (.cells #[u1, u2] 45)) :=
  ⟨((Below.refl _ _).alloc (Nat.le_refl _) _).alloc (by simp) _, (Arr.new w _ [s1, s2]).alloc _, by
    have := Arr.new (w.alloc (.cells #[s1, s2] 45)) 45 [u1, u2]
    rwa [show (w.alloc (.cells #[s1, s2] 45)).heap.size = w.heap.size + 1 by simp] at this⟩
theorem At2.step {w : World} {s1 s2 u1 u2 : Value} {W W' : World} (h : At2 w s1 s2 u1 u2 W) (hb : Below W.heap.size W W') : At2 w s1 s2 u1 u2 W' :=
  ⟨Below.then' h.b hb, h.x.below hb, h.y.below hb⟩
theorem At2.cells {w : World} {s1 s2 u1 u2 : Value} {W : World} (h : At2 w s1 s2 u1 u2 W) : W.cell? ⟨w.heap.size, 0, none⟩ = some s1 ∧ W.cell? ⟨w.heap.size, 1, none⟩ = some s2 ∧ W.cell? ⟨w.heap.size + 1, 0, none⟩ = some u1 ∧ W.cell? ⟨w.heap.size + 1, 1, none⟩ = some u2 :=
  ⟨h.x.cell 0 (by simp), h.x.cell 1 (by simp), h.y.cell 0 (by simp), h.y.cell 1 (by simp)⟩
theorem At2.cellsA {w : World} {s1 s2 u1 u2 : Value} {W : World} (h : At2 w s1 s2 u1 u2 W) : (∀ o : Obj, (W.alloc o).cell? ⟨w.heap.size + 1, 0, none⟩ = some u1) ∧ ∀ o : Obj, (W.alloc o).cell? ⟨w.heap.size + 1, 1, none⟩ = some u2 :=
  ⟨fun o => (h.y.alloc o).cell 0 (by simp), fun o => (h.y.alloc o).cell 1 (by simp)⟩
/-- Behind the second walk: both rows of texts. -/
def Ends (w : World) (tb : Nat) (ts us : List ByteArray) (W : World) : Prop :=
  (∃ ao cap bo dap, W.cell? ⟨tb, 4, none⟩ = some (.slice ao ts.length cap) ∧ RowAt W ao (strs' ts) ∧ W.cell? ⟨tb + 1, 4, none⟩ = some (.slice bo us.length dap) ∧ RowAt W bo (strs' us)) ∧ GlobP W ∧ Below w.heap.size w W

theorem sound_x (k : Int) (m : Nat) (ai : Option Addr) (ps : List Int) (di : Nat) (a1 : Option Addr) (hs : List ByteArray) (d1 : Nat) (a2 : Option Addr) (xs : List ByteArray) (d2 : Nat) (b1 : Option Addr) (gs : List ByteArray) (e1 : Nat) (b2 : Option Addr) (zs : List ByteArray) (e2 : Nat) (root : ByteArray)
    (w : World) (hxi : RowAt w ai (ints ps)) (hx1 : RowAt w a1 (strs' hs)) (hx2 : RowAt w a2 (strs' xs)) (_hy1 : RowAt w b1 (strs' gs)) (_hy2 : RowAt w b2 (strs' zs)) (hg : GlobP w)
    (hm : m ≤ 1048576) (hps : ps.length ≤ 64) (l1 : hs.length * 16 ≤ 140737488351232) (l2 : xs.length * 16 ≤ 140737488351232) (_l3 : gs.length * 16 ≤ 140737488351232) (_l4 : zs.length * 16 ≤ 140737488351232)
    (r1 : multiN k m ps hs xs root = 0) (_r2 : multiN k m ps gs zs root = 0)
    (W : World) (hW : Below w.heap.size w W) :
    Calls Tryd.prog 25 #[.pointer (some ⟨W.heap.size, 0, none⟩), .int .i64 k, .int .i64 0, .int .i64 m, .slice ai ps.length di] ((W.alloc (.cells #[.slice a1 hs.length d1, .slice a2 xs.length d2, .int .i64 0, .int .i64 0, .slice none 0 0] 49)).alloc (.cells #[.slice b1 gs.length e1, .slice b2 zs.length e2, .int .i64 0, .int .i64 0, .slice none 0 0] 49)) fun e w6 =>
      e = .returned (.string root) ∧ (∃ u v, WalkAt w.heap.size W.heap.size (W.heap.size + 2) hs xs u v (textS k (hasA ps) hs xs 0 m 0 0) w6) ∧ ((W.alloc (.cells #[.slice a1 hs.length d1, .slice a2 xs.length d2, .int .i64 0, .int .i64 0, .slice none 0 0] 49)).alloc (.cells #[.slice b1 gs.length e1, .slice b2 zs.length e2, .int .i64 0, .int .i64 0, .slice none 0 0] 49)).grownBy w6 (some W.heap.size) := by
  obtain ⟨h0, hr, f1, f2, hlf, hsd, hrk⟩ := multi_zero k m ps hs xs root r1
  rw [Int.toNat_natCast] at hlf hsd hrk
  have hw := (wid_le k).1
  have hww := hW.size
  have hB6 : Below w.heap.size w ((W.alloc (.cells #[.slice a1 hs.length d1, .slice a2 xs.length d2, .int .i64 0, .int .i64 0, .slice none 0 0] 49)).alloc (.cells #[.slice b1 gs.length e1, .slice b2 zs.length e2, .int .i64 0, .int .i64 0, .slice none 0 0] 49)) := (hW.alloc hW.size _).alloc (by simp; omega) _
  have ha := (Arr.new W 49 [.slice a1 hs.length d1, .slice a2 xs.length d2, .int .i64 0, .int .i64 0, .slice none 0 0]).alloc (.cells #[.slice b1 gs.length e1, .slice b2 zs.length e2, .int .i64 0, .int .i64 0, .slice none 0 0] 49)
  have hwk := walk_begin (B := w.heap.size) ha hww ((RowU.of hx1).below hB6) ((RowU.of hx2).below hB6)
  have hg6 := hg.below hB6
  have h := walk_hash k ps m hr (by omega) ai di hs xs (fun x hx => by rw [f1 x hx]; omega) (fun x hx => by rw [f2 x hx]; omega) (by omega) (by omega) w.heap.size W.heap.size _
    (by have := (hg.below hW).lt1; omega) (by have := (hg.below hW).lt2; omega) hg6 ((RowOff.of hxi hww).below hB6) m 0 m 0 0 [] (by omega) (by omega) hm (by simp; omega) (by omega) (by omega) _ (grownBy_refl _ _) hwk
  refine h.mono ?_
  rintro e w6 ⟨rfl, h1, h2⟩
  rw [List.nil_append] at h1
  have hz : ((W.alloc (.cells #[.slice a1 hs.length d1, .slice a2 xs.length d2, .int .i64 0, .int .i64 0, .slice none 0 0] 49)).alloc (.cells #[.slice b1 gs.length e1, .slice b2 zs.length e2, .int .i64 0, .int .i64 0, .slice none 0 0] 49)).heap.size = W.heap.size + 2 := by simp
  rw [hz] at h1
  exact ⟨by rw [hrk], ⟨_, _, h1⟩, h2⟩
theorem sound_y (k : Int) (m : Nat) (ai : Option Addr) (ps : List Int) (di : Nat) (a1 : Option Addr) (hs : List ByteArray) (d1 : Nat) (a2 : Option Addr) (xs : List ByteArray) (d2 : Nat) (b1 : Option Addr) (gs : List ByteArray) (e1 : Nat) (b2 : Option Addr) (zs : List ByteArray) (e2 : Nat) (root : ByteArray)
    (w : World) (hxi : RowAt w ai (ints ps)) (_hx1 : RowAt w a1 (strs' hs)) (_hx2 : RowAt w a2 (strs' xs)) (hy1 : RowAt w b1 (strs' gs)) (hy2 : RowAt w b2 (strs' zs)) (hg : GlobP w)
    (hm : m ≤ 1048576) (hps : ps.length ≤ 64) (_l1 : hs.length * 16 ≤ 140737488351232) (_l2 : xs.length * 16 ≤ 140737488351232) (l3 : gs.length * 16 ≤ 140737488351232) (l4 : zs.length * 16 ≤ 140737488351232)
    (_r1 : multiN k m ps hs xs root = 0) (r2 : multiN k m ps gs zs root = 0)
    (_hne : ¬ (hs = gs ∧ xs = zs)) (W : World) (hW : Below w.heap.size w W) (w6 : World) (hk : ∃ u v, WalkAt w.heap.size W.heap.size (W.heap.size + 2) hs xs u v (textS k (hasA ps) hs xs 0 m 0 0) w6) (hgr : ((W.alloc (.cells #[.slice a1 hs.length d1, .slice a2 xs.length d2, .int .i64 0, .int .i64 0, .slice none 0 0] 49)).alloc (.cells #[.slice b1 gs.length e1, .slice b2 zs.length e2, .int .i64 0, .int .i64 0, .slice none 0 0] 49)).grownBy w6 (some W.heap.size)) :
    Calls Tryd.prog 25 #[.pointer (some ⟨W.heap.size + 1, 0, none⟩), .int .i64 k, .int .i64 0, .int .i64 m, .slice ai ps.length di] w6 fun e w7 =>
      e = .returned (.string root) ∧ Ends w W.heap.size (textS k (hasA ps) hs xs 0 m 0 0) (textS k (hasA ps) gs zs 0 m 0 0) w7 := by
  obtain ⟨h0, hr, f1, f2, hlf, hsd, hrk⟩ := multi_zero k m ps gs zs root r2
  rw [Int.toNat_natCast] at hlf hsd hrk
  have hw := (wid_le k).1
  have hww := hW.size
  have hB6 : Below w.heap.size w ((W.alloc (.cells #[.slice a1 hs.length d1, .slice a2 xs.length d2, .int .i64 0, .int .i64 0, .slice none 0 0] 49)).alloc (.cells #[.slice b1 gs.length e1, .slice b2 zs.length e2, .int .i64 0, .int .i64 0, .slice none 0 0] 49)) := (hW.alloc hW.size _).alloc (by simp; omega) _
  have hB7 : Below w.heap.size w w6 := hB6.grown hgr (by simp; omega) (by rintro k ⟨rfl⟩; omega)
  have ha := (Arr.new (W.alloc (.cells #[.slice a1 hs.length d1, .slice a2 xs.length d2, .int .i64 0, .int .i64 0, .slice none 0 0] 49)) 49 [.slice b1 gs.length e1, .slice b2 zs.length e2, .int .i64 0, .int .i64 0, .slice none 0 0])
  rw [show (W.alloc (.cells #[.slice a1 hs.length d1, .slice a2 xs.length d2, .int .i64 0, .int .i64 0, .slice none 0 0] 49)).heap.size = W.heap.size + 1 by simp] at ha
  have ha6 := ha.grown hgr (by omega)
  have hwk := walk_begin (B := w.heap.size) ha6 (by omega) ((RowU.of hy1).below hB7) ((RowU.of hy2).below hB7)
  have hg6 := hg.below hB7
  have h := walk_hash k ps m hr (by omega) ai di gs zs (fun x hx => by rw [f1 x hx]; omega) (fun x hx => by rw [f2 x hx]; omega) (by omega) (by omega) w.heap.size (W.heap.size + 1) _
    (by have := (hg.below hW).lt1; omega) (by have := (hg.below hW).lt2; omega) hg6 ((RowOff.of hxi (by omega)).below hB7) m 0 m 0 0 [] (by omega) (by omega) hm (by simp; omega) (by omega) (by omega) _ (grownBy_refl _ _) hwk
  refine h.mono ?_
  rintro e w7 ⟨rfl, h1, h2⟩
  rw [List.nil_append] at h1
  obtain ⟨u, v, hk⟩ := hk
  obtain ⟨ao, cap, c1, c2⟩ := hk.rowKept h2 (by omega) (by omega)
  obtain ⟨bo, dap, c3, c4⟩ := h1.row
  exact ⟨by rw [hrk], ⟨ao, cap, bo, dap, c1, c2, c3, c4⟩, hg6.grown h2 (by have := (hg.below hW).lt1; omega) (by have := (hg.below hW).lt2; omega), hB7.grown h2 hB7.size (by rintro k ⟨rfl⟩; omega)⟩

set_option maxHeartbeats 1000000 in
theorem law_CheckSound (k n : Int) (ai : Option Addr) (ps : List Int) (di : Nat) (a1 : Option Addr) (hs : List ByteArray) (d1 : Nat) (a2 : Option Addr) (xs : List ByteArray) (d2 : Nat) (b1 : Option Addr) (gs : List ByteArray) (e1 : Nat) (b2 : Option Addr) (zs : List ByteArray) (e2 : Nat) (root : ByteArray)
    (w : World) (_bk : -9223372036854775808 ≤ k ∧ k ≤ 9223372036854775807) (_bn : -9223372036854775808 ≤ n ∧ n ≤ 9223372036854775807) (hxi : RowAt w ai (ints ps)) (_haoi : ai = none → ps.length = 0 ∧ di = 0) (hli : ps.length * 8 ≤ 140737488351232)
    (hx1 : RowAt w a1 (strs' hs)) (n1 : a1 = none → hs.length = 0 ∧ d1 = 0) (l1 : hs.length * 16 ≤ 140737488351232) (k1 : hs.length ≤ d1) (hx2 : RowAt w a2 (strs' xs)) (n2 : a2 = none → xs.length = 0 ∧ d2 = 0) (l2 : xs.length * 16 ≤ 140737488351232) (k2 : xs.length ≤ d2)
    (hy1 : RowAt w b1 (strs' gs)) (n3 : b1 = none → gs.length = 0 ∧ e1 = 0) (l3 : gs.length * 16 ≤ 140737488351232) (k3 : gs.length ≤ e1) (hy2 : RowAt w b2 (strs' zs)) (n4 : b2 = none → zs.length = 0 ∧ e2 = 0) (l4 : zs.length * 16 ≤ 140737488351232) (k4 : zs.length ≤ e2)
    (_sr : root.data.toList.length ≤ 140737488351232) (hg : GlobP w) :
    Calls Tryd.prog 6 #[.int .i64 k, .int .i64 n, .slice ai ps.length di, .agg #[(.slice a1 hs.length d1), (.slice a2 xs.length d2)], .agg #[(.slice b1 gs.length e1), (.slice b2 zs.length e2)], .string root] w fun e w' => e = .returned (.bool true) ∧ Below w.heap.size w w' := by
  have HI := hid hxi
  have HG := hid hg
  have HM1 := hid (fun (W : World) (hW : Below w.heap.size w W) => check_Multi k n ai ps di a1 hs d1 a2 xs d2 root n1 n2 k1 k2 hli l1 l2 W (hxi.below hW) (hx1.below hW) (hx2.below hW) (hg.below hW))
  have HM2 := hid (fun (W : World) (hW : Below w.heap.size w W) => check_Multi k n ai ps di b1 gs e1 b2 zs e2 root n3 n4 k3 k4 hli l3 l4 W (hxi.below hW) (hy1.below hW) (hy2.below hW) (hg.below hW))
  have HU1 := hid (fun (W : World) (hW : Below w.heap.size w W) => law_unlike a1 hs d1 b1 gs e1 W (hx1.below hW) (hy1.below hW) (by omega))
  have HU2 := hid (fun (W : World) (hW : Below w.heap.size w W) => law_unlike a2 xs d2 b2 zs e2 W (hx2.below hW) (hy2.below hW) (by omega))
  have HAll : Hid (∀ m : Nat, n = m → m ≤ 1048576 → ps.length ≤ 64 → multiN k n ps hs xs root = 0 → multiN k n ps gs zs root = 0 → ¬ (hs = gs ∧ xs = zs) → ∃ ts us : List ByteArray,
      (ts.length = us.length ∧ ts.length ≤ 4611686018427387904 ∧ (∀ x ∈ ts, x.size ≤ 1000) ∧ (∀ x ∈ us, x.size ≤ 1000) ∧ Clashes k ts us) ∧
      (∀ (W : World), Below w.heap.size w W → Calls Tryd.prog 25 #[.pointer (some ⟨W.heap.size, 0, none⟩), .int .i64 k, .int .i64 0, .int .i64 m, .slice ai ps.length di] ((W.alloc (.cells #[.slice a1 hs.length d1, .slice a2 xs.length d2, .int .i64 0, .int .i64 0, .slice none 0 0] 49)).alloc (.cells #[.slice b1 gs.length e1, .slice b2 zs.length e2, .int .i64 0, .int .i64 0, .slice none 0 0] 49)) fun e w6 =>
        e = .returned (.string root) ∧ (∃ u v, WalkAt w.heap.size W.heap.size (W.heap.size + 2) hs xs u v ts w6) ∧ ((W.alloc (.cells #[.slice a1 hs.length d1, .slice a2 xs.length d2, .int .i64 0, .int .i64 0, .slice none 0 0] 49)).alloc (.cells #[.slice b1 gs.length e1, .slice b2 zs.length e2, .int .i64 0, .int .i64 0, .slice none 0 0] 49)).grownBy w6 (some W.heap.size)) ∧
      (∀ (W : World), Below w.heap.size w W → ∀ w6 : World, (∃ u v, WalkAt w.heap.size W.heap.size (W.heap.size + 2) hs xs u v ts w6) → ((W.alloc (.cells #[.slice a1 hs.length d1, .slice a2 xs.length d2, .int .i64 0, .int .i64 0, .slice none 0 0] 49)).alloc (.cells #[.slice b1 gs.length e1, .slice b2 zs.length e2, .int .i64 0, .int .i64 0, .slice none 0 0] 49)).grownBy w6 (some W.heap.size) →
        Calls Tryd.prog 25 #[.pointer (some ⟨W.heap.size + 1, 0, none⟩), .int .i64 k, .int .i64 0, .int .i64 m, .slice ai ps.length di] w6 fun e w7 => e = .returned (.string root) ∧ Ends w W.heap.size ts us w7)) := by
    intro m hn hm hps r1 r2 hne
    subst hn
    obtain ⟨h0, hr, f1, f2, hlf, hsd, hrk⟩ := multi_zero k m ps hs xs root r1
    obtain ⟨_, _, f3, f4, hlf2, hsd2, hrk2⟩ := multi_zero k m ps gs zs root r2
    rw [Int.toNat_natCast] at *
    have hw := (wid_le k).1
    refine ⟨textS k (hasA ps) hs xs 0 m 0 0, textS k (hasA ps) gs zs 0 m 0 0, ⟨textS_len k (hasA ps) hs xs gs zs m 0 m 0 0 (by omega), ?_, ?_, ?_, ?_⟩, ?_, ?_⟩
    · have := textS_le k (hasA ps) hs xs m 0 m 0 0 (by omega) (by omega); omega
    · exact textS_size k (hasA ps) hs xs (fun x hx => by rw [f1 x hx]; omega) (fun x hx => by rw [f2 x hx]; omega) m 0 m 0 0 (by omega)
    · exact textS_size k (hasA ps) gs zs (fun x hx => by rw [f3 x hx]; omega) (fun x hx => by rw [f4 x hx]; omega) m 0 m 0 0 (by omega)
    · rcases sound k (hasA ps) hs xs gs zs f1 f2 f3 f4 m (by omega) hlf hlf2 hsd hsd2 (hrk.trans hrk2.symm) with h | h
      · exact absurd h hne
      · exact h
    · exact fun W hW => sound_x k m ai ps di a1 hs d1 a2 xs d2 b1 gs e1 b2 zs e2 root w hxi hx1 hx2 hy1 hy2 hg hm hps l1 l2 l3 l4 r1 r2 W hW
    · exact fun W hW w6 hk hgr => sound_y k m ai ps di a1 hs d1 a2 xs d2 b1 gs e1 b2 zs e2 root w hxi hx1 hx2 hy1 hy2 hg hm hps l1 l2 l3 l4 r1 r2 hne W hW w6 hk hgr
  have hpl : (ps.length : Int) ≤ 9223372036854775807 := by omega
  clear hxi hg hx1 hx2 hy1 hy2 n1 n2 n3 n4 k1 k2 k3 k4 l1 l2 l3 l4 hli
  by_cases c1 : n < 1
  · go_enter Tryd.func6, Tryd.ntmps6
    go_wp2_with fail
    refine (law_begun _).mono ?_
    rintro e w1 ⟨rfl, hb1⟩
    have K1 := hid ((At2.start w (.slice a1 hs.length d1) (.slice a2 xs.length d2) (.slice b1 gs.length e1) (.slice b2 zs.length e2)).step hb1)
    obtain ⟨q1, q2, q3, q4⟩ := K1.out.cells
    clear hb1
    go_wp2_with fail
    go_ret
    exact ⟨rfl, K1.out.b⟩
  by_cases c2 : (1048576 : Int) < n
  · go_enter Tryd.func6, Tryd.ntmps6
    go_wp2_with fail
    refine (law_begun _).mono ?_
    rintro e w1 ⟨rfl, hb1⟩
    have K1 := hid ((At2.start w (.slice a1 hs.length d1) (.slice a2 xs.length d2) (.slice b1 gs.length e1) (.slice b2 zs.length e2)).step hb1)
    obtain ⟨q1, q2, q3, q4⟩ := K1.out.cells
    clear hb1
    go_wp2_with fail
    go_ret
    exact ⟨rfl, K1.out.b⟩
  by_cases c3 : (64 : Int) < (ps.length : Int)
  · go_enter Tryd.func6, Tryd.ntmps6
    go_wp2_with fail
    refine (law_begun _).mono ?_
    rintro e w1 ⟨rfl, hb1⟩
    have K1 := hid ((At2.start w (.slice a1 hs.length d1) (.slice a2 xs.length d2) (.slice b1 gs.length e1) (.slice b2 zs.length e2)).step hb1)
    obtain ⟨q1, q2, q3, q4⟩ := K1.out.cells
    clear hb1
    go_wp2_with fail
    go_ret
    exact ⟨rfl, K1.out.b⟩
  obtain ⟨m, rfl⟩ := Int.eq_ofNat_of_zero_le (show 0 ≤ n by omega)
  have HA := hid (HAll.out m rfl (by omega) (by omega))
  clear HAll
  generalize multiN k m ps hs xs root = v1 at *
  generalize multiN k m ps gs zs root = v2 at *
  by_cases z1 : v1 = 0
  rotate_left
  · have hb1 : (v1 != 0) = true := by simpa using z1
    clear HA HU1 HU2 z1
    go_enter Tryd.func6, Tryd.ntmps6
    go_wp2_with fail
    refine (law_begun _).mono ?_
    rintro e w1 ⟨rfl, hb1⟩
    have K1 := hid ((At2.start w (.slice a1 hs.length d1) (.slice a2 xs.length d2) (.slice b1 gs.length e1) (.slice b2 zs.length e2)).step hb1)
    obtain ⟨q1, q2, q3, q4⟩ := K1.out.cells
    clear hb1
    go_wp2_with fail
    refine (HM1.out _ K1.out.b).mono ?_
    rintro e w2 ⟨rfl, hb⟩
    have K2 := hid (K1.out.step hb)
    clear q1 q2 q3 q4
    obtain ⟨q1, q2, q3, q4⟩ := K2.out.cells
    clear hb
    go_wp2_with fail
    refine (HM2.out _ K2.out.b).mono ?_
    rintro e w3 ⟨rfl, hb⟩
    have K3 := hid (K2.out.step hb)
    clear q1 q2 q3 q4
    obtain ⟨q1, q2, q3, q4⟩ := K3.out.cells
    clear hb
    go_wp2_with fail
    go_ret
    exact ⟨rfl, K3.out.b⟩
  by_cases z2 : v2 = 0
  rotate_left
  · have hb1 : (v2 != 0) = true := by simpa using z2
    subst z1
    clear HA HU1 HU2 z2
    go_enter Tryd.func6, Tryd.ntmps6
    go_wp2_with fail
    refine (law_begun _).mono ?_
    rintro e w1 ⟨rfl, hb1⟩
    have K1 := hid ((At2.start w (.slice a1 hs.length d1) (.slice a2 xs.length d2) (.slice b1 gs.length e1) (.slice b2 zs.length e2)).step hb1)
    obtain ⟨q1, q2, q3, q4⟩ := K1.out.cells
    clear hb1
    go_wp2_with fail
    refine (HM1.out _ K1.out.b).mono ?_
    rintro e w2 ⟨rfl, hb⟩
    have K2 := hid (K1.out.step hb)
    clear q1 q2 q3 q4
    obtain ⟨q1, q2, q3, q4⟩ := K2.out.cells
    clear hb
    go_wp2_with fail
    refine (HM2.out _ K2.out.b).mono ?_
    rintro e w3 ⟨rfl, hb⟩
    have K3 := hid (K2.out.step hb)
    clear q1 q2 q3 q4
    obtain ⟨q1, q2, q3, q4⟩ := K3.out.cells
    clear hb
    go_wp2_with fail
    go_ret
    exact ⟨rfl, K3.out.b⟩
  subst z1 z2
  have HB := hid (HA.out rfl rfl)
  clear HA
  by_cases y1 : hs = gs
  · by_cases y2 : xs = zs
    · rw [decide_eq_false (by simpa using y1)] at HU1
      rw [decide_eq_false (by simpa using y2)] at HU2
      clear HB y1 y2
      go_enter Tryd.func6, Tryd.ntmps6
      go_wp2_with fail
      refine (law_begun _).mono ?_
      rintro e w1 ⟨rfl, hb1⟩
      have K1 := hid ((At2.start w (.slice a1 hs.length d1) (.slice a2 xs.length d2) (.slice b1 gs.length e1) (.slice b2 zs.length e2)).step hb1)
      obtain ⟨q1, q2, q3, q4⟩ := K1.out.cells
      clear hb1
      go_wp2_with fail
      refine (HM1.out _ K1.out.b).mono ?_
      rintro e w2 ⟨rfl, hb⟩
      have K2 := hid (K1.out.step hb)
      clear q1 q2 q3 q4
      obtain ⟨q1, q2, q3, q4⟩ := K2.out.cells
      clear hb
      go_wp2_with fail
      refine (HM2.out _ K2.out.b).mono ?_
      rintro e w3 ⟨rfl, hb⟩
      have K3 := hid (K2.out.step hb)
      clear q1 q2 q3 q4
      obtain ⟨q1, q2, q3, q4⟩ := K3.out.cells
      clear hb
      go_wp2_with fail
      refine (HU1.out _ K3.out.b).mono ?_
      rintro e w4 ⟨rfl, hb⟩
      have K4 := hid (K3.out.step hb)
      clear q1 q2 q3 q4
      obtain ⟨q1, q2, q3, q4⟩ := K4.out.cells
      clear hb
      go_wp2_with fail
      refine (HU2.out _ K4.out.b).mono ?_
      rintro e w5 ⟨rfl, hb⟩
      have K5 := hid (K4.out.step hb)
      clear q1 q2 q3 q4
      obtain ⟨q1, q2, q3, q4⟩ := K5.out.cells
      clear hb
      go_wp2_with fail
      go_ret
      exact ⟨rfl, K5.out.b⟩
    · rw [decide_eq_false (by simpa using y1)] at HU1
      rw [decide_eq_true (by simpa using y2)] at HU2
      obtain ⟨ts, us, hT, hX, hY⟩ := HB.out (fun h => y2 h.2)
      have HT := hid hT
      have HX := hid hX
      have HY := hid hY
      clear HB y1 y2 hT hX hY
      go_enter Tryd.func6, Tryd.ntmps6
      go_wp2_with fail
      refine (law_begun _).mono ?_
      rintro e w1 ⟨rfl, hb1⟩
      have K1 := hid ((At2.start w (.slice a1 hs.length d1) (.slice a2 xs.length d2) (.slice b1 gs.length e1) (.slice b2 zs.length e2)).step hb1)
      obtain ⟨q1, q2, q3, q4⟩ := K1.out.cells
      clear hb1
      go_wp2_with fail
      refine (HM1.out _ K1.out.b).mono ?_
      rintro e w2 ⟨rfl, hb⟩
      have K2 := hid (K1.out.step hb)
      clear q1 q2 q3 q4
      obtain ⟨q1, q2, q3, q4⟩ := K2.out.cells
      clear hb
      go_wp2_with fail
      refine (HM2.out _ K2.out.b).mono ?_
      rintro e w3 ⟨rfl, hb⟩
      have K3 := hid (K2.out.step hb)
      clear q1 q2 q3 q4
      obtain ⟨q1, q2, q3, q4⟩ := K3.out.cells
      clear hb
      go_wp2_with fail
      refine (HU1.out _ K3.out.b).mono ?_
      rintro e w4 ⟨rfl, hb⟩
      have K4 := hid (K3.out.step hb)
      clear q1 q2 q3 q4
      obtain ⟨q1, q2, q3, q4⟩ := K4.out.cells
      clear hb
      go_wp2_with fail
      refine (HU2.out _ K4.out.b).mono ?_
      rintro e w5 ⟨rfl, hb⟩
      have K5 := hid (K4.out.step hb)
      clear q1 q2 q3 q4
      obtain ⟨q1, q2, q3, q4⟩ := K5.out.cells
      clear hb
      obtain ⟨q5, q6⟩ := K5.out.cellsA
      go_wp2_with fail
      refine (HX.out _ K5.out.b).mono ?_
      rintro e w7 ⟨rfl, hk, hgr⟩
      have HK := hid hk
      have HGr := hid hgr
      clear hk hgr q1 q2 q3 q4 q5 q6
      go_wp2_with fail
      refine (HY.out _ K5.out.b _ HK.out HGr.out).mono ?_
      rintro e w8 ⟨rfl, hE⟩
      obtain ⟨⟨ao, cap, bo, dap, c1, f1, c2, f2⟩, hg8, hb8⟩ := hE
      have HE := hid hb8
      have HCl := hid (fun (W : World) (hW : Below w8.heap.size w8 W) => law_clash k ao ts cap bo us dap W (f1.below hW) (f2.below hW) HT.out.1 HT.out.2.1 HT.out.2.2.1 HT.out.2.2.2.1 (hg8.below hW) HT.out.2.2.2.2)
      clear f1 f2 hg8 hb8
      have hrr : (root.toList == root.toList) = true := by simp
      go_wp2_with fail
      go_region_held3 (fun W => W.cell? ⟨w5.heap.size, 4, none⟩ = some (.slice ao ts.length cap) ∧ W.cell? ⟨w5.heap.size + 1, 4, none⟩ = some (.slice bo us.length dap)) (go_keep) ((go_at_call 26; (with_reducible refine Calls.mono (HCl.out _ ?hbel) ?_); (case hbel => exact (Below.refl _ _).drew); rintro e w9 ⟨rfl, hb9⟩; have hc91 := (hb9.cell (World.block_lt_of_cell? _ _ c1)).trans c1; have hc92 := (hb9.cell (World.block_lt_of_cell? _ _ c2)).trans c2; have HE9 := hid (Below.then' HE.out (Below.then' (Below.refl _ _).drew hb9)); clear hb9))
      go_wp2_with fail
      go_ret
      exact ⟨rfl, HE9.out⟩
  · rw [decide_eq_true (by simpa using y1)] at HU1
    obtain ⟨ts, us, hT, hX, hY⟩ := HB.out (fun h => y1 h.1)
    have HT := hid hT
    have HX := hid hX
    have HY := hid hY
    clear HB y1 hT hX hY HU2
    go_enter Tryd.func6, Tryd.ntmps6
    go_wp2_with fail
    refine (law_begun _).mono ?_
    rintro e w1 ⟨rfl, hb1⟩
    have K1 := hid ((At2.start w (.slice a1 hs.length d1) (.slice a2 xs.length d2) (.slice b1 gs.length e1) (.slice b2 zs.length e2)).step hb1)
    obtain ⟨q1, q2, q3, q4⟩ := K1.out.cells
    clear hb1
    go_wp2_with fail
    refine (HM1.out _ K1.out.b).mono ?_
    rintro e w2 ⟨rfl, hb⟩
    have K2 := hid (K1.out.step hb)
    clear q1 q2 q3 q4
    obtain ⟨q1, q2, q3, q4⟩ := K2.out.cells
    clear hb
    go_wp2_with fail
    refine (HM2.out _ K2.out.b).mono ?_
    rintro e w3 ⟨rfl, hb⟩
    have K3 := hid (K2.out.step hb)
    clear q1 q2 q3 q4
    obtain ⟨q1, q2, q3, q4⟩ := K3.out.cells
    clear hb
    go_wp2_with fail
    refine (HU1.out _ K3.out.b).mono ?_
    rintro e w4 ⟨rfl, hb⟩
    have K4 := hid (K3.out.step hb)
    clear q1 q2 q3 q4
    obtain ⟨q1, q2, q3, q4⟩ := K4.out.cells
    clear hb
    obtain ⟨q5, q6⟩ := K4.out.cellsA
    go_wp2_with fail
    refine (HX.out _ K4.out.b).mono ?_
    rintro e w7 ⟨rfl, hk, hgr⟩
    have HK := hid hk
    have HGr := hid hgr
    clear hk hgr q1 q2 q3 q4 q5 q6
    go_wp2_with fail
    refine (HY.out _ K4.out.b _ HK.out HGr.out).mono ?_
    rintro e w8 ⟨rfl, hE⟩
    obtain ⟨⟨ao, cap, bo, dap, c1, f1, c2, f2⟩, hg8, hb8⟩ := hE
    have HE := hid hb8
    have HCl := hid (fun (W : World) (hW : Below w8.heap.size w8 W) => law_clash k ao ts cap bo us dap W (f1.below hW) (f2.below hW) HT.out.1 HT.out.2.1 HT.out.2.2.1 HT.out.2.2.2.1 (hg8.below hW) HT.out.2.2.2.2)
    clear f1 f2 hg8 hb8
    have hrr : (root.toList == root.toList) = true := by simp
    go_wp2_with fail
    go_region_held3 (fun W => W.cell? ⟨w4.heap.size, 4, none⟩ = some (.slice ao ts.length cap) ∧ W.cell? ⟨w4.heap.size + 1, 4, none⟩ = some (.slice bo us.length dap)) (go_keep) ((go_at_call 26; (with_reducible refine Calls.mono (HCl.out _ ?hbel) ?_); (case hbel => exact (Below.refl _ _).drew); rintro e w9 ⟨rfl, hb9⟩; have hc91 := (hb9.cell (World.block_lt_of_cell? _ _ c1)).trans c1; have hc92 := (hb9.cell (World.block_lt_of_cell? _ _ c2)).trans c2; have HE9 := hid (Below.then' HE.out (Below.then' (Below.refl _ _).drew hb9)); clear hb9))
    go_wp2_with fail
    go_ret
    exact ⟨rfl, HE9.out⟩
end Go.Proofs.YtcgfeeommhljgaaDoor
