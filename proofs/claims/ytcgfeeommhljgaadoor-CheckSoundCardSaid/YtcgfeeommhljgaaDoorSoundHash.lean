/- The law's walk.hash. -/
import Derived.Test.YtcgfeeommhljgaaDoorReck
import Derived.Test.YtcgfeeommhljgaaDoorCountLaw
import Derived.Test.YtcgfeeommhljgaaDoorIncl2
import Derived.Test.YtcgfeeommhljgaaDoorRTaken
import Derived.Test.YtcgfeeommhljgaaDoorRefReck
set_option maxRecDepth 100000
namespace Go.Proofs.YtcgfeeommhljgaaDoor

/-- The texts of a part's nodes, each behind those below it. -/
def nodeT (l r : ByteArray) : ByteArray := ⟨#[1]⟩ ++ l ++ r
def textS (k : Int) (h : Nat → Nat → Nat) (xs ys : List ByteArray) (a b u v : Nat) : List ByteArray :=
  if h a b = 0 then [] else if _hn : b - a ≤ 1 then [] else
  textS k h xs ys a (a + sp (b - a)) u v ++ textS k h xs ys (a + sp (b - a)) b (u + leafN h a (a + sp (b - a))) (v + sideN h a (a + sp (b - a))) ++
  [nodeT (reckS k h xs ys a (a + sp (b - a)) u v) (reckS k h xs ys (a + sp (b - a)) b (u + leafN h a (a + sp (b - a))) (v + sideN h a (a + sp (b - a))))]
termination_by b - a
decreasing_by
  · have := sp_lt (b - a) (by omega); omega
  · have := sp_pos (b - a); have := sp_lt (b - a) (by omega); omega
section
variable (k : Int) (h : Nat → Nat → Nat) (xs ys : List ByteArray) (a b u v : Nat)
theorem textS_none (e : h a b = 0) : textS k h xs ys a b u v = [] := by rw [textS, if_pos e]
theorem textS_one (e : h a b ≠ 0) (hn : b - a ≤ 1) : textS k h xs ys a b u v = [] := by rw [textS, if_neg e, dif_pos hn]
theorem textS_some (e : h a b ≠ 0) (hn : 2 ≤ b - a) : textS k h xs ys a b u v = textS k h xs ys a (a + sp (b - a)) u v ++ textS k h xs ys (a + sp (b - a)) b (u + leafN h a (a + sp (b - a))) (v + sideN h a (a + sp (b - a))) ++
    [nodeT (reckS k h xs ys a (a + sp (b - a)) u v) (reckS k h xs ys (a + sp (b - a)) b (u + leafN h a (a + sp (b - a))) (v + sideN h a (a + sp (b - a))))] := by
  rw [textS, if_neg e, dif_neg (by omega)]
end
theorem nodeT_list (l r : ByteArray) : (nodeT l r).data.toList = 1 :: (l.data.toList ++ r.data.toList) := by unfold nodeT; simp
theorem nodeT_hash (k : Int) (l r : ByteArray) : cutS (nodeT l r).data.toList k = nodeS k l r := by rw [nodeT_list]; rfl
theorem bytes_ext {l r : ByteArray} (h : l.data.toList = r.data.toList) : l = r := by
  cases l; cases r
  simp only [ByteArray.mk.injEq]
  exact Array.toList_inj.1 h
theorem nodeT_inj {l r l' r' : ByteArray} (hs : l.size = l'.size) (h : nodeT l r = nodeT l' r') : l = l' ∧ r = r' := by
  have e := congrArg (fun b => b.data.toList) h
  simp only [nodeT_list, List.cons.injEq, true_and] at e
  have hl : l.data.toList.length = l'.data.toList.length := by simpa using hs
  obtain ⟨e1, e2⟩ := List.append_inj e hl
  exact ⟨bytes_ext e1, bytes_ext e2⟩
/-- At one place two unlike texts with one hash. -/
def Clashes (k : Int) (ts us : List ByteArray) : Prop := ∃ (i : Nat) (h1 : i < ts.length) (h2 : i < us.length), ts[i] ≠ us[i] ∧ cutS ts[i].data.toList k = cutS us[i].data.toList k
theorem Clashes.left {k : Int} {ts us : List ByteArray} (h : Clashes k ts us) (ps qs : List ByteArray) : Clashes k (ts ++ ps) (us ++ qs) := by
  obtain ⟨i, h1, h2, h3⟩ := h
  exact ⟨i, by simp; omega, by simp; omega, by rw [List.getElem_append_left h1, List.getElem_append_left h2]; exact h3⟩
theorem Clashes.right {k : Int} {ps qs : List ByteArray} (h : Clashes k ps qs) {ts us : List ByteArray} (hl : ts.length = us.length) : Clashes k (ts ++ ps) (us ++ qs) := by
  obtain ⟨i, h1, h2, h3⟩ := h
  refine ⟨ts.length + i, by simp; omega, by simp; omega, ?_⟩
  rw [List.getElem_append_right (by omega), List.getElem_append_right (by omega)]
  simp only [Nat.add_sub_cancel_left, show ts.length + i - us.length = i by omega]
  exact h3
theorem textS_len (k : Int) (h : Nat → Nat → Nat) (xs ys xs' ys' : List ByteArray) (N : Nat) : ∀ a b u v, b - a ≤ N → (textS k h xs ys a b u v).length = (textS k h xs' ys' a b u v).length := by
  induction N with
  | zero =>
    intro a b u v hN
    by_cases e : h a b = 0
    · rw [textS_none _ _ _ _ _ _ _ _ e, textS_none _ _ _ _ _ _ _ _ e]
    · rw [textS_one _ _ _ _ _ _ _ _ e (by omega), textS_one _ _ _ _ _ _ _ _ e (by omega)]
  | succ N ih =>
    intro a b u v hN
    by_cases e : h a b = 0
    · rw [textS_none _ _ _ _ _ _ _ _ e, textS_none _ _ _ _ _ _ _ _ e]
    · by_cases hn : b - a ≤ 1
      · rw [textS_one _ _ _ _ _ _ _ _ e hn, textS_one _ _ _ _ _ _ _ _ e hn]
      · have hs := sp_lt (b - a) (by omega)
        have hp := sp_pos (b - a)
        rw [textS_some _ _ _ _ _ _ _ _ e (by omega), textS_some _ _ _ _ _ _ _ _ e (by omega)]
        simp only [List.length_append, List.length_singleton]
        rw [ih _ _ _ _ (by omega), ih (a + sp (b - a)) b _ _ (by omega)]
theorem getD_mem (xs : List ByteArray) (i : Nat) (h : i < xs.length) : xs.getD i ⟨#[]⟩ ∈ xs := by
  rw [List.getD_eq_getElem?_getD, List.getElem?_eq_getElem h]; exact List.getElem_mem h
theorem reckS_wide (k : Int) (h : Nat → Nat → Nat) (xs ys : List ByteArray) (hx : fits (wid k) xs) (hy : fits (wid k) ys) (a b u v : Nat) (hu : u + leafN h a b ≤ xs.length) (hv : v + sideN h a b ≤ ys.length) : (reckS k h xs ys a b u v).size = wid k := by
  by_cases e : h a b = 0
  · rw [sideN_none h a b e] at hv
    rw [reckS_none _ _ _ _ _ _ _ _ e]
    exact hy _ (getD_mem ys v (by omega))
  · by_cases hn : b - a ≤ 1
    · rw [leafN_one h a b e hn] at hu
      rw [reckS_one _ _ _ _ _ _ _ _ e hn]
      exact hx _ (getD_mem xs u (by omega))
    · rw [reckS_some _ _ _ _ _ _ _ _ e (by omega)]
      exact nodeS_size _ _ _
/-- The same from p up to q. -/
def SameIn (xs xs' : List ByteArray) (p q : Nat) : Prop := ∀ j, p ≤ j → j < q → xs.getD j ⟨#[]⟩ = xs'.getD j ⟨#[]⟩
theorem sound_k (k : Int) (h : Nat → Nat → Nat) (xs ys xs' ys' : List ByteArray) (hx : fits (wid k) xs) (hy : fits (wid k) ys) (hx' : fits (wid k) xs') (hy' : fits (wid k) ys') (hlx : xs.length = xs'.length) (hly : ys.length = ys'.length) (N : Nat) :
    ∀ a b u v, b - a ≤ N → a < b → u + leafN h a b ≤ xs.length → v + sideN h a b ≤ ys.length → reckS k h xs ys a b u v = reckS k h xs' ys' a b u v →
    (SameIn xs xs' u (u + leafN h a b) ∧ SameIn ys ys' v (v + sideN h a b)) ∨ Clashes k (textS k h xs ys a b u v) (textS k h xs' ys' a b u v) := by
  induction N with
  | zero => intro a b u v hN hab; omega
  | succ N ih =>
    intro a b u v hN hab hu hv he
    by_cases e : h a b = 0
    · rw [reckS_none _ _ _ _ _ _ _ _ e, reckS_none _ _ _ _ _ _ _ _ e] at he
      rw [leafN_none h a b e, sideN_none h a b e]
      exact .inl ⟨fun j h1 h2 => by omega, fun j h1 h2 => by rw [show j = v by omega]; exact he⟩
    · by_cases hn : b - a ≤ 1
      · rw [reckS_one _ _ _ _ _ _ _ _ e hn, reckS_one _ _ _ _ _ _ _ _ e hn] at he
        rw [leafN_one h a b e hn, sideN_one h a b e hn]
        exact .inl ⟨fun j h1 h2 => by rw [show j = u by omega]; exact he, fun j h1 h2 => by omega⟩
      · have hs := sp_lt (b - a) (by omega)
        have hp := sp_pos (b - a)
        have hL := leafN_some h a b e (by omega)
        have hS := sideN_some h a b e (by omega)
        rw [hL] at hu ⊢
        rw [hS] at hv ⊢
        rw [reckS_some _ _ _ _ _ _ _ _ e (by omega), reckS_some _ _ _ _ _ _ _ _ e (by omega)] at he
        rw [textS_some _ _ _ _ _ _ _ _ e (by omega), textS_some _ _ _ _ _ _ _ _ e (by omega)]
        have hl1 := textS_len k h xs ys xs' ys' N a (a + sp (b - a)) u v (by omega)
        have hl2 := textS_len k h xs ys xs' ys' N (a + sp (b - a)) b (u + leafN h a (a + sp (b - a))) (v + sideN h a (a + sp (b - a))) (by omega)
        by_cases ht : nodeT (reckS k h xs ys a (a + sp (b - a)) u v) (reckS k h xs ys (a + sp (b - a)) b (u + leafN h a (a + sp (b - a))) (v + sideN h a (a + sp (b - a)))) = nodeT (reckS k h xs' ys' a (a + sp (b - a)) u v) (reckS k h xs' ys' (a + sp (b - a)) b (u + leafN h a (a + sp (b - a))) (v + sideN h a (a + sp (b - a))))
        · obtain ⟨e1, e2⟩ := nodeT_inj (by rw [reckS_wide k h xs ys hx hy _ _ _ _ (by omega) (by omega), reckS_wide k h xs' ys' hx' hy' _ _ _ _ (by omega) (by omega)]) ht
          rcases ih a (a + sp (b - a)) u v (by omega) (by omega) (by omega) (by omega) e1 with ⟨s1, s2⟩ | c
          · rcases ih (a + sp (b - a)) b _ _ (by omega) (by omega) (by omega) (by omega) e2 with ⟨s3, s4⟩ | c
            · left
              constructor
              · intro j h1 h2
                by_cases hj : j < u + leafN h a (a + sp (b - a))
                · exact s1 j h1 hj
                · exact s3 j (by omega) (by omega)
              · intro j h1 h2
                by_cases hj : j < v + sideN h a (a + sp (b - a))
                · exact s2 j h1 hj
                · exact s4 j (by omega) (by omega)
            · exact .inr ((c.right hl1).left _ _)
          · exact .inr ((c.left _ _).left _ _)
        · right
          refine Clashes.right ?_ (by rw [List.length_append, List.length_append, hl1, hl2])
          exact ⟨0, by simp, by simp, by simpa using ht, by simpa [nodeT_hash] using he⟩
theorem sameIn_eq (xs xs' : List ByteArray) (hl : xs.length = xs'.length) (h : SameIn xs xs' 0 xs.length) : xs = xs' := by
  refine List.ext_getElem hl fun i h1 h2 => ?_
  have := h i (by omega) h1
  rw [List.getD_eq_getElem?_getD, List.getD_eq_getElem?_getD, List.getElem?_eq_getElem h1, List.getElem?_eq_getElem h2] at this
  exact this
/-- Two claims with one root. -/
theorem sound (k : Int) (h : Nat → Nat → Nat) (xs ys xs' ys' : List ByteArray) (hx : fits (wid k) xs) (hy : fits (wid k) ys) (hx' : fits (wid k) xs') (hy' : fits (wid k) ys') (n : Nat) (h0 : 0 < n)
    (l1 : leafN h 0 n = xs.length) (l2 : leafN h 0 n = xs'.length) (l3 : sideN h 0 n = ys.length) (l4 : sideN h 0 n = ys'.length) (he : reckS k h xs ys 0 n 0 0 = reckS k h xs' ys' 0 n 0 0) :
    (xs = xs' ∧ ys = ys') ∨ Clashes k (textS k h xs ys 0 n 0 0) (textS k h xs' ys' 0 n 0 0) := by
  rcases sound_k k h xs ys xs' ys' hx hy hx' hy' (by omega) (by omega) n 0 n 0 0 (by omega) h0 (by omega) (by omega) he with ⟨s1, s2⟩ | c
  · rw [Nat.zero_add, l1] at s1
    rw [Nat.zero_add, l3] at s2
    exact .inl ⟨sameIn_eq _ _ (by omega) s1, sameIn_eq _ _ (by omega) s2⟩
  · exact .inr c
end Go.Proofs.YtcgfeeommhljgaaDoor
set_option maxRecDepth 100000
namespace Go.Proofs.YtcgfeeommhljgaaDoor
open Go Go.RowKit

theorem ret_bl {a b : Bool} (h : a = b) : Ending.returned (.bool a) = .returned (.bool b) := by rw [h]

theorem law_split (n : Int) (h1 : 1 ≤ n) (h2 : n ≤ 4611686018427387904) (w : World) :
    Calls Tryd.prog 59 #[.int .i64 n] w fun e w' => e = .returned (.int .i64 (sp n.toNat)) ∧ w = w' := by
  obtain ⟨n, rfl⟩ := Int.eq_ofNat_of_zero_le (show 0 ≤ n by omega)
  rw [Int.toNat_natCast]
  go_enter Tryd.func59, Tryd.ntmps59
  go_wp2_with fail
  go_loop [3] (fun k' => ∃ k j : Nat, k' = .int .i64 k ∧ k = 2 ^ j ∧ (k = 1 ∨ k < n)) (fun k' => (n - intOf k').toNat)
  case atStart => exact ⟨1, 0, rfl, rfl, Or.inl rfl⟩
  case round =>
    obtain ⟨k, j, rfl, hk, hk2⟩ := hrel
    have hp : 0 < k := by rw [hk]; exact Nat.pow_pos (by omega)
    have HK := hid hk; clear hk
    have hb : k ≤ 4611686018427387904 := by omega
    by_cases hlt : k ≤ (n - 1) / 2
    · go_wp2_with fail
      go_round
      case rel => exact ⟨2 * k, j + 1, by go_num, by have := HK.out; rw [Nat.pow_succ]; omega, by omega⟩
      case measure => simp [intOf]; omega
    · have hs : sp n = k := by
        by_cases hn : n ≤ 1
        · rw [sp_small n hn]; omega
        · have := HK.out; subst this; exact sp_unique n j (by omega) (by omega)
      have HS := hid hs; clear hs
      go_wp2_with fail
      go_ret
      exact ⟨ret_int (by rw [HS.out]), rfl⟩

theorem inside_next (xs : List Int) (a b : Int) (i : Nat) (h : i < xs.length) (h0 : inside (xs.take i) a b = []) (hc : ¬ (a ≤ xs[i] ∧ xs[i] < b)) : inside (xs.take (i + 1)) a b = [] := by
  rw [inside_take xs a b i h, h0, if_neg hc]; rfl
theorem law_some (ao : Option Addr) (xs : List Int) (cap : Nat) (a b : Int) (w : World) (hx : RowAt w ao (ints xs)) (hl : xs.length ≤ 4611686018427387904) :
    Calls Tryd.prog 56 #[.slice ao xs.length cap, .int .i64 a, .int .i64 b] w fun e w' => e = .returned (.bool (decide ((inside xs a b).length ≠ 0))) ∧ w = w' := by
  have HX := hid hx
  clear hx
  obtain ⟨d, hd⟩ : ∃ d, d = decide ((inside xs a b).length ≠ 0) := ⟨_, rfl⟩
  rw [← hd]
  have HD := hid hd
  clear hd
  go_enter Tryd.func56, Tryd.ntmps56
  go_wp2_with fail
  go_loop [7] (fun i' => ∃ i : Nat, i' = .int .i64 i ∧ i ≤ xs.length ∧ inside (xs.take i) a b = []) (fun i' => (xs.length - intOf i').toNat)
  case atStart => exact ⟨0, rfl, by omega, rfl⟩
  case round =>
    obtain ⟨i, rfl, hi, hin⟩ := hrel
    have HIn := hid hin
    clear hin
    by_cases hlt : i < xs.length
    · obtain ⟨bb, off, rfl, hc⟩ := HX.out.int (k := i) hlt
      have hc1 := hc i hlt
      have HN := hid (inside_next xs a b i hlt HIn.out)
      have HSo := hid (inside_some xs a b i hlt)
      obtain ⟨y, hy⟩ : ∃ y, y = xs[i] := ⟨_, rfl⟩
      rw [← hy] at hc1 HN HSo
      clear hc hy
      by_cases c1 : a ≤ y
      · by_cases c2 : y < b
        · have HR : Hid (d = true) := by unfold Hid; rw [HD.out, decide_eq_true_iff]; exact HSo.out ⟨c1, c2⟩
          go_wp2_with fail
          go_ret
          exact ⟨ret_bl HR.out.symm, rfl⟩
        · have HR := hid (HN.out (by omega))
          go_wp2_with fail
          go_round
          case rel => exact ⟨i + 1, by go_num, by omega, HR.out⟩
          case measure => simp [intOf]; omega
      · have HR := hid (HN.out (by omega))
        go_wp2_with fail
        go_round
        case rel => exact ⟨i + 1, by go_num, by omega, HR.out⟩
        case measure => simp [intOf]; omega
    · have HR : Hid (d = false) := by
        unfold Hid; rw [HD.out, decide_eq_false_iff_not]
        have := HIn.out
        rw [List.take_of_length_le (by omega)] at this
        simp [this]
      go_wp2_with fail
      go_ret
      exact ⟨ret_bl HR.out.symm, rfl⟩

theorem take_snoc_eq (xs ys : List ByteArray) (i : Nat) (h : i < xs.length) (h2 : i < ys.length) (h0 : xs.take i = ys.take i) (he : xs[i] = ys[i]) : xs.take (i + 1) = ys.take (i + 1) := by
  rw [List.take_succ_eq_append_getElem h, List.take_succ_eq_append_getElem h2, h0, he]
theorem law_unlike (ao : Option Addr) (xs : List ByteArray) (cap : Nat) (ao2 : Option Addr) (ys : List ByteArray) (cap2 : Nat) (w : World) (hx : RowAt w ao (strs' xs)) (hy : RowAt w ao2 (strs' ys)) (hl : xs.length ≤ 4611686018427387904) :
    Calls Tryd.prog 24 #[.slice ao xs.length cap, .slice ao2 ys.length cap2] w fun e w' => e = .returned (.bool (decide (xs ≠ ys))) ∧ Below w.heap.size w w' := by
  obtain ⟨d, hd⟩ : ∃ d, d = decide (xs ≠ ys) := ⟨_, rfl⟩
  rw [← hd]
  have HD := hid hd
  have HX := hid hx
  have HY := hid hy
  clear hd hx hy
  by_cases hlen : xs.length = ys.length
  · have hlI : ((xs.length : Int) != (ys.length : Int)) = false := by simp [hlen]
    have HLen := hid hlen
    clear hlen
    go_enter Tryd.func24, Tryd.ntmps24
    go_wp2_with fail
    go_loopw [5] (fun i' wr => ∃ i : Nat, i' = .int .i64 i ∧ i ≤ xs.length ∧ xs.take i = ys.take i ∧ Below w.heap.size w wr) (fun i' _ => (xs.length - intOf i').toNat)
    case atStart => exact ⟨0, rfl, by omega, rfl, Below.refl _ _⟩
    case round =>
      obtain ⟨i, rfl, hi, hin, hbw⟩ := hrel
      have HIn := hid hin
      have HB := hid hbw
      clear hin hbw
      by_cases hlt : i < xs.length
      · have hlt2 : i < ys.length := by have := HLen.out; omega
        obtain ⟨b, off, rfl, hc⟩ := (HX.out.below HB.out).strG hlt
        obtain ⟨b2, off2, rfl, hc2⟩ := (HY.out.below HB.out).strG hlt2
        have hc1 := hc i hlt
        have hc3 := hc2 i hlt2
        have HN := hid (take_snoc_eq xs ys i hlt hlt2 HIn.out)
        have HU : Hid (xs[i] ≠ ys[i] → d = true) := by
          unfold Hid; intro hne; rw [HD.out, decide_eq_true_iff]; intro e; subst e; exact hne rfl
        obtain ⟨x, hx⟩ : ∃ x, x = xs[i] := ⟨_, rfl⟩
        obtain ⟨y, hy⟩ : ∃ y, y = ys[i] := ⟨_, rfl⟩
        rw [← hx] at hc1 HN HU
        rw [← hy] at hc3 HN HU
        clear hc hc2 hx hy
        by_cases hxy : x = y
        · have HR := hid (HN.out hxy)
          subst hxy
          go_wp2_with fail
          go_quiet (fail)
          go_wp2_with fail
          go_roundw
          case rel => exact ⟨i + 1, by go_num, by omega, HR.out, below_drewN HB.out _⟩
          case measure => simp [intOf]; omega
        · have HR := hid (HU.out hxy)
          have hq := str_ne hxy
          clear hxy
          go_wp2_with fail
          go_quiet (fail)
          go_wp2_with fail
          go_ret
          exact ⟨ret_bl HR.out.symm, below_drewN HB.out _⟩
      · have HR : Hid (d = false) := by
          unfold Hid; rw [HD.out, decide_eq_false_iff_not, Decidable.not_not]
          have h1 := HIn.out
          have h2 := HLen.out
          rwa [List.take_of_length_le (by omega), List.take_of_length_le (by omega)] at h1
        go_wp2_with fail
        go_ret
        exact ⟨ret_bl HR.out.symm, HB.out⟩
  · have hlI : ((xs.length : Int) != (ys.length : Int)) = true := by simp; omega
    have HR : Hid (d = true) := by unfold Hid; rw [HD.out, decide_eq_true_iff]; intro e; exact hlen (by rw [e])
    clear hlen
    go_enter Tryd.func24, Tryd.ntmps24
    go_wp2_with fail
    go_ret
    exact ⟨ret_bl HR.out.symm, Below.refl _ _⟩
end Go.Proofs.YtcgfeeommhljgaaDoor
set_option maxRecDepth 100000
namespace Go.Proofs.YtcgfeeommhljgaaDoor
open Go Go.RowKit

theorem own_und {B : Nat} {e : TypeId} {v : Value} {n : Nat} {xs : List Value} {w w' : World} (h : w.ownsRow B e 1 v n xs) (hb : Below w.heap.size w w') : w'.ownsRow B e 1 v n xs :=
  h.kept (row := none) ⟨hb.os, hb.tape, hb.output, hb.size, fun k hk _ => hb.block k hk⟩ (by cases v.ownBlock <;> simp)
/-- Block tb: a claim of hashes xs with proof ys, u and v of them taken, the texts ts in a row from block lim on. -/
structure WalkAt (B tb lim : Nat) (xs ys : List ByteArray) (u v : Nat) (ts : List ByteArray) (w : World) : Prop where
  le : B ≤ tb
  lt : tb < lim
  size : lim ≤ w.heap.size
  free2 : w.frozen? ⟨tb, 2, none⟩ = false
  free3 : w.frozen? ⟨tb, 3, none⟩ = false
  free4 : w.frozen? ⟨tb, 4, none⟩ = false
  hashes : ∃ ao cap, w.cell? ⟨tb, 0, none⟩ = some (.slice ao xs.length cap) ∧ RowU B w ao (strs' xs)
  proof : ∃ ao cap, w.cell? ⟨tb, 1, none⟩ = some (.slice ao ys.length cap) ∧ RowU B w ao (strs' ys)
  used : w.cell? ⟨tb, 2, none⟩ = some (.int .i64 v)
  met : w.cell? ⟨tb, 3, none⟩ = some (.int .i64 u)
  texts : ∃ val, w.cell? ⟨tb, 4, none⟩ = some val ∧ w.ownsRow lim 9 1 val (strs' ts).length (strs' ts)
section
variable {B tb lim : Nat} {xs ys ts : List ByteArray} {u v : Nat} {w : World}
theorem WalkAt.below {w' : World} (h : WalkAt B tb lim xs ys u v ts w) (hb : Below w.heap.size w w') : WalkAt B tb lim xs ys u v ts w' := by
  obtain ⟨ao, cap, h1, h2⟩ := h.hashes
  obtain ⟨ao', cap', h3, h4⟩ := h.proof
  obtain ⟨val, h5, h6⟩ := h.texts
  have hlt : tb < w.heap.size := Nat.lt_of_lt_of_le h.lt h.size
  exact ⟨h.le, h.lt, Nat.le_trans h.size hb.size, (hb.frozen hlt).trans h.free2, (hb.frozen hlt).trans h.free3, (hb.frozen hlt).trans h.free4, ⟨ao, cap, (hb.cell hlt).trans h1, h2.below hb⟩, ⟨ao', cap', (hb.cell hlt).trans h3, h4.below hb⟩, (hb.cell hlt).trans h.used, (hb.cell hlt).trans h.met, ⟨val, (hb.cell hlt).trans h5, own_und h6 hb⟩⟩
theorem WalkAt.drewN (h : WalkAt B tb lim xs ys u v ts w) (n : Nat) : WalkAt B tb lim xs ys u v ts (w.drewN n) := h.below (below_drewN (Below.refl _ _) n)
theorem WalkAt.usedSet (h : WalkAt B tb lim xs ys u v ts w) (n : Nat) : WalkAt B tb lim xs ys u n ts (w.setCell ⟨tb, 2, none⟩ (.int .i64 n)) := by
  obtain ⟨ao, cap, h1, h2⟩ := h.hashes
  obtain ⟨ao', cap', h3, h4⟩ := h.proof
  obtain ⟨val, h5, h6⟩ := h.texts
  have hg := grown_cell w tb 2 (.int .i64 n)
  exact ⟨h.le, h.lt, by simpa using h.size, by rw [World.frozen?_setCell]; exact h.free2, by rw [World.frozen?_setCell]; exact h.free3, by rw [World.frozen?_setCell]; exact h.free4, ⟨ao, cap, by rw [World.cell?_setCell_other _ _ _ _ (by simp)]; exact h1, h2.grown hg h.le⟩, ⟨ao', cap', by rw [World.cell?_setCell_other _ _ _ _ (by simp)]; exact h3, h4.grown hg h.le⟩, World.cell?_setCell_same _ _ _ h.used, by rw [World.cell?_setCell_other _ _ _ _ (by simp)]; exact h.met, ⟨val, by rw [World.cell?_setCell_other _ _ _ _ (by simp)]; exact h5, ownsRow_setCell_below h6 (show tb < lim from h.lt) _⟩⟩
theorem WalkAt.metSet (h : WalkAt B tb lim xs ys u v ts w) (n : Nat) : WalkAt B tb lim xs ys n v ts (w.setCell ⟨tb, 3, none⟩ (.int .i64 n)) := by
  obtain ⟨ao, cap, h1, h2⟩ := h.hashes
  obtain ⟨ao', cap', h3, h4⟩ := h.proof
  obtain ⟨val, h5, h6⟩ := h.texts
  have hg := grown_cell w tb 3 (.int .i64 n)
  exact ⟨h.le, h.lt, by simpa using h.size, by rw [World.frozen?_setCell]; exact h.free2, by rw [World.frozen?_setCell]; exact h.free3, by rw [World.frozen?_setCell]; exact h.free4, ⟨ao, cap, by rw [World.cell?_setCell_other _ _ _ _ (by simp)]; exact h1, h2.grown hg h.le⟩, ⟨ao', cap', by rw [World.cell?_setCell_other _ _ _ _ (by simp)]; exact h3, h4.grown hg h.le⟩, by rw [World.cell?_setCell_other _ _ _ _ (by simp)]; exact h.used, World.cell?_setCell_same _ _ _ h.met, ⟨val, by rw [World.cell?_setCell_other _ _ _ _ (by simp)]; exact h5, ownsRow_setCell_below h6 (show tb < lim from h.lt) _⟩⟩
end

theorem walk_take (B tb lim : Nat) (xs ys ts : List ByteArray) (u v : Nat) (hu : v < ys.length) (hl : ys.length ≤ 140737488355328) (w : World) (h : WalkAt B tb lim xs ys u v ts w) :
    Calls Tryd.prog 57 #[.pointer (some ⟨tb, 0, none⟩)] w fun e w' => e = .returned (.string (ys.getD v ⟨#[]⟩)) ∧ WalkAt B tb lim xs ys u (v + 1) ts w' ∧ w.grownBy w' (some tb) := by
  have HN := hid (h.usedSet (v + 1))
  obtain ⟨ao, cap, hc, hr⟩ := (h.usedSet (v + 1)).proof
  have hus := h.used
  have hfz := h.free2
  have hgd : ys.getD v ⟨#[]⟩ = ys[v] := by rw [List.getD_eq_getElem?_getD, List.getElem?_eq_getElem hu]; rfl
  rcases hr with hr | ⟨b, off, rfl, hb, hcl⟩
  · have : ys.length = 0 := by have := congrArg List.length hr; rw [strs'_length] at this; exact this
    omega
  · have h0 := hcl v (by rw [strs'_length]; omega)
    rw [strsG _ v hu] at h0
    rw [hgd]
    obtain ⟨x, hx⟩ : ∃ x, x = ys[v] := ⟨_, rfl⟩
    rw [← hx] at h0 ⊢
    have i1 : (0 : Int) ≤ (v : Int) := by omega
    have i2 : (v : Int) < (ys.length : Int) := by omega
    have i3 : ¬ (ys.length : Int) < (v : Int) + 1 := by omega
    have hcu : ((v : Int) + 1) = ((v + 1 : Nat) : Int) := by omega
    have hset : w.setCell ⟨tb, 2, none⟩ (.int .i64 ((v : Int) + 1)) = w.setCell ⟨tb, 2, none⟩ (.int .i64 ((v + 1 : Nat) : Int)) := by rw [hcu]
    rw [← hset] at hc h0
    have HST := hid hset
    have hw1 := World.cell?_setCell_same w ⟨tb, 2, none⟩ (.int .i64 ((v : Int) + 1)) hus
    clear hgd hx hcl h hcu hset
    go_enter Tryd.func57, Tryd.ntmps57
    go_wp2_with fail
    go_quiet (fail)
    go_wp2_with fail
    go_quiet (fail)
    go_wp2_with fail
    go_ret
    exact ⟨rfl, by have := HN.out; rw [← HST.out] at this; exact (this.drewN _).drewN _, grown_drewN (grown_drewN (grown_cell _ _ _ _) _) _⟩

theorem walk_meet (B tb lim : Nat) (xs ys ts : List ByteArray) (u v : Nat) (hu : u < xs.length) (hl : xs.length ≤ 140737488355328) (w : World) (h : WalkAt B tb lim xs ys u v ts w) :
    Calls Tryd.prog 58 #[.pointer (some ⟨tb, 0, none⟩)] w fun e w' => e = .returned (.string (xs.getD u ⟨#[]⟩)) ∧ WalkAt B tb lim xs ys (u + 1) v ts w' ∧ w.grownBy w' (some tb) := by
  have HN := hid (h.metSet (u + 1))
  obtain ⟨ao, cap, hc, hr⟩ := (h.metSet (u + 1)).hashes
  have hus := h.met
  have hfz := h.free3
  have hgd : xs.getD u ⟨#[]⟩ = xs[u] := by rw [List.getD_eq_getElem?_getD, List.getElem?_eq_getElem hu]; rfl
  rcases hr with hr | ⟨b, off, rfl, hb, hcl⟩
  · have : xs.length = 0 := by have := congrArg List.length hr; rw [strs'_length] at this; exact this
    omega
  · have h0 := hcl u (by rw [strs'_length]; omega)
    rw [strsG _ u hu] at h0
    rw [hgd]
    obtain ⟨x, hx⟩ : ∃ x, x = xs[u] := ⟨_, rfl⟩
    rw [← hx] at h0 ⊢
    have i1 : (0 : Int) ≤ (u : Int) := by omega
    have i2 : (u : Int) < (xs.length : Int) := by omega
    have i3 : ¬ (xs.length : Int) < (u : Int) + 1 := by omega
    have hcu : ((u : Int) + 1) = ((u + 1 : Nat) : Int) := by omega
    have hset : w.setCell ⟨tb, 3, none⟩ (.int .i64 ((u : Int) + 1)) = w.setCell ⟨tb, 3, none⟩ (.int .i64 ((u + 1 : Nat) : Int)) := by rw [hcu]
    rw [← hset] at hc h0
    have HST := hid hset
    have hw1 := World.cell?_setCell_same w ⟨tb, 3, none⟩ (.int .i64 ((u : Int) + 1)) hus
    clear hgd hx hcl h hcu hset
    go_enter Tryd.func58, Tryd.ntmps58
    go_wp2_with fail
    go_quiet (fail)
    go_wp2_with fail
    go_quiet (fail)
    go_wp2_with fail
    go_ret
    exact ⟨rfl, by have := HN.out; rw [← HST.out] at this; exact (this.drewN _).drewN _, grown_drewN (grown_drewN (grown_cell _ _ _ _) _) _⟩
end Go.Proofs.YtcgfeeommhljgaaDoor
set_option maxRecDepth 100000
namespace Go.Proofs.YtcgfeeommhljgaaDoor
open Go Go.RowKit

theorem grown_under {w0 w w1 : World} {tb : Nat} (hg : w0.grownBy w (some tb)) (hb : Below w0.heap.size w w1) : w0.grownBy w1 (some tb) :=
  ⟨hb.os.trans hg.os, hb.tape.trans hg.tape, hb.output.trans hg.output, Nat.le_trans hg.size hb.size, fun k hk hne => (hb.block k hk).trans (hg.block k hk hne)⟩
theorem RowU.lim {B lim : Nat} {w w' : World} {ao : Option Addr} {cs : List Value} (h : RowU B w ao cs) (hb : Below lim w w') (hl : B ≤ lim) : RowU B w' ao cs := by
  rcases h with rfl | ⟨b, off, e, hb', hc⟩
  · exact .inl rfl
  · exact .inr ⟨b, off, e, hb', fun i hi => (hb.cell (p := ⟨b, off + i, none⟩) (by show b < lim; omega)).trans (hc i hi)⟩
theorem WalkAt.text {B tb lim : Nat} {xs ys ts : List ByteArray} {u v : Nat} {w w1 : World} (h : WalkAt B tb lim xs ys u v ts w) (hb : Below lim w w1) (val : Value) (us : List ByteArray) (ho : w1.ownsRow lim 9 1 val (strs' us).length (strs' us)) :
    WalkAt B tb lim xs ys u v us (w1.setCell ⟨tb, 4, none⟩ val) := by
  obtain ⟨ao, cap, h1, h2⟩ := h.hashes
  obtain ⟨ao', cap', h3, h4⟩ := h.proof
  obtain ⟨val0, h5, h6⟩ := h.texts
  have hlt := h.lt
  have hle := h.le
  have hg := grown_cell w1 tb 4 val
  exact ⟨h.le, h.lt, by have := hb.size; have := h.size; simp; omega, by rw [World.frozen?_setCell]; exact (hb.frozen hlt).trans h.free2, by rw [World.frozen?_setCell]; exact (hb.frozen hlt).trans h.free3, by rw [World.frozen?_setCell]; exact (hb.frozen hlt).trans h.free4,
    ⟨ao, cap, by rw [World.cell?_setCell_other _ _ _ _ (by simp)]; exact (hb.cell hlt).trans h1, (h2.lim hb (by omega)).grown hg h.le⟩, ⟨ao', cap', by rw [World.cell?_setCell_other _ _ _ _ (by simp)]; exact (hb.cell hlt).trans h3, (h4.lim hb (by omega)).grown hg h.le⟩,
    by rw [World.cell?_setCell_other _ _ _ _ (by simp)]; exact (hb.cell hlt).trans h.used, by rw [World.cell?_setCell_other _ _ _ _ (by simp)]; exact (hb.cell hlt).trans h.met, ⟨val, World.cell?_setCell_same _ _ _ ((hb.cell hlt).trans h5), ownsRow_setCell_below ho (show tb < lim from hlt) _⟩⟩
theorem textS_le (k : Int) (h : Nat → Nat → Nat) (xs ys : List ByteArray) (N : Nat) : ∀ a b u v, b - a ≤ N → a < b → (textS k h xs ys a b u v).length + 1 ≤ b - a := by
  induction N with
  | zero => intro a b u v hN hab; omega
  | succ N ih =>
    intro a b u v hN hab
    by_cases e : h a b = 0
    · rw [textS_none _ _ _ _ _ _ _ _ e]; simp; omega
    · by_cases hn : b - a ≤ 1
      · rw [textS_one _ _ _ _ _ _ _ _ e hn]; simp; omega
      · have hs := sp_lt (b - a) (by omega)
        have hp := sp_pos (b - a)
        rw [textS_some _ _ _ _ _ _ _ _ e (by omega)]
        simp only [List.length_append, List.length_singleton]
        have h1 := ih a (a + sp (b - a)) u v (by omega) (by omega)
        have h2 := ih (a + sp (b - a)) b (u + leafN h a (a + sp (b - a))) (v + sideN h a (a + sp (b - a))) (by omega) (by omega)
        omega

set_option maxHeartbeats 1000000 in
theorem walk_hash (k : Int) (all : List Int) (n : Int) (hx : Rises all n) (hal : all.length ≤ 4611686018427387904) (ai : Option Addr) (ci : Nat) (xs ys : List ByteArray) (hxs : ∀ x ∈ xs, x.size ≤ 32) (hys : ∀ y ∈ ys, y.size ≤ 32) (hl1 : xs.length ≤ 140737488355328) (hl2 : ys.length ≤ 140737488355328)
    (B tb : Nat) (w0 : World) (t1 : tb ≠ 0) (t2 : tb ≠ 1) (hg0 : GlobP w0) (hr0 : RowOff tb w0 ai (ints all)) (N : Nat) : ∀ (a b u v : Nat) (ts : List ByteArray), b - a ≤ N → a < b → b ≤ 1048576 → ts.length + (b - a) ≤ 4194304 → u + leafN (hasA all) a b ≤ xs.length → v + sideN (hasA all) a b ≤ ys.length → ∀ (w : World), w0.grownBy w (some tb) → WalkAt B tb w0.heap.size xs ys u v ts w →
    Calls Tryd.prog 25 #[.pointer (some ⟨tb, 0, none⟩), .int .i64 k, .int .i64 a, .int .i64 b, .slice ai all.length ci] w
      fun e w' => e = .returned (.string (reckS k (hasA all) xs ys a b u v)) ∧ WalkAt B tb w0.heap.size xs ys (u + leafN (hasA all) a b) (v + sideN (hasA all) a b) (ts ++ textS k (hasA all) xs ys a b u v) w' ∧ w0.grownBy w' (some tb) := by
  induction N with
  | zero => intro a b u v ts h1 h2; omega
  | succ N ih =>
    intro a b u v ts hN hab hb20 hts hu hv w hgr hw
    have hz := hasA_nothing all n hx a b
    have hso := law_some ai all ci a b w (hr0.grown hgr).row hal
    have HW := hid hw
    have HGr := hid hgr
    by_cases h0 : hasA all a b = 0
    · have hL := leafN_none _ a b h0
      have hS := sideN_none _ a b h0
      have hE := reckS_none _ a b k xs ys u v h0
      have hT := textS_none k _ xs ys a b u v h0
      rw [hS] at hv
      rw [decide_eq_false (by have := hz.2 h0; omega)] at hso
      have HSo := hid hso
      have HNX := hid (fun (W : World) (hW : WalkAt B tb w0.heap.size xs ys u v ts W) => walk_take B tb w0.heap.size xs ys ts u v (by omega) hl2 W hW)
      rw [hL, hS, hE, hT, List.append_nil]
      clear ih hL hS hE hT hw hgr h0 hu hv hys hxs hz hso hr0 hg0
      generalize ys.getD v ⟨#[]⟩ = y at *
      go_enter Tryd.func25, Tryd.ntmps25
      go_wp2_with fail
      refine (HSo.out).mono ?_
      rintro e w' ⟨rfl, rfl⟩
      go_wp2_with fail
      refine (HNX.out _ HW.out).mono ?_
      rintro e w1 ⟨rfl, hT, hG⟩
      have HT := hid hT
      have HG := hid (Go.Lib.grownBy_trans HGr.out hG)
      clear hT hG
      go_wp2_with fail
      go_ret
      exact ⟨rfl, HT.out, HG.out⟩
    · rw [decide_eq_true (by intro e; exact h0 (hz.1 e))] at hso
      have HSo := hid hso
      clear hz hso
      by_cases hn : b - a ≤ 1
      · have hL := leafN_one _ a b h0 hn
        have hS := sideN_one _ a b h0 hn
        have hE := reckS_one _ a b k xs ys u v h0 hn
        have hT := textS_one k _ xs ys a b u v h0 hn
        rw [hL] at hu
        have HNX := hid (fun (W : World) (hW : WalkAt B tb w0.heap.size xs ys u v ts W) => walk_meet B tb w0.heap.size xs ys ts u v (by omega) hl1 W hW)
        rw [hL, hS, hE, hT, List.append_nil]
        have hba : ((b : Int) - (a : Int) == 1) = true := by rw [show (b : Int) - (a : Int) = 1 by omega]; rfl
        clear ih hL hS hE hT hw hgr h0 hu hv hys hxs hr0 hg0
        generalize xs.getD u ⟨#[]⟩ = y at *
        go_enter Tryd.func25, Tryd.ntmps25
        go_wp2_with fail
        refine (HSo.out).mono ?_
        rintro e w' ⟨rfl, rfl⟩
        go_wp2_with fail
        refine (HNX.out _ HW.out).mono ?_
        rintro e w1 ⟨rfl, hT, hG⟩
        have HT := hid hT
        have HG := hid (Go.Lib.grownBy_trans HGr.out hG)
        clear hT hG
        go_wp2_with fail
        go_ret
        exact ⟨rfl, HT.out, HG.out⟩
      · have hL := leafN_some _ a b h0 (by omega)
        have hS := sideN_some _ a b h0 (by omega)
        have hE := reckS_some _ a b k xs ys u v h0 (by omega)
        have hT := textS_some k _ xs ys a b u v h0 (by omega)
        have hs := sp_lt (b - a) (by omega)
        have hs0 := sp_pos (b - a)
        have hsz1 := reckS_size (hasA all) a (a + sp (b - a)) k xs ys u v hxs hys
        have hsz2 := reckS_size (hasA all) (a + sp (b - a)) b k xs ys (u + leafN (hasA all) a (a + sp (b - a))) (v + sideN (hasA all) a (a + sp (b - a))) hxs hys
        have hl3 := textS_le k (hasA all) xs ys N a (a + sp (b - a)) u v (by omega) (by omega)
        have hl4 := textS_le k (hasA all) xs ys N (a + sp (b - a)) b (u + leafN (hasA all) a (a + sp (b - a))) (v + sideN (hasA all) a (a + sp (b - a))) (by omega) (by omega)
        rw [hL] at hu
        rw [hS] at hv
        have I1 := hid (ih a (a + sp (b - a)) u v ts (by omega) (by omega) (by omega) (by omega) (by omega) (by omega) w hgr hw)
        have I2 := hid (ih (a + sp (b - a)) b (u + leafN (hasA all) a (a + sp (b - a))) (v + sideN (hasA all) a (a + sp (b - a))) (ts ++ textS k (hasA all) xs ys a (a + sp (b - a)) u v) (by omega) (by omega) (by omega) (by rw [List.length_append]; omega) (by omega) (by omega))
        have hSP := fun W => law_split ((b : Int) - (a : Int)) (by omega) (by omega) W
        rw [show ((b : Int) - (a : Int)).toNat = b - a by omega] at hSP
        have HSP := hid hSP
        have HE := hid hE
        have HL := hid hL
        have HS := hid hS
        have HT0 := hid hT
        obtain ⟨r, hr⟩ : ∃ r, r = reckS k (hasA all) xs ys a b u v := ⟨_, rfl⟩
        rw [← hr] at HE ⊢
        obtain ⟨z1, hz1⟩ : ∃ z, z = leafN (hasA all) a b := ⟨_, rfl⟩
        obtain ⟨z2, hz2⟩ : ∃ z, z = sideN (hasA all) a b := ⟨_, rfl⟩
        obtain ⟨z3, hz3⟩ : ∃ z, z = textS k (hasA all) xs ys a b u v := ⟨_, rfl⟩
        rw [← hz1] at HL ⊢
        rw [← hz2] at HS ⊢
        rw [← hz3] at HT0 ⊢
        clear ih hL hS hE hT hw hgr h0 hu hv hxs hys hSP hr hz1 hz2 hz3 hr0
        generalize sp (b - a) = s at *
        generalize textS k (hasA all) xs ys a (a + s) u v = x1 at *
        generalize textS k (hasA all) xs ys (a + s) b (u + leafN (hasA all) a (a + s)) (v + sideN (hasA all) a (a + s)) = x2 at *
        generalize reckS k (hasA all) xs ys a (a + s) u v = q1 at *
        generalize reckS k (hasA all) xs ys (a + s) b (u + leafN (hasA all) a (a + s)) (v + sideN (hasA all) a (a + s)) = q2 at *
        generalize leafN (hasA all) a (a + s) = l1 at *
        generalize sideN (hasA all) a (a + s) = d1 at *
        generalize leafN (hasA all) (a + s) b = l2 at *
        generalize sideN (hasA all) (a + s) b = d2 at *
        have hnt : (nodeT q1 q2).size ≤ 100 := by unfold nodeT; rw [ByteArray.size_append, ByteArray.size_append, show (⟨#[1]⟩ : ByteArray).size = 1 from rfl]; omega
        have HCut := hid (fun (W : World) (hW : GlobP W) => sha_Cut (nodeT q1 q2) (by omega) k W hW)
        have HG0 := hid hg0
        have hbytes : ((strs' (ts ++ x1 ++ x2)).length + 1) * 16 ≤ 140737488355328 := by rw [strs'_length, List.length_append, List.length_append]; omega
        obtain ⟨us, hus⟩ : ∃ us, us = ts ++ x1 ++ x2 := ⟨_, rfl⟩
        rw [← hus] at I2 hbytes
        obtain ⟨vs, hvs⟩ : ∃ vs, vs = ts ++ z3 := ⟨_, rfl⟩
        have hst : strs' us ++ [Value.string (nodeT q1 q2)] = strs' vs := by rw [hvs, HT0.out, hus]; simp [strs']
        rw [← hvs]
        clear hvs
        have HSt := hid hst
        have hpos : 0 < (strs' us ++ [Value.string (nodeT q1 q2)]).length := by simp
        rw [show ((a + s : Nat) : Int) = (a : Int) + (s : Int) by omega] at I1 I2
        have hbaI : ((b : Int) - (a : Int) == 1) = false := by simp; omega
        clear hg0 hst hus
        go_enter Tryd.func25, Tryd.ntmps25
        go_wp2_with fail
        refine (HSo.out).mono ?_
        rintro e w' ⟨rfl, rfl⟩
        go_wp2_with fail
        refine (HSP.out _).mono ?_
        rintro e w' ⟨rfl, rfl⟩
        go_wp2_with fail
        refine (I1.out).mono ?_
        rintro e w1 ⟨rfl, hT1, hG1⟩
        have HT1 := hid hT1
        have HG1 := hid hG1
        clear hT1 hG1
        go_wp2_with fail
        refine (I2.out _ HG1.out HT1.out).mono ?_
        rintro e w2 ⟨rfl, hT2, hG2⟩
        have HT2 := hid hT2
        have HG2 := hid hG2
        obtain ⟨val, hc4, hown⟩ := hT2.texts
        have HO := hid hown
        have hf4 := hT2.free4
        have hsz := hG2.size
        clear hT2 hG2 hown
        go_wp2_with (at_builtin; refine wp_append1 w0.heap.size rfl (.tmp 51) (.tmp 56) 22 9 (.string ⟨#[]⟩) 16 rfl Tryd.underlying22 info_str rfl (by omega) val (strs' us) (.string (nodeT q1 q2)) rfl rfl rfl HO.out hsz hbytes ?_; intro v1 w3 hown3 hb3; have HB3 := hid hb3; obtain ⟨g, cap3, rfl, _, hcp3, _, _, _, hcell3⟩ := own_form hown3 hpos; rw [HSt.out] at hown3; have hW3 := HT2.out.text hb3 _ _ hown3; have HW3 := hid hW3; have HG3 := hid (grown_under HG2.out hb3); have hf3 : w3.frozen? ⟨tb, 4, none⟩ = false := (hb3.frozen (p := ⟨tb, 4, none⟩) HT2.out.lt).trans hf4; rw [HSt.out] at hcell3 ⊢; rw [strs'_length] at HW3 ⊢; have hc3 := (hb3.cell (p := ⟨tb, 4, none⟩) HT2.out.lt).trans hc4; clear hown3 hb3 hcell3 hW3)
        have hG4 := Go.Lib.grownBy_trans HG3.out (grown_cell w3 tb 4 (.slice (some ⟨g, 0, none⟩) vs.length cap3))
        have HG4 := hid hG4
        clear hG4
        refine (HCut.out _ (HG0.out.grown HG4.out t1 t2)).mono ?_
        rintro e w5 ⟨rfl, hb5⟩
        have HW5 := hid (HW3.out.below hb5)
        have HG5 := hid (Go.Lib.grownBy_trans HG4.out (grown_of hb5 _))
        clear hb5
        go_wp2_with fail
        go_ret
        exact ⟨ret_str (by rw [HE.out, nodeT_hash]), by rw [HL.out, HS.out, ← Nat.add_assoc, ← Nat.add_assoc]; exact HW5.out, HG5.out⟩
end Go.Proofs.YtcgfeeommhljgaaDoor
