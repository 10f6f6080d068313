/- A path parsed, plain: what each side reads; where a tile's path stands each side reads that tile. -/
import Derived.Test.YtaaldkkfedinpaaDoorPieces
set_option maxRecDepth 100000
namespace Go.Proofs.YtaaldkkfedinpaaDoor
open Go

def tileB : List UInt8 := [116, 105, 108, 101, 47]
def dotB : List UInt8 := [46, 112, 47]
def pRest (s : List UInt8) : List UInt8 := if Lib.hasPrefix s tileB then s.drop 5 else s
def pA (s : List UInt8) : List UInt8 × List UInt8 × Bool := Lib.cut (pRest s) [47]
def pB (s : List UInt8) : List UInt8 × List UInt8 × Bool := Lib.cut (pA s).2.1 [47]
def pC (s : List UInt8) : List UInt8 × List UInt8 × Bool := Lib.cut (pB s).2.1 dotB
def pN (l : List UInt8) : Int := foldN 0 (Lib.splitK [47] 0 (Lib.count l [47]) l)
def pCount (s : List UInt8) : Int := if (pC s).2.2 = true then numL (pC s).2.1 else if 1 ≤ numL (pA s).1 ∧ numL (pA s).1 ≤ 8 then ((2 ^ (numL (pA s).1).toNat : Nat) : Int) else 0
theorem dec_no (u : Nat) (c : UInt8) (hc : isDig c = false) : c ∉ Lib.decDigits u := by
  intro hm
  have := dec_all u u (Nat.le_refl _) c hm
  rw [this] at hc
  cases hc
theorem dec_ne (u : Nat) : Lib.decDigits u ≠ [] := by
  by_cases h : u < 10
  · rw [dgt_small u h]; simp
  · rw [dgt_step u (by omega)]; simp
theorem numL_dec (u : Nat) (h : u < 1000000000000000000) : numL (Lib.decDigits u) = u := by
  rw [numL_digits _ (dec_all u u (Nat.le_refl _)) (dec_ne u) (dec_len 17 u h), dec_val u u (Nat.le_refl _)]
theorem pre_no (n : Nat) : ∀ m, m ≤ n → (46 : UInt8) ∉ preL m := by
  induction n with
  | zero => intro m hm; obtain rfl : m = 0 := by omega
            rw [preL_zero]; simp
  | succ n ih =>
    intro m hm h
    by_cases h0 : m = 0
    · rw [h0, preL_zero] at h; simp at h
    · rw [preL_step m h0, List.mem_append] at h
      rcases h with h | h
      · exact ih (m / 1000) (by omega) h
      · rw [List.mem_append] at h
        rcases h with h | h
        · rcases List.mem_cons.1 h with h | h
          · exact absurd h (by decide)
          · exact three_no (m % 1000) (by omega) 46 (by decide) h
        · exact absurd (List.mem_singleton.1 h) (by decide)
theorem index_no (i : Nat) : (46 : UInt8) ∉ indexL i := by
  intro h
  unfold indexL at h
  rcases List.mem_append.1 h with h | h
  · exact pre_no _ _ (Nat.le_refl _) h
  · exact three_no (i % 1000) (by omega) 46 (by decide) h
def tailL (h c : Nat) : List UInt8 := if c < 2 ^ h then dotB ++ Lib.decDigits c else []
theorem pathL_shape (h l i c : Nat) : pathL h l i c = tileB ++ (Lib.decDigits h ++ (47 :: (Lib.decDigits l ++ (47 :: (indexL i ++ tailL h c))))) := by
  unfold pathL tileB tailL dotB
  simp
/-- The program's reading of a tile's path. -/
theorem prog_of (h l i c : Nat) (hL : Lies h l i c 4611686018427387904) (hi : i ≤ 4611686018427387904) : numL (pA (pathL h l i c)).1 = h ∧ numL (pB (pathL h l i c)).1 = l ∧ pN (pC (pathL h l i c)).1 = i ∧ pCount (pathL h l i c) = c := by
  obtain ⟨h1, h8, l0, lh, i0, c1, cP, _, _⟩ := hL
  have hl62 : l ≤ 62 := by
    have h3 : (l : Int) * 1 ≤ (l : Int) * (h : Int) := Int.mul_le_mul_of_nonneg_left h1 l0
    omega
  rw [Int.toNat_natCast] at cP
  have hP : (2 ^ h : Nat) ≤ 256 := Nat.pow_le_pow_right (show 0 < 2 by decide) (show h ≤ 8 by omega)
  have e0 : pRest (pathL h l i c) = Lib.decDigits h ++ (47 :: (Lib.decDigits l ++ (47 :: (indexL i ++ tailL h c)))) := by
    rw [pathL_shape]
    unfold pRest Lib.hasPrefix
    rw [if_pos (List.isPrefixOf_iff_prefix.2 ⟨_, rfl⟩)]
    rfl
  have e1 : pA (pathL h l i c) = (Lib.decDigits h, Lib.decDigits l ++ (47 :: (indexL i ++ tailL h c)), true) := by
    unfold pA; rw [e0]; exact cut_hit 47 [] _ _ (dec_no h 47 (by decide))
  have e2 : pB (pathL h l i c) = (Lib.decDigits l, indexL i ++ tailL h c, true) := by
    unfold pB; rw [e1]; exact cut_hit 47 [] _ _ (dec_no l 47 (by decide))
  have n1 : numL (pA (pathL h l i c)).1 = h := by rw [e1]; exact numL_dec h (by omega)
  have n2 : numL (pB (pathL h l i c)).1 = l := by rw [e2]; exact numL_dec l (by omega)
  by_cases hc : c < 2 ^ h
  · have e3 : pC (pathL h l i c) = (indexL i, Lib.decDigits c, true) := by
      unfold pC; rw [e2]; unfold tailL; rw [if_pos hc]; exact cut_hit 46 [112, 47] _ _ (index_no i)
    refine ⟨n1, n2, by rw [e3]; exact foldN_index i hi, ?_⟩
    unfold pCount
    rw [e3, if_pos rfl]
    exact numL_dec c (by omega)
  · have e3 : pC (pathL h l i c) = (indexL i, [], false) := by
      unfold pC; rw [e2]; unfold tailL; rw [if_neg hc, List.append_nil]; exact cut_miss 46 [112, 47] _ (index_no i)
    refine ⟨n1, n2, by rw [e3]; exact foldN_index i hi, ?_⟩
    unfold pCount
    rw [e3, if_neg (by simp), n1, if_pos ⟨h1, h8⟩, Int.toNat_natCast]
    omega
theorem head47 (r : List UInt8) : ∀ x, (47 :: r).head? = some x → isDig x = false := by
  intro x hx
  obtain rfl : 47 = x := by simpa using hx
  decide
/-- What the reference's read answers. -/
def rdR (a l : List UInt8) : Int × List UInt8 := match rdA a l with | none => (-1, []) | some (n, t) => ((n : Int), t)
def rA (s : List UInt8) : Int × List UInt8 := rdR tileB s
def rB (s : List UInt8) : Int × List UInt8 := rdR [47] (rA s).2
/-- The loop over the groups ends so. -/
def Ran (s : List UInt8) (idx : Nat) (r : List UInt8) : Prop := ∃ j, ∀ f, refLoop (f + j) 0 (rB s).2 = (idx, r)
theorem slash_pre (n : Nat) : ∀ m, m ≤ n → ∀ X, 47 :: (preL m ++ X) = slashG m ++ (47 :: X) := by
  induction n with
  | zero => intro m hm X; obtain rfl : m = 0 := by omega
            rw [preL_zero, slashG_zero]; rfl
  | succ n ih =>
    intro m hm X
    by_cases h0 : m = 0
    · rw [h0, preL_zero, slashG_zero]; rfl
    · rw [preL_app m h0, ih (m / 1000) (by omega), slashG_step m h0]
      simp
theorem tail_head (h c : Nat) : ∀ x, (tailL h c).head? = some x → isDig x = false := by
  intro x hx
  unfold tailL at hx
  split at hx
  · obtain rfl : 46 = x := by simpa [dotB] using hx
    decide
  · cases hx
theorem ref_of (h l i c : Nat) (hL : Lies h l i c 4611686018427387904) (hi : i ≤ 4611686018427387904) : (rA (pathL h l i c)).1 = h ∧ (rB (pathL h l i c)).1 = l ∧ ∀ idx r, Ran (pathL h l i c) idx r → idx = i / 1000 ∧ rdR [47] r = (((i % 1000 : Nat) : Int), tailL h c) := by
  obtain ⟨h1, h8, l0, lh, i0, c1, cP, _, _⟩ := hL
  have hl62 : l ≤ 62 := by
    have h3 : (l : Int) * 1 ≤ (l : Int) * (h : Int) := Int.mul_le_mul_of_nonneg_left h1 l0
    omega
  have e1 : rA (pathL h l i c) = ((h : Int), 47 :: (Lib.decDigits l ++ (47 :: (indexL i ++ tailL h c)))) := by
    unfold rA rdR
    rw [pathL_shape, rdA_of tileB (Lib.decDigits h) _ (dec_ne h) (dec_len 17 h (by omega)) (dec_all h h (Nat.le_refl _)) (head47 _), dec_val h h (Nat.le_refl _)]
  have e2 : rB (pathL h l i c) = ((l : Int), 47 :: (indexL i ++ tailL h c)) := by
    unfold rB
    rw [e1]
    unfold rdR
    rw [show (47 :: (Lib.decDigits l ++ (47 :: (indexL i ++ tailL h c))) : List UInt8) = [47] ++ (Lib.decDigits l ++ (47 :: (indexL i ++ tailL h c))) from rfl, rdA_of [47] (Lib.decDigits l) _ (dec_ne l) (dec_len 17 l (by omega)) (dec_all l l (Nat.le_refl _)) (head47 _), dec_val l l (Nat.le_refl _)]
  refine ⟨by rw [e1], by rw [e2], fun idx r hr => ?_⟩
  obtain ⟨j, hj⟩ := hr
  have e3 : (rB (pathL h l i c)).2 = slashG (i / 1000) ++ (47 :: (three (i % 1000) ++ tailL h c)) := by
    rw [e2]
    show 47 :: (indexL i ++ tailL h c) = _
    rw [← slash_pre _ _ (Nat.le_refl _)]
    show 47 :: (preL (i / 1000) ++ three (i % 1000) ++ tailL h c) = _
    rw [List.append_assoc]
  have hr3 : i % 1000 < 1000 := by omega
  obtain ⟨n, hn⟩ := loop_groups (i / 1000) (i / 1000) (Nat.le_refl _) (by omega) (47 :: (three (i % 1000) ++ tailL h c)) (head47 _)
  have hno : rdA [47, 120] (47 :: (three (i % 1000) ++ tailL h c)) = none := by
    refine rdA_no _ _ ?_
    intro e
    have h2 : UInt8.ofNat (48 + i % 1000 / 100) = 120 := by
      have := congrArg (fun l => l[1]?) e
      simpa [three] using this
    have h3 := dgt_byte (i % 1000 / 100) (by omega)
    rw [h2] at h3
    have : (120 : UInt8).toNat = 120 := rfl
    omega
  have hst : ∀ f, refLoop f (i / 1000) (47 :: (three (i % 1000) ++ tailL h c)) = (i / 1000, 47 :: (three (i % 1000) ++ tailL h c)) := by
    intro f
    cases f with
    | zero => rfl
    | succ f =>
      show (match rdA [47, 120] (47 :: (three (i % 1000) ++ tailL h c)) with | none => (i / 1000, 47 :: (three (i % 1000) ++ tailL h c)) | some (n, t) => _) = _
      rw [hno]
  have h1 := hj n
  have h2 := hn j
  rw [e3, show n + j = j + n by omega, h2, hst j] at h1
  obtain ⟨rfl, rfl⟩ := Prod.mk.inj h1
  refine ⟨rfl, ?_⟩
  unfold rdR
  rw [show (47 :: (three (i % 1000) ++ tailL h c) : List UInt8) = [47] ++ (three (i % 1000) ++ tailL h c) from rfl, rdA_of [47] (three (i % 1000)) _ (by simp [three]) (by simp [three]) (three_all _ hr3) (tail_head h c), three_val 0 _ hr3]
  simp
theorem ref_count (h c : Nat) (hc : c < 2 ^ h) (h8 : h ≤ 8) : (rdR dotB (tailL h c)).1 = c := by
  have hP : (2 ^ h : Nat) ≤ 256 := Nat.pow_le_pow_right (show 0 < 2 by decide) (show h ≤ 8 by omega)
  unfold rdR tailL
  have e := rdA_of dotB (Lib.decDigits c) [] (dec_ne c) (dec_len 17 c (by omega)) (dec_all c c (Nat.le_refl _)) (fun x hx => by cases hx)
  rw [List.append_nil] at e
  rw [if_pos hc, e, dec_val c c (Nat.le_refl _)]
/-- Is this tile one that goes and whose path is the text? -/
def Fits (h l i c : Int) (s : ByteArray) : Prop := Lies h l i c 4611686018427387904 ∧ pathS h l i c = s
instance (h l i c : Int) (s : ByteArray) : Decidable (Fits h l i c s) := by unfold Fits; infer_instance
/-- What a text is read as. -/
def fits (s : ByteArray) : Prop := Fits (numL (pA s.data.toList).1) (numL (pB s.data.toList).1) (pN (pC s.data.toList).1) (pCount s.data.toList) s
instance (s : ByteArray) : Decidable (fits s) := by unfold fits; infer_instance
def parT (s : ByteArray) : Int × Int × Int × Int := if fits s then (numL (pA s.data.toList).1, numL (pB s.data.toList).1, pN (pC s.data.toList).1, pCount s.data.toList) else (0, 0, 0, 0)
def parE (s : ByteArray) : Int := if fits s then 0 else 230
theorem Fits.nat {h l i c : Int} {s : ByteArray} (hf : Fits h l i c s) : ∃ a b d e : Nat, h = a ∧ l = b ∧ i = d ∧ c = e ∧ Lies a b d e 4611686018427387904 ∧ d ≤ 4611686018427387904 ∧ s.data.toList = pathL a b d e := by
  obtain ⟨hL, hp⟩ := hf
  have hL' := hL
  obtain ⟨h1, h8, l0, lh, i0, c1, cP, cR, iR⟩ := hL
  have iB : i ≤ 4611686018427387904 := by
    refine Int.le_trans iR (Int.le_trans (Int.ediv_le_self _ (by omega)) ?_)
    have := Nat.div_le_self 4611686018427387904 (2 ^ (l * h).toNat)
    omega
  obtain ⟨a, rfl⟩ := Int.eq_ofNat_of_zero_le (show 0 ≤ h by omega)
  obtain ⟨b, rfl⟩ := Int.eq_ofNat_of_zero_le l0
  obtain ⟨d, rfl⟩ := Int.eq_ofNat_of_zero_le i0
  obtain ⟨e, rfl⟩ := Int.eq_ofNat_of_zero_le (show 0 ≤ c by omega)
  refine ⟨a, b, d, e, rfl, rfl, rfl, rfl, hL', by omega, ?_⟩
  unfold pathS at hp
  rw [if_pos hL'] at hp
  rw [← hp]
  simp
/-- A tile whose path the text is, is what the program reads. -/
theorem fits_prog {h l i c : Int} {s : ByteArray} (hf : Fits h l i c s) : numL (pA s.data.toList).1 = h ∧ numL (pB s.data.toList).1 = l ∧ pN (pC s.data.toList).1 = i ∧ pCount s.data.toList = c := by
  obtain ⟨a, b, d, e, rfl, rfl, rfl, rfl, hL, hi, hs⟩ := hf.nat
  rw [hs]
  exact prog_of a b d e hL hi
theorem fits_par {h l i c : Int} {s : ByteArray} (hf : Fits h l i c s) : parT s = (h, l, i, c) ∧ parE s = 0 := by
  obtain ⟨e1, e2, e3, e4⟩ := fits_prog hf
  have : fits s := by unfold fits; rw [e1, e2, e3, e4]; exact hf
  unfold parT parE
  rw [if_pos this, if_pos this, e1, e2, e3, e4]
  exact ⟨rfl, rfl⟩
theorem par_no {s : ByteArray} (h : ∀ a b d e, ¬ Fits a b d e s) : parT s = (0, 0, 0, 0) ∧ parE s = 230 := by
  have : ¬ fits s := fun hf => h _ _ _ _ hf
  unfold parT parE
  rw [if_neg this, if_neg this]
  exact ⟨rfl, rfl⟩
theorem par_of (h l i c : Int) (s : ByteArray) (heq : ∀ a b d e, Fits a b d e s → a = h ∧ b = l ∧ d = i ∧ e = c) : parT s = (if Fits h l i c s then (h, l, i, c) else (0, 0, 0, 0)) ∧ parE s = (if Fits h l i c s then 0 else 230) := by
  by_cases hf : Fits h l i c s
  · rw [if_pos hf, if_pos hf]; exact fits_par hf
  · rw [if_neg hf, if_neg hf]
    refine par_no fun a b d e hg => hf ?_
    obtain ⟨rfl, rfl, rfl, rfl⟩ := heq a b d e hg
    exact hg
/-- Where the reference's loop ended. -/
def rCount (h : Int) (t : List UInt8) : Int := if t = [] then ((2 ^ h.toNat : Nat) : Int) else (rdR dotB t).1
theorem fits_ref {h l i c : Int} {s : ByteArray} (hf : Fits h l i c s) {idx : Nat} {r : List UInt8} (hr : Ran s.data.toList idx r) : (rA s.data.toList).1 = h ∧ (rB s.data.toList).1 = l ∧ 0 ≤ (rdR [47] r).1 ∧ 1000 * (idx : Int) + (rdR [47] r).1 = i ∧ rCount h (rdR [47] r).2 = c ∧ 1 ≤ h ∧ h ≤ 8 := by
  obtain ⟨a, b, d, e, rfl, rfl, rfl, rfl, hL, hi, hs⟩ := hf.nat
  rw [hs] at hr ⊢
  obtain ⟨h1, h2, h3⟩ := ref_of a b d e hL hi
  obtain ⟨rfl, h5⟩ := h3 idx r hr
  obtain ⟨q1, q8, _, _, _, c1, cP, _, _⟩ := hL
  rw [h5]
  refine ⟨h1, h2, by simp only; omega, by simp only; omega, ?_, q1, q8⟩
  unfold rCount
  simp only
  rw [Int.toNat_natCast] at cP ⊢
  by_cases hc : e < 2 ^ a
  · rw [if_neg (by unfold tailL dotB; rw [if_pos hc]; simp)]
    exact ref_count a e hc (by omega)
  · rw [if_pos (by unfold tailL; rw [if_neg hc])]
    omega
end Go.Proofs.YtaaldkkfedinpaaDoor
