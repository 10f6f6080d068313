/- A tile's path, plain: three digits, the number in groups, the path. -/
import Derived.Test.YtaaldkkfedinpaaDoorTLies
import Derived.Test.YtaaldkkfedinpaaDoorShelfItoa
set_option maxRecDepth 100000
namespace Go.Proofs.YtaaldkkfedinpaaDoor
open Go Go.RowKit

def three3 (r : Nat) : List UInt8 := [UInt8.ofNat (48 + r / 100), UInt8.ofNat (48 + r / 10 % 10), UInt8.ofNat (48 + r % 10)]
theorem dec_small (u : Nat) (h : u < 10) : Lib.decDigits u = [UInt8.ofNat (48 + u)] := by rw [Lib.decDigits, dif_pos h]
theorem dec_step (u : Nat) (h : 10 ≤ u) : Lib.decDigits u = Lib.decDigits (u / 10) ++ [UInt8.ofNat (48 + u % 10)] := by rw [Lib.decDigits, dif_neg (by omega)]
theorem dec_thousand (r : Nat) (h : r < 1000) : Lib.decDigits (1000 + r) = 49 :: three3 r := by
  rw [dec_step _ (by omega), dec_step _ (by omega), dec_step _ (by omega), dec_small _ (by omega)]
  have e1 : (1000 + r) / 10 / 10 / 10 = 1 := by omega
  have e2 : (1000 + r) / 10 / 10 % 10 = r / 100 := by omega
  have e3 : (1000 + r) / 10 % 10 = r / 10 % 10 := by omega
  have e4 : (1000 + r) % 10 = r % 10 := by omega
  rw [e1, e2, e3, e4]
  rfl
/-- The digits of r < 1000 behind as many zeros as are wanting. -/
theorem dec_pad (r : Nat) (h : r < 1000) : List.replicate (3 - (Lib.decDigits r).length) 48 ++ Lib.decDigits r = three3 r := by
  unfold three3
  by_cases h1 : r < 10
  · rw [dec_small r h1, show r / 100 = 0 by omega, show r / 10 % 10 = 0 by omega, show r % 10 = r by omega]
    rfl
  · by_cases h2 : r < 100
    · rw [dec_step r (by omega), dec_small (r / 10) (by omega), show r / 100 = 0 by omega, show r / 10 % 10 = r / 10 by omega]
      rfl
    · rw [dec_step r (by omega), dec_step (r / 10) (by omega), dec_small (r / 10 / 10) (by omega), show r / 10 / 10 = r / 100 by omega]
      rfl
theorem dec_len (k : Nat) : ∀ u, u < 10 ^ (k + 1) → (Lib.decDigits u).length ≤ k + 1 := by
  induction k with
  | zero => intro u h; rw [dec_small u (by simpa using h)]; simp
  | succ k ih =>
    intro u h
    by_cases h1 : u < 10
    · rw [dec_small u h1]; simp
    · rw [dec_step u (by omega), List.length_append]
      have := ih (u / 10) (by rw [Nat.pow_succ] at h; omega)
      simp; omega
theorem dec_len20 (u : Nat) (h : u ≤ 4611686018427387904) : (Lib.decDigits u).length ≤ 20 := dec_len 19 u (by omega)
/-- What stands ahead of the last three digits. -/
def preL (m : Nat) : List UInt8 := if _h : m = 0 then [] else preL (m / 1000) ++ (120 :: three3 (m % 1000) ++ [47])
termination_by m
decreasing_by omega
theorem preL_zero : preL 0 = [] := by rw [preL, dif_pos rfl]
theorem preL_step (m : Nat) (h : m ≠ 0) : preL m = preL (m / 1000) ++ (120 :: three3 (m % 1000) ++ [47]) := by rw [preL, dif_neg h]
theorem preL_len (k : Nat) : ∀ m, m < 1000 ^ k → (preL m).length ≤ 5 * k := by
  induction k with
  | zero => intro m h; rw [show m = 0 by simpa using h, preL_zero]; simp
  | succ k ih =>
    intro m h
    by_cases h0 : m = 0
    · rw [h0, preL_zero]; simp
    · rw [preL_step m h0]
      have := ih (m / 1000) (by rw [Nat.pow_succ] at h; omega)
      simp [three3]; omega
def indexL (n : Nat) : List UInt8 := preL (n / 1000) ++ three3 (n % 1000)
theorem indexL_len (n : Nat) (h : n ≤ 4611686018427387904) : (indexL n).length ≤ 50 := by
  unfold indexL
  have := preL_len 7 (n / 1000) (by omega)
  simp [three3]; omega
/-- The path's bytes: "tile/", the height, "/", the level, "/", the number, and of a part ".p/" and how many. -/
def pathL (h l i c : Nat) : List UInt8 := [116, 105, 108, 101, 47] ++ Lib.decDigits h ++ [47] ++ Lib.decDigits l ++ [47] ++ indexL i ++ (if c < 2 ^ h then [46, 112, 47] ++ Lib.decDigits c else [])
def pathS (h l i c : Int) : ByteArray := if Lies h l i c 4611686018427387904 then ⟨(pathL h.toNat l.toNat i.toNat c.toNat).toArray⟩ else ⟨#[]⟩
def pathE (h l i c : Int) : Int := if Lies h l i c 4611686018427387904 then 0 else 230
theorem bytes_eq {a b : ByteArray} (h : a.data.toList = b.data.toList) : a = b := ByteArray.ext (Array.toList_inj.1 h)
end Go.Proofs.YtaaldkkfedinpaaDoor
