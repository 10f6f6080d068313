/- SHA-256 over lists of bytes, plain: the words of a block, the rounds, the padded text. No program in sight. -/
import Derived.Test.YtaaldkkfedinpaaDoorKit
import Derived.Laws.BitsAllLaws
import Derived.Laws.Closers25b
import Derived.Test.YtaaldkkfedinpaaDoorRows
import Derived.Lib.LaidTab
set_option maxRecDepth 100000
namespace Go.Proofs.YtaaldkkfedinpaaDoor
open Go Go.RowKit

/-- x turned right by n. -/
def rot (n : Nat) (x : Int) : Int := Go.bits .or .u32 (x / 2 ^ n) (x * 2 ^ (32 - n) % 4294967296)
theorem u32_lo (op : BinOp) (a b : Int) : 0 ≤ Go.bits op .u32 a b := by
  have := (bits_within op .u32 a b).1
  simpa [IntKind.min, IntKind.signed] using this
theorem u32_hi (op : BinOp) (a b : Int) : Go.bits op .u32 a b < 4294967296 := by
  have := (bits_within op .u32 a b).2
  simp [IntKind.max, IntKind.signed, IntKind.bits] at this
  omega
theorem rot_lo (n : Nat) (x : Int) : 0 ≤ rot n x := u32_lo _ _ _
theorem rot_hi (n : Nat) (x : Int) : rot n x < 4294967296 := u32_hi _ _ _
theorem u32_or_comm (a b : Int) (h1 : 0 ≤ a) (h2 : a < 4294967296) (h3 : 0 ≤ b) (h4 : b < 4294967296) : Go.bits .or .u32 a b = Go.bits .or .u32 b a := by
  rw [u32_or a b h1 h2 h3 h4, u32_or b a h3 h4 h1 h2, Nat.or_comm]
/-- The lowest a bytes of a number behind others. -/
theorem u32_or_add (v b : Nat) (hv : v < 16777216) (hb : b < 256) : Go.bits .or .u32 (v * 256 : Int) (b : Int) = ((v * 256 + b : Nat) : Int) := by
  have := u32_or_nat (v * 256) b (by omega) (by omega)
  rw [show ((v * 256 : Nat) : Int) = (v : Int) * 256 by omega] at this
  rw [this, nat_join 8 (v * 256) b (by omega) (by omega)]

/-- The number that bytes are, the highest first. -/
def beN (l : List UInt8) : Nat := l.foldl (fun v b => v * 256 + b.toNat) 0
theorem beN_snoc (l : List UInt8) (b : UInt8) : beN (l ++ [b]) = beN l * 256 + b.toNat := by simp [beN]
theorem beN_go (l : List UInt8) : ∀ v : Nat, l.foldl (fun v b => v * 256 + b.toNat) v < (v + 1) * 256 ^ l.length := by
  induction l with
  | nil => intro v; simp
  | cons b l ih =>
    intro v
    have h := ih (v * 256 + b.toNat)
    have hb := b.toNat_lt
    simp only [List.foldl_cons, List.length_cons, Nat.pow_succ]
    have h2 : (v * 256 + b.toNat + 1) * 256 ^ l.length ≤ ((v + 1) * 256) * 256 ^ l.length := Nat.mul_le_mul_right _ (by omega)
    have h3 : (v + 1) * (256 ^ l.length * 256) = ((v + 1) * 256) * 256 ^ l.length := by rw [Nat.mul_comm (256 ^ l.length) 256, Nat.mul_assoc]
    omega
theorem beN_lt (l : List UInt8) : beN l < 256 ^ l.length := by
  have := beN_go l 0
  simpa [beN] using this
/-- Word t of a block. -/
def wAt (l : List UInt8) (t : Nat) : Int := (beN ((l.drop (4 * t)).take 4) : Int)
def sig0 (x : Int) : Int := Go.bits .xor .u32 (Go.bits .xor .u32 (rot 7 x) (rot 18 x)) (x / 8)
def sig1 (x : Int) : Int := Go.bits .xor .u32 (Go.bits .xor .u32 (rot 17 x) (rot 19 x)) (x / 1024)
/-- Word t of those that follow from a block. -/
def sch (l : List UInt8) (t : Nat) : Int :=
  if h : t < 16 then wAt l t else (sig1 (sch l (t - 2)) + sch l (t - 7) + sig0 (sch l (t - 15)) + sch l (t - 16)) % 4294967296
theorem sch_low (l : List UInt8) (t : Nat) (h : t < 16) : sch l t = wAt l t := by rw [sch, dif_pos h]
theorem sch_high (l : List UInt8) (t : Nat) (h : 16 ≤ t) : sch l t = (sig1 (sch l (t - 2)) + sch l (t - 7) + sig0 (sch l (t - 15)) + sch l (t - 16)) % 4294967296 := by
  rw [sch, dif_neg (by omega)]
theorem wAt_lo (l : List UInt8) (t : Nat) : 0 ≤ wAt l t := by unfold wAt; omega
theorem wAt_hi (l : List UInt8) (t : Nat) : wAt l t < 4294967296 := by
  unfold wAt
  have h := beN_lt ((l.drop (4 * t)).take 4)
  have h2 : ((l.drop (4 * t)).take 4).length ≤ 4 := by simp; omega
  have h3 := Nat.pow_le_pow_right (n := 256) (by omega) h2
  omega
theorem sch_lo (l : List UInt8) (t : Nat) : 0 ≤ sch l t := by
  rw [sch]; split
  · exact wAt_lo _ _
  · omega
theorem sch_hi (l : List UInt8) (t : Nat) : sch l t < 4294967296 := by
  rw [sch]; split
  · exact wAt_hi _ _
  · omega

/-- The whole numbers of a listed table. -/
def numsOf : DataW Unit → List Int
  | .agg l => l.map fun d => match d with | .lit (.int _ z) => z | _ => 0
  | _ => []
/-- The rounds' constants, and where a hash begins, as the row lists them. -/
def KT : List Int := numsOf Rows.laid_annals_sha_table
def HB : List Int := numsOf Rows.laid_annals_sha_begin
theorem KT_len : KT.length = 64 := by decide +kernel
theorem HB_len : HB.length = 8 := by decide +kernel
theorem KT_ok : ∀ k, k < 64 → 0 ≤ KT.getD k 0 ∧ KT.getD k 0 < 4294967296 := by decide +kernel
/-- The program's two tables lie there. -/
def GlobP (w : World) : Prop := (∀ i, i < 8 → w.cell? ⟨10, i, none⟩ = some (.int .u32 (HB.getD i 0))) ∧ ∀ i, i < 64 → w.cell? ⟨11, i, none⟩ = some (.int .u32 (KT.getD i 0))
theorem GlobP.below {w w' : World} (h : GlobP w) (hb : Below w.heap.size w w') : GlobP w' :=
  ⟨fun i hi => (hb.cell (World.block_lt_of_cell? w _ (h.1 i hi))).trans (h.1 i hi), fun i hi => (hb.cell (World.block_lt_of_cell? w _ (h.2 i hi))).trans (h.2 i hi)⟩
/-- The reference's likewise. -/
def GlobR (w : World) : Prop := (∀ i, i < 8 → w.cell? ⟨4, i, none⟩ = some (.int .u32 (HB.getD i 0))) ∧ ∀ i, i < 64 → w.cell? ⟨9, i, none⟩ = some (.int .u32 (KT.getD i 0))
theorem GlobR.below {w w' : World} (h : GlobR w) (hb : Below w.heap.size w w') : GlobR w' :=
  ⟨fun i hi => (hb.cell (World.block_lt_of_cell? w _ (h.1 i hi))).trans (h.1 i hi), fun i hi => (hb.cell (World.block_lt_of_cell? w _ (h.2 i hi))).trans (h.2 i hi)⟩
theorem KT_ref : numsOf Rows.laid_annals_annalsref2_table = KT := by decide +kernel
theorem HB_ref : numsOf Rows.laid_annals_annalsref2_first = HB := by decide +kernel

/-- Eight words. -/
structure S8 where (a b c d e f g h : Int)
def S8.nums (s : S8) : List Int := [s.a, s.b, s.c, s.d, s.e, s.f, s.g, s.h]
def S8.cells (s : S8) : List Value := [.int .u32 s.a, .int .u32 s.b, .int .u32 s.c, .int .u32 s.d, .int .u32 s.e, .int .u32 s.f, .int .u32 s.g, .int .u32 s.h]
def U32 (x : Int) : Prop := 0 ≤ x ∧ x < 4294967296
structure S8.ok (s : S8) : Prop where
  a : U32 s.a
  b : U32 s.b
  c : U32 s.c
  d : U32 s.d
  e : U32 s.e
  f : U32 s.f
  g : U32 s.g
  h : U32 s.h
theorem u32_mod (x : Int) : U32 (x % 4294967296) := ⟨by omega, by omega⟩
theorem S8.num_ok {s : S8} (h : s.ok) (k : Nat) : U32 (s.nums.getD k 0) := by
  match k with
  | 0 => exact h.a
  | 1 => exact h.b
  | 2 => exact h.c
  | 3 => exact h.d
  | 4 => exact h.e
  | 5 => exact h.f
  | 6 => exact h.g
  | 7 => exact h.h
  | k + 8 => exact ⟨by simp [S8.nums], by simp [S8.nums]⟩
def ch (e f g : Int) : Int := Go.bits .xor .u32 (Go.bits .and .u32 e f) (Go.bits .and .u32 (Go.bits .xor .u32 IntKind.u32.max e) g)
def maj (a b c : Int) : Int := Go.bits .xor .u32 (Go.bits .xor .u32 (Go.bits .and .u32 a b) (Go.bits .and .u32 a c)) (Go.bits .and .u32 b c)
def big1 (e : Int) : Int := Go.bits .xor .u32 (Go.bits .xor .u32 (rot 6 e) (rot 11 e)) (rot 25 e)
def big0 (a : Int) : Int := Go.bits .xor .u32 (Go.bits .xor .u32 (rot 2 a) (rot 13 a)) (rot 22 a)
def one (s : S8) (k w : Int) : Int := s.h + big1 s.e + ch s.e s.f s.g + k + w
def two (s : S8) : Int := big0 s.a + maj s.a s.b s.c
def rnd (s : S8) (k w : Int) : S8 := ⟨(one s k w + two s) % 4294967296, s.a, s.b, s.c, (s.d + one s k w) % 4294967296, s.e, s.f, s.g⟩
theorem rnd_ok {s : S8} (h : s.ok) (k w : Int) : (rnd s k w).ok := ⟨u32_mod _, h.a, h.b, h.c, u32_mod _, h.e, h.f, h.g⟩
/-- t rounds. -/
def rnds (l : List UInt8) (s : S8) : Nat → S8
  | 0 => s
  | t + 1 => rnd (rnds l s t) (KT.getD t 0) (sch l t)
theorem rnds_ok (l : List UInt8) {s : S8} (h : s.ok) (t : Nat) : (rnds l s t).ok := by
  induction t with
  | zero => exact h
  | succ t ih => exact rnd_ok ih _ _
def add8 (s v : S8) : S8 := ⟨(s.a + v.a) % 4294967296, (s.b + v.b) % 4294967296, (s.c + v.c) % 4294967296, (s.d + v.d) % 4294967296, (s.e + v.e) % 4294967296, (s.f + v.f) % 4294967296, (s.g + v.g) % 4294967296, (s.h + v.h) % 4294967296⟩
/-- One block taken. -/
def comp (s : S8) (l : List UInt8) : S8 := add8 s (rnds l s 64)
theorem comp_ok (s : S8) (l : List UInt8) : (comp s l).ok := ⟨u32_mod _, u32_mod _, u32_mod _, u32_mod _, u32_mod _, u32_mod _, u32_mod _, u32_mod _⟩
/-- The sums up to k. -/
def mixC (s v : S8) (k : Nat) : List Value := (List.range 8).map fun j => .int .u32 (if j < k then (s.nums.getD j 0 + v.nums.getD j 0) % 4294967296 else s.nums.getD j 0)
theorem mixC_length (s v : S8) (k : Nat) : (mixC s v k).length = 8 := by simp [mixC]
theorem mixC_get (s v : S8) (k j : Nat) (h : j < 8) : (mixC s v k)[j]'(by rw [mixC_length]; exact h) = .int .u32 (if j < k then (s.nums.getD j 0 + v.nums.getD j 0) % 4294967296 else s.nums.getD j 0) := by simp [mixC]
theorem mixC_zero (s v : S8) : mixC s v 0 = s.cells := rfl
theorem mixC_all (s v : S8) : mixC s v 8 = (add8 s v).cells := rfl
theorem mixC_set (s v : S8) (k : Nat) : (mixC s v k).set k (.int .u32 ((s.nums.getD k 0 + v.nums.getD k 0) % 4294967296)) = mixC s v (k + 1) := by
  refine List.ext_getElem (by simp [mixC_length]) (fun i h1 h2 => ?_)
  rw [mixC_length] at h2
  rw [List.getElem_set, mixC_get s v (k + 1) i h2]
  by_cases e : k = i
  · subst e; rw [if_pos rfl, if_pos (by omega)]
  · rw [if_neg e, mixC_get s v k i h2]
    by_cases h : i < k
    · rw [if_pos h, if_pos (by omega)]
    · rw [if_neg h, if_neg (by omega)]
theorem cells_length (s : S8) : s.cells.length = 8 := rfl
theorem cells_get (s : S8) (k : Nat) (h : k < s.cells.length) : s.cells[k]'h = .int .u32 (s.nums.getD k 0) := by
  rw [cells_length] at h
  obtain rfl | rfl | rfl | rfl | rfl | rfl | rfl | rfl : k = 0 ∨ k = 1 ∨ k = 2 ∨ k = 3 ∨ k = 4 ∨ k = 5 ∨ k = 6 ∨ k = 7 := by omega
  all_goals rfl
end Go.Proofs.YtaaldkkfedinpaaDoor
