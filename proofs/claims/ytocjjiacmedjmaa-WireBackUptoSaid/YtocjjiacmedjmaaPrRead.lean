/- The program's reader of a proof: the numbers that the kind names; all of it. -/
import Derived.Test.YtocjjiacmedjmaaPr
import Derived.Test.YtocjjiacmedjmaaProof
import Derived.Deep.RegionHeld3
set_option maxRecDepth 100000
namespace Go.Proofs.Ytocjjiacmedjmaa
open Go Go.RowKit

/-- The numbers that the kind names. -/
def rdFields (s : ByteArray) (k : Nat) (st : St) : Nat × Nat × List Int × St :=
  if k = 1 ∨ k = 2 then ((rdNum s 4611686018427387904 10 st).1, 0, [], (rdNum s 4611686018427387904 10 st).2)
  else if k = 3 then ((rdNum s 4611686018427387904 10 st).1, (rdNum s 4611686018427387904 10 (rdNum s 4611686018427387904 10 st).2).1, [], (rdNum s 4611686018427387904 10 (rdNum s 4611686018427387904 10 st).2).2)
  else (0, 0, (rdPlaces s st).1, (rdPlaces s st).2)
/-- Behind the numbers: the state, the fields. -/
def PrN (b : Nat) (s : ByteArray) (st : St) (k wd : Value) (a bb n : Nat) (xs : List Int) (hv : Value) (w : World) (e : Ending) (w' : World) : Prop :=
  e = .returned (.tuple #[]) ∧ ∃ ao cap, PrAt b s st [k, wd, .int .i64 a, .int .i64 bb, .int .i64 n, .slice ao xs.length cap, hv] w' ∧ w'.ownsRow w.heap.size 3 1 (.slice ao xs.length cap) xs.length (ints xs) ∧ w.grownBy w' (some b)

set_option maxHeartbeats 4000000 in
theorem wire_readNumbers (b : Nat) (s : ByteArray) (st0 : St) (k : Nat) (wd hv : Value) (hs : s.size ≤ 140737488355328) (w : World) (h : PrAt b s st0 [.int .i64 k, wd, .int .i64 0, .int .i64 0, .int .i64 0, .slice none 0 0, hv] w) :
    Calls Try.prog 54 #[.pointer (some ⟨b, 0, none⟩)] w
      (PrN b s (rdNum s 4611686018427387904 10 (rdFields s k st0).2.2.2).2 (.int .i64 k) wd (rdFields s k st0).1 (rdFields s k st0).2.1 (rdNum s 4611686018427387904 10 (rdFields s k st0).2.2.2).1 (rdFields s k st0).2.2.1 hv w) := by
  have H0 := hid h
  have hblo := h.rd.lt
  have hsz := hid (fun (st : St) W (hW : Rd b s st W) => wire_size b s st hs W hW)
  have hpl := hid (wire_places b s st0 (.int .i64 k) wd (.int .i64 0) (.int .i64 0) (.int .i64 0) hv hs w h)
  have hk0 := h.cell 0 _ rfl
  clear h
  rcases (show (k = 1 ∨ k = 2) ∨ k = 3 ∨ (k ≠ 1 ∧ k ≠ 2 ∧ k ≠ 3) by omega) with hk | rfl | ⟨h1, h2, h3⟩
  · have HF : Hid (rdFields s k st0 = ((rdNum s 4611686018427387904 10 st0).1, 0, [], (rdNum s 4611686018427387904 10 st0).2)) := by unfold Hid rdFields; rw [if_pos hk]
    rw [HF.out]
    simp only
    have s1 := hid (hsz.out st0)
    obtain ⟨⟨r1, st1⟩, hr1⟩ : ∃ r, r = rdNum s 4611686018427387904 10 st0 := ⟨_, rfl⟩
    rw [← hr1] at s1 ⊢
    simp only at s1 ⊢
    have s2 := hid (hsz.out st1)
    obtain ⟨⟨r2, st2⟩, hr2⟩ : ∃ r, r = rdNum s 4611686018427387904 10 st1 := ⟨_, rfl⟩
    rw [← hr2] at s2 ⊢
    simp only at s2 ⊢
    clear hr1 hr2 HF hpl hsz
    rcases hk with rfl | rfl
    all_goals
      go_enter Try.func54, Try.ntmps54
      go_wp2_with fail
      refine (s1.out _ H0.out.rd).mono ?_
      rintro e w1 ⟨rfl, h1, b1⟩
      have P1 := hid (H0.out.only h1 b1)
      have G1 := hid (grownBy_only b1)
      have hc5 : w1.cell? ⟨b, 5, none⟩ = some (.int .i64 0) := P1.out.cell 2 _ rfl
      have hf5 := P1.out.fz 5
      clear h1 b1
      go_wp2_with fail
      have P2 := hid (P1.out.set (i := 2) (by simp) (.int .i64 r1))
      have G2 := hid (grownBy_two G1.out (grownBy_set b 5 w1 (.int .i64 r1)))
      clear hc5 hf5
      refine (s2.out _ P2.out.rd).mono ?_
      rintro e w3 ⟨rfl, h3, b3⟩
      have P3 := hid (P2.out.only h3 b3)
      have G3 := hid (grownBy_two G2.out (grownBy_only b3))
      have hc7 : w3.cell? ⟨b, 7, none⟩ = some (.int .i64 0) := P3.out.cell 4 _ rfl
      have hf7 := P3.out.fz 7
      clear h3 b3
      go_wp2_with fail
      go_end0
      exact ⟨rfl, none, 0, P3.out.set (i := 4) (by simp) (.int .i64 r2), World.ownsRow_nil _ _ _ _, grownBy_two G3.out (grownBy_set b 7 w3 (.int .i64 r2))⟩
  · have HF : Hid (rdFields s 3 st0 = ((rdNum s 4611686018427387904 10 st0).1, (rdNum s 4611686018427387904 10 (rdNum s 4611686018427387904 10 st0).2).1, [], (rdNum s 4611686018427387904 10 (rdNum s 4611686018427387904 10 st0).2).2)) := by
      unfold Hid rdFields; rw [if_neg (by omega), if_pos rfl]
    rw [HF.out]
    simp only
    have s1 := hid (hsz.out st0)
    obtain ⟨⟨r1, st1⟩, hr1⟩ : ∃ r, r = rdNum s 4611686018427387904 10 st0 := ⟨_, rfl⟩
    rw [← hr1] at s1 ⊢
    simp only at s1 ⊢
    have s2 := hid (hsz.out st1)
    obtain ⟨⟨r2, st2⟩, hr2⟩ : ∃ r, r = rdNum s 4611686018427387904 10 st1 := ⟨_, rfl⟩
    rw [← hr2] at s2 ⊢
    simp only at s2 ⊢
    have s3 := hid (hsz.out st2)
    obtain ⟨⟨r3, st3⟩, hr3⟩ : ∃ r, r = rdNum s 4611686018427387904 10 st2 := ⟨_, rfl⟩
    rw [← hr3] at s3 ⊢
    simp only at s3 ⊢
    clear hr1 hr2 hr3 HF hpl hsz
    go_enter Try.func54, Try.ntmps54
    go_wp2_with fail
    refine (s1.out _ H0.out.rd).mono ?_
    rintro e w1 ⟨rfl, h1, b1⟩
    have P1 := hid (H0.out.only h1 b1)
    have G1 := hid (grownBy_only b1)
    have hc5 : w1.cell? ⟨b, 5, none⟩ = some (.int .i64 0) := P1.out.cell 2 _ rfl
    have hf5 := P1.out.fz 5
    clear h1 b1
    go_wp2_with fail
    have P2 := hid (P1.out.set (i := 2) (by simp) (.int .i64 r1))
    have G2 := hid (grownBy_two G1.out (grownBy_set b 5 w1 (.int .i64 r1)))
    clear hc5 hf5
    refine (s2.out _ P2.out.rd).mono ?_
    rintro e w3 ⟨rfl, h3, b3⟩
    have P3 := hid (P2.out.only h3 b3)
    have G3 := hid (grownBy_two G2.out (grownBy_only b3))
    have hc6 : w3.cell? ⟨b, 6, none⟩ = some (.int .i64 0) := P3.out.cell 3 _ rfl
    have hf6 := P3.out.fz 6
    clear h3 b3
    go_wp2_with fail
    have P4 := hid (P3.out.set (i := 3) (by simp) (.int .i64 r2))
    have G4 := hid (grownBy_two G3.out (grownBy_set b 6 w3 (.int .i64 r2)))
    clear hc6 hf6
    refine (s3.out _ P4.out.rd).mono ?_
    rintro e w5 ⟨rfl, h5, b5⟩
    have P5 := hid (P4.out.only h5 b5)
    have G5 := hid (grownBy_two G4.out (grownBy_only b5))
    have hc7 : w5.cell? ⟨b, 7, none⟩ = some (.int .i64 0) := P5.out.cell 4 _ rfl
    have hf7 := P5.out.fz 7
    clear h5 b5
    go_wp2_with fail
    go_end0
    exact ⟨rfl, none, 0, P5.out.set (i := 4) (by simp) (.int .i64 r3), World.ownsRow_nil _ _ _ _, grownBy_two G5.out (grownBy_set b 7 w5 (.int .i64 r3))⟩
  · have HF : Hid (rdFields s k st0 = (0, 0, (rdPlaces s st0).1, (rdPlaces s st0).2)) := by unfold Hid rdFields; rw [if_neg (by omega), if_neg h3]
    rw [HF.out]
    simp only
    obtain ⟨⟨xs, st1⟩, hr1⟩ : ∃ r, r = rdPlaces s st0 := ⟨_, rfl⟩
    rw [← hr1] at hpl ⊢
    simp only at hpl ⊢
    have s2 := hid (hsz.out st1)
    obtain ⟨⟨r2, st2⟩, hr2⟩ : ∃ r, r = rdNum s 4611686018427387904 10 st1 := ⟨_, rfl⟩
    rw [← hr2] at s2 ⊢
    simp only at s2 ⊢
    have k1 : ((k : Int) == 1) = false := beq_eq_false_iff_ne.2 (by omega)
    have k2 : ((k : Int) == 2) = false := beq_eq_false_iff_ne.2 (by omega)
    have k3 : ((k : Int) == 3) = false := beq_eq_false_iff_ne.2 (by omega)
    clear hr1 hr2 HF hsz h1 h2 h3
    go_enter Try.func54, Try.ntmps54
    go_wp2_with fail
    refine hpl.out.mono ?_
    rintro e w1 ⟨rfl, ao, cap, p1, o1, g1⟩
    have P1 := hid p1
    have O1 := hid o1
    have G1 := hid g1
    clear p1 o1 g1
    go_wp2_with fail
    refine (s2.out _ P1.out.rd).mono ?_
    rintro e w3 ⟨rfl, h3, b3⟩
    have P3 := hid (P1.out.only h3 b3)
    have G3 := hid (grownBy_two G1.out (grownBy_only b3))
    have O3 := hid (own_only O1.out b3 hblo)
    have hc7 : w3.cell? ⟨b, 7, none⟩ = some (.int .i64 0) := P3.out.cell 4 _ rfl
    have hf7 := P3.out.fz 7
    clear h3 b3
    go_wp2_with fail
    go_end0
    exact ⟨rfl, ao, cap, P3.out.set (i := 4) (by simp) (.int .i64 r2), RowKit.ownsRow_setCell_below (a := ⟨b, 7, none⟩) O3.out hblo _, grownBy_two G3.out (grownBy_set b 7 w3 (.int .i64 r2))⟩

/-- What is read of a proof, step by step. -/
def upW (s : ByteArray) : Nat × St := rdWidth s (rdMark s 80 (.ok 0))
def upK (s : ByteArray) : Nat × St := rdNum s 4 110 (upW s).2
def upSt3 (s : ByteArray) : St := if (upK s).1 < 1 then stNo 110 (upK s).2 else (upK s).2
def upF (s : ByteArray) : Nat × Nat × List Int × St := rdFields s (upK s).1 (upSt3 s)
def upN (s : ByteArray) : Nat × St := rdNum s 4611686018427387904 10 (upF s).2.2.2
def upC (s : ByteArray) : Int × Int := countN (upK s).1 (upF s).1 (upF s).2.1 (upN s).1 (upF s).2.2.1
def upSt5 (s : ByteArray) : St := if (upC s).2 ≠ 0 then stNo (upC s).2 (upN s).2 else (upN s).2
def upH (s : ByteArray) : List ByteArray × St := rdHashes s (upW s).1 (upC s).1.toNat (upSt5 s) []
def upSt (s : ByteArray) : St := match (upN s).2 with | .error e => .error e | .ok _ => (upH s).2
theorem countN_nonneg (k a b n : Int) (xs : List Int) : 0 ≤ (countN k a b n xs).1 := by
  unfold countN
  split
  · simp
  · split
    · simp
    · split
      · split
        · simp
        · simp only; omega
      · split
        · split
          · simp
          · split
            · simp
            · simp only; omega
        · split
          · split
            · simp
            · simp only; omega
          · split
            · simp only; omega
            · simp
theorem countN_bound (k a b n : Int) (xs : List Int) : (countN k a b n xs).1 ≤ 65536 := by
  by_cases h : (countN k a b n xs).2 = 0
  · exact count_le k a b n xs (Prod.ext rfl h)
  · revert h
    unfold countN
    split
    · simp
    · split
      · simp
      · split
        · split <;> simp
        · split
          · split
            · simp
            · split <;> simp
          · split
            · split <;> simp
            · split <;> simp
/-- Behind all of it: refused, or the fields. -/
def PrR (b : Nat) (s : ByteArray) (w : World) (e : Ending) (w' : World) : Prop :=
  e = .returned (.tuple #[]) ∧ w.grownBy w' (some b) ∧
  ((∃ er cs, (upN s).2 = .error er ∧ PrAt b s (.error er) cs w') ∨
   (∃ p ao cap ho hcap, (upN s).2 = .ok p ∧ PrAt b s (upH s).2 [.int .i64 (upK s).1, .int .i64 (upW s).1, .int .i64 (upF s).1, .int .i64 (upF s).2.1, .int .i64 (upN s).1, .slice ao (upF s).2.2.1.length cap, .slice ho (upH s).1.length hcap] w' ∧
      w'.ownsRow w.heap.size 3 1 (.slice ao (upF s).2.2.1.length cap) (upF s).2.2.1.length (ints (upF s).2.2.1) ∧ w'.ownsRow w.heap.size 9 1 (.slice ho (upH s).1.length hcap) (upH s).1.length (strs' (upH s).1)))

theorem rdPlaces_len (s : ByteArray) (st : St) : (rdPlaces s st).1.length ≤ 1024 := by
  have h1 := rdPl_len s (rdNum s 1024 83 st).1 (-1) (rdNum s 1024 83 st).2 []
  have h2 := rdNum_le s 1024 83 st
  unfold rdPlaces
  simp at h1; omega
theorem upF_len (s : ByteArray) : (upF s).2.2.1.length ≤ 1024 := by
  unfold upF rdFields
  split
  · simp
  · split
    · simp
    · exact rdPlaces_len _ _
set_option maxHeartbeats 8000000 in
theorem wire_read (b : Nat) (s : ByteArray) (hs : s.size ≤ 140737488355328) (w : World) (h : PrAt b s (.ok 0) [.int .i64 0, .int .i64 0, .int .i64 0, .int .i64 0, .int .i64 0, .slice none 0 0, .slice none 0 0] w) :
    Calls Try.prog 34 #[.pointer (some ⟨b, 0, none⟩)] w (PrR b s w) := by
  have H0 := hid h
  have hblo := h.rd.lt
  have hwle := rdWidth_le s (rdMark s 80 (.ok 0))
  have hfl := upF_len s
  have hmark := hid (wire_mark b s (.ok 0) 80 (by decide) hs w h.rd)
  have hwd := hid (fun W (hW : Rd b s (rdMark s 80 (.ok 0)) W) => wire_width b s (rdMark s 80 (.ok 0)) hs W hW)
  have hnk := hid (fun W (hW : Rd b s (upW s).2 W) => wire_readNumber b s (upW s).2 4 110 (by decide) (by decide) hs W hW)
  have hrf := hid (fun (st : St) k (hk : k ≠ 0) W (hW : Rd b s st W) => wire_refuse b s st k hk W hW)
  have hnn := hid (fun W (wd hv : Value) (hW : PrAt b s (upSt3 s) [.int .i64 (upK s).1, wd, .int .i64 0, .int .i64 0, .int .i64 0, .slice none 0 0, hv] W) => wire_readNumbers b s (upSt3 s) (upK s).1 wd hv hs W hW)
  have hcn := hid (fun W (ao : Option Addr) (cap : Nat) (hW : RowAt W ao (ints (upF s).2.2.1)) => count_at (upK s).1 (upF s).1 (upF s).2.1 (upN s).1 ao (upF s).2.2.1 cap (upC s).1 (upC s).2 rfl W hW (by omega))
  have hhs := hid (fun W (hW : Rd b s (upSt5 s) W) => wire_hashes b s (upSt5 s) (upC s).1.toNat (upW s).1 (by have := countN_bound (upK s).1 (upF s).1 (upF s).2.1 (upN s).1 (upF s).2.2.1; unfold upC; omega) (by unfold upW; omega) hs W hW)
  have hc0 : 0 ≤ (upC s).1 := countN_nonneg _ _ _ _ _
  obtain ⟨cn, hcn1⟩ := Int.eq_ofNat_of_zero_le hc0
  change Hid (∀ W, Rd b s (rdMark s 80 (.ok 0)) W → Calls Try.prog 39 #[.pointer (some ⟨b, 0, none⟩)] W fun e w' => e = .returned (.int .i64 (upW s).1) ∧ Rd b s (upW s).2 w' ∧ Only b W w') at hwd
  change Hid (∀ W, Rd b s (upW s).2 W → Calls Try.prog 43 #[.pointer (some ⟨b, 0, none⟩), .int .i64 (4 : Nat), .int .i64 110] W fun e w' => e = .returned (.int .i64 (upK s).1) ∧ Rd b s (upK s).2 w' ∧ Only b W w') at hnk
  change Hid (∀ W wd hv, PrAt b s (upSt3 s) [.int .i64 (upK s).1, wd, .int .i64 0, .int .i64 0, .int .i64 0, .slice none 0 0, hv] W → Calls Try.prog 54 #[.pointer (some ⟨b, 0, none⟩)] W
      (PrN b s (upN s).2 (.int .i64 (upK s).1) wd (upF s).1 (upF s).2.1 (upN s).1 (upF s).2.2.1 hv W)) at hnn
  change Hid (∀ W, Rd b s (upSt5 s) W → Calls Try.prog 42 #[.pointer (some ⟨b, 0, none⟩), .int .i64 (upC s).1.toNat, .int .i64 (upW s).1] W (RdHs b s (upH s) W)) at hhs
  have h3 : upSt3 s = if (upK s).1 < 1 then stNo 110 (upK s).2 else (upK s).2 := rfl
  have h5 : upSt5 s = if (upC s).2 ≠ 0 then stNo (upC s).2 (upN s).2 else (upN s).2 := rfl
  unfold PrR
  rw [hcn1] at hcn hhs
  rw [Int.toNat_natCast] at hhs
  obtain ⟨ce, hce⟩ : ∃ e, e = (upC s).2 := ⟨_, rfl⟩
  rw [← hce] at hcn h5
  obtain ⟨⟨wd, st1⟩, hw1⟩ : ∃ r, r = upW s := ⟨_, rfl⟩
  obtain ⟨⟨kn, st2⟩, hw2⟩ : ∃ r, r = upK s := ⟨_, rfl⟩
  obtain ⟨st3, hw3⟩ : ∃ r, r = upSt3 s := ⟨_, rfl⟩
  obtain ⟨⟨fa, fb, xs, st4⟩, hw4⟩ : ∃ r, r = upF s := ⟨_, rfl⟩
  obtain ⟨⟨nn, st5⟩, hw5⟩ : ∃ r, r = upN s := ⟨_, rfl⟩
  obtain ⟨st6, hw6⟩ : ∃ r, r = upSt5 s := ⟨_, rfl⟩
  obtain ⟨⟨zs, st7⟩, hw7⟩ : ∃ r, r = upH s := ⟨_, rfl⟩
  rw [← hw1] at hwd hnk hhs ⊢
  rw [← hw2] at hnk hnn h3 hcn ⊢
  rw [← hw3] at hnn h3
  rw [← hw4] at hnn hcn hfl ⊢
  rw [← hw5] at hnn hcn h5 ⊢
  rw [← hw6] at hhs h5
  rw [← hw7] at hhs ⊢
  simp only at hwd hnk hnn hcn hhs h3 h5 hfl ⊢
  have H3 := hid h3
  have H5 := hid h5
  clear hw1 hw2 hw3 hw4 hw5 hw6 hw7 hce hcn1 hc0 h h3 h5 hwle
  go_enter Try.func34, Try.ntmps34
  go_wp2_with fail
  refine hmark.out.mono ?_
  rintro e w1 ⟨rfl, h1, b1⟩
  have P1 := hid (H0.out.only h1 b1)
  have G1 := hid (grownBy_only b1)
  clear h1 b1 hmark H0
  go_wp2_with fail
  refine (hwd.out _ P1.out.rd).mono ?_
  rintro e w2 ⟨rfl, h2, b2⟩
  have P2 := hid (P1.out.only h2 b2)
  have G2 := hid (grownBy_two G1.out (grownBy_only b2))
  have hc4 : w2.cell? ⟨b, 4, none⟩ = some (.int .i64 0) := P2.out.cell 1 _ rfl
  have hf4 := P2.out.fz 4
  clear h2 b2 P1 G1
  go_wp2_with fail
  have P3 := hid (P2.out.set (i := 1) (by simp) (.int .i64 wd))
  have G3 := hid (grownBy_two G2.out (grownBy_set b 4 w2 (.int .i64 wd)))
  clear hc4 hf4 P2 G2
  refine (hnk.out _ P3.out.rd).mono ?_
  rintro e w4 ⟨rfl, h4, b4⟩
  have P4 := hid (P3.out.only h4 b4)
  have G4 := hid (grownBy_two G3.out (grownBy_only b4))
  have hc3 : w4.cell? ⟨b, 3, none⟩ = some (.int .i64 0) := P4.out.cell 0 _ rfl
  have hf3 := P4.out.fz 3
  clear h4 b4 P3 G3
  have P5 := hid (P4.out.set (i := 0) (by simp) (.int .i64 kn))
  have G5 := hid (grownBy_two G4.out (grownBy_set b 3 w4 (.int .i64 kn)))
  clear P4 G4
  by_cases hk1 : kn < 1
  case' pos =>
    have E3 : Hid (st3 = stNo 110 st2) := by unfold Hid; rw [H3.out, if_pos hk1]
    have hc3' : (w4.setCell ⟨b, 3, none⟩ (.int .i64 kn)).cell? ⟨b, 3, none⟩ = some (.int .i64 kn) := P5.out.cell 0 _ rfl
    have hk1' : (kn : Int) < 1 := by omega
    go_wp2_with fail
    refine (hrf.out _ 110 (by decide) _ P5.out.rd).mono ?_
    clear hc3 hf3 hc3'
    rintro e w6 ⟨rfl, h6, b6⟩
    have P6 := hid (P5.out.only h6 b6)
    have G6 := hid (grownBy_two G5.out (grownBy_only b6))
    rw [← E3.out] at P6
    clear h6 b6 P5 G5
    go_wp2_with fail
  case' neg =>
    have E3 : Hid (st3 = st2) := by unfold Hid; rw [H3.out, if_neg hk1]
    have hc3' : (w4.setCell ⟨b, 3, none⟩ (.int .i64 kn)).cell? ⟨b, 3, none⟩ = some (.int .i64 kn) := P5.out.cell 0 _ rfl
    have hk1' : ¬ (kn : Int) < 1 := by omega
    go_wp2_with fail
    have P6 := P5
    have G6 := G5
    rw [← E3.out] at P6
    clear hc3 hf3 hc3' P5 G5
  all_goals
    refine (hnn.out _ _ _ P6.out).mono ?_
    rintro e w7 ⟨rfl, ao, cap, p7, o7, g7⟩
    have P7 := hid p7
    have O7 := hid o7
    have hsw := G6.out.size
    have G7 := hid (grownBy_two G6.out g7)
    have O7' := hid (own_lower o7 hsw)
    clear p7 o7 g7 P6 G6
    cases st5 with
    | error er =>
      obtain ⟨c0, f1, f2, he, c2, q, c1, hq⟩ := P7.out.rd
      have he' : (er != 0) = true := bne_iff_ne.2 he
      go_wp2_with fail
      refine bodyPost_ret (results_none rfl _ _ _) rfl ?_
      exact ⟨rfl, G7.out, .inl ⟨er, _, rfl, P7.out⟩⟩
    | ok p =>
      obtain ⟨c0, f1, f2, c1, c2, hq⟩ := P7.out.rd
      have d0 : w7.cell? ⟨b, 3, none⟩ = _ := P7.out.cell 0 _ rfl
      have d1 : w7.cell? ⟨b, 4, none⟩ = _ := P7.out.cell 1 _ rfl
      have d2 : w7.cell? ⟨b, 5, none⟩ = _ := P7.out.cell 2 _ rfl
      have d3 : w7.cell? ⟨b, 6, none⟩ = _ := P7.out.cell 3 _ rfl
      have d4 : w7.cell? ⟨b, 7, none⟩ = _ := P7.out.cell 4 _ rfl
      have d5 : w7.cell? ⟨b, 8, none⟩ = _ := P7.out.cell 5 _ rfl
      go_wp2_with fail
      obtain ⟨ao', cap', hv', -, hr7⟩ := own_row O7.out
      cases hv'
      have R7 : Hid (RowAt w7.drew ao (ints xs)) := hr7
      clear hr7
      go_region_held3 (fun w' => w'.cell? ⟨b, 3, none⟩ = some (.int .i64 kn) ∧ w'.cell? ⟨b, 5, none⟩ = some (.int .i64 fa) ∧ w'.cell? ⟨b, 6, none⟩ = some (.int .i64 fb) ∧ w'.cell? ⟨b, 7, none⟩ = some (.int .i64 nn) ∧ w'.cell? ⟨b, 8, none⟩ = some (.slice ao xs.length cap)) (go_keep)
        ((go_at_call 23; refine Calls.mono (hcn.out _ ao cap R7.out) ?_; rintro e w8 ⟨rfl, b8⟩; have P8 := hid (P7.out.drew.below b8); have G8 := hid (grownBy_two (grownBy_drew G7.out) (grownBy_of_below b8 (some b))); have O8 := hid (World.ownsRow.kept (w := w7.drew) O7'.out (grownBy_of_below b8 none) (by cases ao <;> simp [Value.ownBlock])); have k3 : w8.cell? ⟨b, 3, none⟩ = some (.int .i64 kn) := P8.out.cell 0 _ rfl; have k5 : w8.cell? ⟨b, 5, none⟩ = some (.int .i64 fa) := P8.out.cell 2 _ rfl; have k6 : w8.cell? ⟨b, 6, none⟩ = some (.int .i64 fb) := P8.out.cell 3 _ rfl; have k7 : w8.cell? ⟨b, 7, none⟩ = some (.int .i64 nn) := P8.out.cell 4 _ rfl; have k8 : w8.cell? ⟨b, 8, none⟩ = some (.slice ao xs.length cap) := P8.out.cell 5 _ rfl; clear b8))
      clear d0 d1 d2 d3 d4 d5 k3 k5 k6 k7 k8 c0 f1 f2 c1 c2 P7 G7
      by_cases he : ce ≠ 0
      case' pos =>
        have E5 : Hid (st6 = stNo ce (.ok p)) := by unfold Hid; rw [H5.out, if_pos he]
        have he' : (ce != 0) = true := bne_iff_ne.2 he
        go_wp2_with fail
        refine (hrf.out _ ce he _ P8.out.rd).mono ?_
        rintro e w9 ⟨rfl, h9, b9⟩
        have P9 := hid (P8.out.only h9 b9)
        have G9 := hid (grownBy_two G8.out (grownBy_only b9))
        have O9 := hid (own_only O8.out b9 hblo)
        rw [← E5.out] at P9
        clear h9 b9 P8 G8 O8
        go_wp2_with fail
      case' neg =>
        have E5 : Hid (st6 = .ok p) := by unfold Hid; rw [H5.out, if_neg he]
        obtain rfl : ce = 0 := by omega
        go_wp2_with fail
        have P9 := P8
        have G9 := G8
        have O9 := O8
        rw [← E5.out] at P9
        clear P8 G8 O8
      all_goals
        have e4 : World.cell? _ ⟨b, 4, none⟩ = some (.int .i64 wd) := P9.out.cell 1 _ rfl
        have hsz9 := G9.out.size
        go_region_held3 (fun w' => w'.cell? ⟨b, 4, none⟩ = some (.int .i64 wd)) (go_keep)
          ((go_at_call 42; refine Calls.mono (hhs.out _ (by exact P9.out.rd)) ?_; rintro e w10 ⟨v, rfl, o10, h10, b10⟩; rw [strs'_length] at o10; obtain ⟨ho, hcap, hv⟩ := own_val o10; subst hv; have P10 := hid (P9.out.drew.only h10 b10); have G10 := hid (grownBy_two (grownBy_drew G9.out) (grownBy_only b10)); have O10 := hid (own_only (by exact O9.out) b10 hblo); have Z10 := hid (own_lower o10 hsz9); have k4 : w10.cell? ⟨b, 4, none⟩ = some (.int .i64 wd) := P10.out.cell 1 _ rfl; have k4' : ∀ v, (w10.setCell ⟨b, 9, none⟩ v).cell? ⟨b, 4, none⟩ = some (.int .i64 wd) := (fun v => (World.cell?_setCell_other _ _ _ _ (by intro e; cases e)).trans k4); have k9 : w10.cell? ⟨b, 9, none⟩ = some (.slice none 0 0) := P10.out.cell 6 _ rfl; have f9 := P10.out.fz 9; clear o10 h10 b10))
        go_wp2_with fail
        go_end0
        exact ⟨rfl, grownBy_two G10.out (grownBy_set _ _ _ _), .inr ⟨p, ao, cap, ho, hcap, rfl, P10.out.set (i := 6) (by simp) _, RowKit.ownsRow_setCell_below (a := ⟨b, 9, none⟩) O10.out hblo _, RowKit.ownsRow_setCell_below (a := ⟨b, 9, none⟩) Z10.out hblo _⟩⟩
end Go.Proofs.Ytocjjiacmedjmaa
