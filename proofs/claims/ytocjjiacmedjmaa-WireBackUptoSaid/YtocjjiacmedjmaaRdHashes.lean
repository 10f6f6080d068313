/- Both readers' width and hashes. -/
import Derived.Test.YtocjjiacmedjmaaHashes
set_option maxRecDepth 100000
namespace Go.Proofs.Ytocjjiacmedjmaa
open Go Go.RowKit

/-- The width byte. -/
def rdWidth (s : ByteArray) (st : St) : Nat × St :=
  match st with
  | .error k => (0, .error k)
  | .ok p => if h : p < s.size then (if (s[p]'h).toNat < 1 ∨ 32 < (s[p]'h).toNat then (0, .error 10) else ((s[p]'h).toNat, .ok (p + 1))) else (0, .error 12)
theorem rdWidth_le (s : ByteArray) (st : St) : (rdWidth s st).1 ≤ 32 := by
  unfold rdWidth
  cases st with
  | error k => simp
  | ok p =>
    simp only
    split
    · split
      · simp
      · simp only; omega
    · simp
theorem wire_width (b : Nat) (s : ByteArray) (st : St) (hs : s.size ≤ 140737488355328) (w : World) (h : Rd b s st w) :
    Calls Try.prog 39 #[.pointer (some ⟨b, 0, none⟩)] w fun e w' => e = .returned (.int .i64 (rdWidth s st).1) ∧ Rd b s (rdWidth s st).2 w' ∧ Only b w w' := by
  have hb := hid (wire_bytes b s st 1 hs (by decide) w h)
  cases st with
  | error e =>
    clear h
    have e : (rdBytes s 1 (.error e)).1 = ⟨#[]⟩ := rfl
    rw [e] at hb
    go_enter Try.func39, Try.ntmps39
    go_wp2_with fail
    refine hb.out.mono ?_
    rintro e w1 ⟨rfl, h1, b1⟩
    have H1 := hid h1; have B1 := hid b1; clear h1 b1
    go_wp2_with fail
    go_ret
    exact ⟨rfl, H1.out, B1.out⟩
  | ok p =>
    clear h
    by_cases hp : p < s.size
    · rw [rdBytes_one s p hp] at hb
      have hcb : (s[p]'hp).toNat < 256 := UInt8.toNat_lt _
      have hlo : 0 ≤ ((((⟨#[s[p]'hp]⟩ : ByteArray)[0]'Nat.zero_lt_one).toNat : Int)) := by omega
      have hhi : ((((⟨#[s[p]'hp]⟩ : ByteArray)[0]'Nat.zero_lt_one).toNat : Int)) ≤ 255 := by show (((s[p]'hp).toNat : Int)) ≤ 255; omega
      by_cases hc : (s[p]'hp).toNat < 1 ∨ 32 < (s[p]'hp).toNat
      · have E : Hid (rdWidth s (.ok p) = (0, .error 10)) := by unfold Hid; simp only [rdWidth, dif_pos hp, if_pos hc]
        go_enter Try.func39, Try.ntmps39
        go_wp2_with fail
        refine hb.out.mono ?_
        rintro e w1 ⟨rfl, h1, b1⟩
        have B1 := hid b1
        have hr := hid (wire_refuse b s (.ok (p + 1)) 10 (by decide) w1 h1); clear h1 b1
        rcases hc with hc | hc
        · have hc' : ((((⟨#[s[p]'hp]⟩ : ByteArray)[0]'Nat.zero_lt_one).toNat : Int)) < 1 := by show (((s[p]'hp).toNat : Int)) < 1; omega
          go_wp2_with fail
          refine hr.out.mono ?_
          rintro e w2 ⟨rfl, h2, b2⟩
          have H2 := hid h2; have B2 := hid (B1.out.trans b2); clear h2 b2
          go_wp2_with fail
          go_ret
          exact ⟨by rw [E.out]; rfl, by rw [E.out]; exact H2.out, B2.out⟩
        · have hc' : (32 : Int) < ((((⟨#[s[p]'hp]⟩ : ByteArray)[0]'Nat.zero_lt_one).toNat : Int)) := by show (32 : Int) < (((s[p]'hp).toNat : Int)); omega
          have hc2 : ¬ ((((⟨#[s[p]'hp]⟩ : ByteArray)[0]'Nat.zero_lt_one).toNat : Int)) < 1 := by omega
          go_wp2_with fail
          refine hr.out.mono ?_
          rintro e w2 ⟨rfl, h2, b2⟩
          have H2 := hid h2; have B2 := hid (B1.out.trans b2); clear h2 b2
          go_wp2_with fail
          go_ret
          exact ⟨by rw [E.out]; rfl, by rw [E.out]; exact H2.out, B2.out⟩
      · have E : Hid (rdWidth s (.ok p) = ((s[p]'hp).toNat, .ok (p + 1))) := by unfold Hid; simp only [rdWidth, dif_pos hp, if_neg hc]
        have hc1 : ¬ ((((⟨#[s[p]'hp]⟩ : ByteArray)[0]'Nat.zero_lt_one).toNat : Int)) < 1 := by show ¬ (((s[p]'hp).toNat : Int)) < 1; omega
        have hc2 : ¬ (32 : Int) < ((((⟨#[s[p]'hp]⟩ : ByteArray)[0]'Nat.zero_lt_one).toNat : Int)) := by show ¬ (32 : Int) < (((s[p]'hp).toNat : Int)); omega
        clear hc
        go_enter Try.func39, Try.ntmps39
        go_wp2_with fail
        refine hb.out.mono ?_
        rintro e w1 ⟨rfl, h1, b1⟩
        have H1 := hid h1; have B1 := hid b1; clear h1 b1
        go_wp2_with fail
        go_ret
        exact ⟨by rw [E.out]; rfl, by rw [E.out]; exact H1.out, B1.out⟩
    · have E : Hid (rdWidth s (.ok p) = (0, .error 12)) := by unfold Hid; simp only [rdWidth, dif_neg hp]
      have e2 : rdBytes s 1 (.ok p) = (⟨#[]⟩, .error 12) := by simp only [rdBytes, if_pos (show s.size - p < 1 by omega)]
      rw [e2] at hb
      go_enter Try.func39, Try.ntmps39
      go_wp2_with fail
      refine hb.out.mono ?_
      rintro e w1 ⟨rfl, h1, b1⟩
      have H1 := hid h1; have B1 := hid b1; clear h1 b1
      go_wp2_with fail
      go_ret
      exact ⟨by rw [E.out]; rfl, by rw [E.out]; exact H1.out, B1.out⟩

/-- The width as the reference's reader says it: of a reader that is refused, any number. -/
def Wd (s : ByteArray) (st : St) (v : Int) : Prop := ∀ p, (rdWidth s st).2 = .ok p → v = (rdWidth s st).1
/-- Hashes of k bytes, n more. -/
def rdHashes (s : ByteArray) (k : Nat) : Nat → St → List ByteArray → List ByteArray × St
  | 0, st, acc => (acc, st)
  | n + 1, st, acc => match st with
    | .error e => (acc, .error e)
    | .ok p => rdHashes s k n (rdBytes s k (.ok p)).2 (acc ++ [(rdBytes s k (.ok p)).1])
theorem rdHashes_no (s : ByteArray) (k n : Nat) (e : Int) (acc : List ByteArray) : rdHashes s k n (.error e) acc = (acc, .error e) := by
  cases n <;> rfl
theorem rdHashes_step' (s : ByteArray) (k m n : Nat) (p : Nat) (acc : List ByteArray) (h : m = n + 1) : rdHashes s k m (.ok p) acc =
    rdHashes s k n (rdBytes s k (.ok p)).2 (acc ++ [(rdBytes s k (.ok p)).1]) := by subst h; rfl
theorem rdHashes_len (s : ByteArray) (k : Nat) : ∀ n st acc, (rdHashes s k n st acc).1.length ≤ acc.length + n := by
  intro n
  induction n with
  | zero => intro st acc; simp [rdHashes]
  | succ n ih =>
    intro st acc
    cases st with
    | error k => simp [rdHashes]
    | ok p =>
      rw [rdHashes_step' s k (n + 1) n p acc rfl]
      have := ih (rdBytes s k (.ok p)).2 (acc ++ [(rdBytes s k (.ok p)).1])
      simp at this
      omega
theorem Only.grow {b : Nat} {w W w1 : World} (h : Only b w W) (k : Below w.heap.size W w1) (hb : b < w.heap.size) : Only b w w1 :=
  ⟨k.os.trans h.os, k.tape.trans h.tape, k.output.trans h.output, Nat.le_trans h.size k.size, fun j hj hl => (k.block j hl).trans (h.block j hj hl),
   fun i h1 h2 => (k.cell (p := ⟨b, i, none⟩) hb).trans (h.cell i h1 h2), fun i => (k.frozen (p := ⟨b, i, none⟩) hb).trans (h.frozen i)⟩
/-- What hashes answers: a row of new memory, and the reader moved. -/
def RdHs (b : Nat) (s : ByteArray) (r : List ByteArray × St) (w : World) (e : Ending) (w' : World) : Prop :=
  ∃ v, e = .returned v ∧ w'.ownsRow w.heap.size 9 1 v (strs' r.1).length (strs' r.1) ∧ Rd b s r.2 w' ∧ Only b w w'

set_option maxHeartbeats 1000000 in
theorem wire_hashes (b : Nat) (s : ByteArray) (st0 : St) (n k : Nat) (hn : n ≤ 4294967296) (hk : k ≤ 4096) (hs : s.size ≤ 140737488355328) (w : World) (h : Rd b s st0 w) :
    Calls Try.prog 42 #[.pointer (some ⟨b, 0, none⟩), .int .i64 n, .int .i64 k] w (RdHs b s (rdHashes s k n st0 []) w) := by
  have hlt0 := h.lt
  have H0 := hid h
  clear h
  go_enter Try.func42, Try.ntmps42
  go_wp2_with fail
  go_loopw [7, 8] (fun v' i' wr => ∃ (i : Nat) (acc : List ByteArray) (st : St), i' = .int .i64 i ∧ i ≤ n ∧ acc.length ≤ i ∧ Rd b s st wr ∧
    wr.ownsRow w.heap.size 9 1 v' (strs' acc).length (strs' acc) ∧ rdHashes s k (n - i) st acc = rdHashes s k n st0 [] ∧ Only b w wr) (fun _ i' _ => (n - intOf i').toNat)
  case atStart => exact ⟨0, [], st0, rfl, by omega, by simp, H0.out, World.ownsRow_nil _ _ _ _, rfl, Only.refl _ _⟩
  case round =>
    clear H0
    obtain ⟨i, acc, st, rfl, hi, hacc, hrd, hown, hrest, hbw⟩ := hrel
    have HRD := hid hrd
    have HO := hid hown
    have HB := hid hbw
    have HREST := hid hrest
    have hsz := hbw.size
    clear hown hbw hrest
    by_cases hlt : i < n
    · cases st with
      | error e =>
        have hstop : rdHashes s k (n - i) (.error e) acc = (acc, .error e) := rdHashes_no _ _ _ _ _
        obtain ⟨c0, f1, f2, he, c2, q, c1, hq⟩ := hrd
        have he' : (e == 0) = false := beq_eq_false_iff_ne.2 he
        have HU : Hid (rdHashes s k n st0 [] = (acc, .error e)) := HREST.out.symm.trans hstop
        clear hstop HREST
        go_wp2_with fail
        go_ret
        exact ⟨_, rfl, by rw [HU.out]; exact HO.out, by rw [HU.out]; exact HRD.out, HB.out⟩
      | ok p =>
        have HST := hid (HREST.out.symm.trans (rdHashes_step' s k (n - i) (n - (i + 1)) p acc (by omega)))
        have hby := hid (fun W (hW : Rd b s (.ok p) W) => wire_bytes b s (.ok p) k hs (by omega) W hW)
        obtain ⟨r3, hr3⟩ : ∃ r, r = rdBytes s k (.ok p) := ⟨_, rfl⟩
        rw [← hr3] at HST hby
        obtain ⟨x, st3⟩ := r3
        simp only at HST hby
        obtain ⟨c0, f1, f2, c1, c2, hq⟩ := hrd
        have hln : (acc.length + 1) * 16 ≤ 140737488355328 := by omega
        have hlen : (strs' acc).length = acc.length := strs'_length acc
        clear hr3 HREST
        go_wp2_with fail
        refine (hby.out _ HRD.out).mono ?_
        rintro e w3 ⟨rfl, h3, b3⟩
        have H3 := hid h3
        have hsz3 : w.heap.size ≤ w3.heap.size := Nat.le_trans hsz b3.size
        have HO3 := hid (own_only HO.out b3 (by omega))
        have HB3 := hid (HB.out.trans b3)
        clear h3 b3 HO HB hsz c0 f1 f2 c1 c2
        go_wp2_with (first
          | (at_builtin; refine wp_append1 w.heap.size rfl (.tmp 21) (.tmp 25) 23 9 (.string ⟨#[]⟩) 16 rfl Try.underlying23 info_string rfl (by decide) _ (strs' acc) (.string x) rfl rfl rfl HO3.out hsz3 (by rw [hlen]; exact hln) ?_; intro v4 w4 hown4 hb4; have H4 := hid hown4; have HR4 := hid hb4; clear hown4 hb4)
          | fail)
        go_roundw
        case rel =>
          have e : strs' (acc ++ [x]) = strs' acc ++ [.string x] := by simp [strs']
          exact ⟨i + 1, acc ++ [x], st3, by go_num, by omega, by simp; omega, H3.out.upto HR4.out hlt0, by rw [e]; exact H4.out, HST.out.symm, HB3.out.grow HR4.out hlt0⟩
        case measure => simp [intOf]; omega
    · have HU : Hid (rdHashes s k n st0 [] = (acc, st)) := by
        have := HREST.out.symm
        rw [show n - i = 0 by omega] at this
        exact this
      clear HREST
      go_wp2_with fail
      go_ret
      exact ⟨_, rfl, by rw [HU.out]; exact HO.out, by rw [HU.out]; exact HRD.out, HB.out⟩

end Go.Proofs.Ytocjjiacmedjmaa
