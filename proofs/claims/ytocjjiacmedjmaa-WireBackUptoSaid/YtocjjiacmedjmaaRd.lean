/- A reader over bytes, in memory: what it holds, what its steps leave alone, what each step answers. -/
import Derived.Test.YtocjjiacmedjmaaVar
set_option maxRecDepth 100000
namespace Go.Proofs.Ytocjjiacmedjmaa
open Go Go.RowKit

/-- Where a reader stands: at a place, or refused. -/
abbrev St := Except Int Nat
/-- The reader at block b reads s and stands at st. -/
def Rd (b : Nat) (s : ByteArray) (st : St) (w : World) : Prop :=
  w.cell? ⟨b, 0, none⟩ = some (.string s) ∧ w.frozen? ⟨b, 1, none⟩ = false ∧ w.frozen? ⟨b, 2, none⟩ = false ∧
  (match st with
    | .ok p => w.cell? ⟨b, 1, none⟩ = some (.int .i64 p) ∧ w.cell? ⟨b, 2, none⟩ = some (.int .i64 0) ∧ p ≤ s.size
    | .error k => k ≠ 0 ∧ w.cell? ⟨b, 2, none⟩ = some (.int .i64 k) ∧ ∃ p : Nat, w.cell? ⟨b, 1, none⟩ = some (.int .i64 p) ∧ p ≤ s.size)
/-- Of what was there, only the reader's place and refusal are changed. -/
structure Only (b : Nat) (w w' : World) : Prop where
  os : w'.os = w.os
  tape : w'.tape = w.tape
  output : w'.output = w.output
  size : w.heap.size ≤ w'.heap.size
  block : ∀ k, k ≠ b → k < w.heap.size → w'.heap[k]? = w.heap[k]?
  cell : ∀ i, i ≠ 1 → i ≠ 2 → w'.cell? ⟨b, i, none⟩ = w.cell? ⟨b, i, none⟩
  frozen : ∀ i, w'.frozen? ⟨b, i, none⟩ = w.frozen? ⟨b, i, none⟩
theorem Only.refl (b : Nat) (w : World) : Only b w w := ⟨rfl, rfl, rfl, Nat.le_refl _, fun _ _ _ => rfl, fun _ _ _ => rfl, fun _ => rfl⟩
theorem Only.trans {b : Nat} {a c d : World} (h : Only b a c) (k : Only b c d) : Only b a d :=
  ⟨k.os.trans h.os, k.tape.trans h.tape, k.output.trans h.output, Nat.le_trans h.size k.size, fun i hi h2 => (k.block i hi (Nat.lt_of_lt_of_le h2 h.size)).trans (h.block i hi h2),
   fun i h1 h2 => (k.cell i h1 h2).trans (h.cell i h1 h2), fun i => (k.frozen i).trans (h.frozen i)⟩
theorem Only.drewN (b : Nat) (w : World) (n : Nat) : Only b w (w.drewN n) := ⟨rfl, rfl, rfl, Nat.le_refl _, fun _ _ _ => rfl, fun _ _ _ => rfl, fun _ => rfl⟩
theorem Only.set (b : Nat) (w : World) (i : Nat) (hi : i = 1 ∨ i = 2) (v : Value) : Only b w (w.setCell ⟨b, i, none⟩ v) := by
  refine ⟨rfl, rfl, rfl, by simp, fun k hk _ => Below.heap_setCell w ⟨b, i, none⟩ v k hk, fun j h1 h2 => World.cell?_setCell_other _ _ _ _ ?_, fun j => by simp⟩
  intro e
  cases e
  omega
/-- Below a boundary under the reader's block nothing is changed. -/
theorem Only.below {b B : Nat} {w w' : World} (h : Only b w w') (hB : B ≤ b) (hs : B ≤ w.heap.size) : Below B w w' :=
  ⟨h.os, h.tape, h.output, h.size, fun k hk => h.block k (by omega) (by omega)⟩
theorem Only.of {b : Nat} {w w' : World} (h : Below w.heap.size w w') (hb : b < w.heap.size) : Only b w w' :=
  ⟨h.os, h.tape, h.output, h.size, fun k _ hk => h.block k hk, fun _ _ _ => h.cell hb, fun _ => h.frozen hb⟩

theorem Rd.lt {b : Nat} {s : ByteArray} {st : St} {w : World} (h : Rd b s st w) : b < w.heap.size := World.block_lt_of_cell? _ _ h.1
theorem Rd.below {b : Nat} {s : ByteArray} {st : St} {w w' : World} (h : Rd b s st w) (hb : Below w.heap.size w w') : Rd b s st w' := by
  have hl := h.lt
  have hc : ∀ i, w'.cell? ⟨b, i, none⟩ = w.cell? ⟨b, i, none⟩ := fun i => hb.cell hl
  have hf : ∀ i, w'.frozen? ⟨b, i, none⟩ = w.frozen? ⟨b, i, none⟩ := fun i => hb.frozen hl
  unfold Rd at h ⊢
  rw [hc, hf, hf]
  refine ⟨h.1, h.2.1, h.2.2.1, ?_⟩
  have h4 := h.2.2.2
  cases st <;> simpa only [hc] using h4
theorem Rd.drewN {b : Nat} {s : ByteArray} {st : St} {w : World} (h : Rd b s st w) (n : Nat) : Rd b s st (w.drewN n) := h

/-- A refusal: the first one stays. -/
def stNo (k : Int) (st : St) : St := match st with | .ok _ => .error k | .error e => .error e
/-- n bytes. -/
def rdBytes (s : ByteArray) (n : Nat) (st : St) : ByteArray × St :=
  match st with | .error k => (⟨#[]⟩, .error k) | .ok p => if s.size - p < n then (⟨#[]⟩, .error 12) else (s.extract p (p + n), .ok (p + n))
/-- One byte, which must be this one. -/
def rdMark (s : ByteArray) (l : Nat) (st : St) : St :=
  match st with | .error k => .error k | .ok p => if h : p < s.size then (if (s[p]'h).toNat = l then .ok (p + 1) else .error 110) else .error 12
/-- A number, at most max. -/
def rdNum (s : ByteArray) (max : Nat) (k : Int) (st : St) : Nat × St :=
  match st with
  | .error e => (0, .error e)
  | .ok p => if (varAt s p 0 0).2.2 ≠ 0 then (0, .error (varAt s p 0 0).2.2) else if max < (varAt s p 0 0).1 then (0, .error k) else ((varAt s p 0 0).1, .ok (varAt s p 0 0).2.1)
/-- The end. -/
def rdEnd (s : ByteArray) (st : St) : Int := match st with | .error k => k | .ok p => if p < s.size then 111 else 0
theorem rdNum_le (s : ByteArray) (max : Nat) (k : Int) (st : St) : (rdNum s max k st).1 ≤ max := by
  unfold rdNum
  cases st with
  | error e => simp
  | ok p =>
    simp only
    split
    · simp
    · split
      · simp
      · simp only; omega
theorem Rd.set {b : Nat} {s : ByteArray} {p : Nat} {w : World} (h : Rd b s (.ok p) w) {q : Nat} (hq : q ≤ s.size) : Rd b s (.ok q) (w.setCell ⟨b, 1, none⟩ (.int .i64 q)) := by
  obtain ⟨h0, h1, h2, h3, h4, h5⟩ := h
  exact ⟨by rw [World.cell?_setCell_other _ _ _ _ (by simp)]; exact h0, by simpa using h1, by simpa using h2, World.cell?_setCell_same _ _ _ h3, by rw [World.cell?_setCell_other _ _ _ _ (by simp)]; exact h4, hq⟩
theorem Rd.no {b : Nat} {s : ByteArray} {p : Nat} {w : World} (h : Rd b s (.ok p) w) {k : Int} (hk : k ≠ 0) : Rd b s (.error k) (w.setCell ⟨b, 2, none⟩ (.int .i64 k)) := by
  obtain ⟨h0, h1, h2, h3, h4, h5⟩ := h
  exact ⟨by rw [World.cell?_setCell_other _ _ _ _ (by simp)]; exact h0, by simpa using h1, by simpa using h2, hk, World.cell?_setCell_same _ _ _ h4, p, by rw [World.cell?_setCell_other _ _ _ _ (by simp)]; exact h3, h5⟩

theorem i64_wrap_in (x : Nat) (h : x ≤ 9223372036854775807) : IntKind.i64.wrap (x : Int) = (x : Int) := by
  rw [IntKind.wrap_i64]; omega

theorem wire_refuse (b : Nat) (s : ByteArray) (st : St) (k : Int) (hk : k ≠ 0) (w : World) (h : Rd b s st w) :
    Calls Try.prog 41 #[.pointer (some ⟨b, 0, none⟩), .int .i64 k] w fun e w' => e = .returned (.tuple #[]) ∧ Rd b s (stNo k st) w' ∧ Only b w w' := by
  cases st with
  | ok p =>
    have H := hid h
    have HR := hid (h.no hk)
    obtain ⟨h0, h1, h2, h3, h4, h5⟩ := h
    go_enter Try.func41, Try.ntmps41
    go_wp2_with fail
    go_end0
    exact ⟨rfl, HR.out, Only.set _ _ _ (.inr rfl) _⟩
  | error e =>
    have H := hid h
    obtain ⟨h0, h1, h2, he, h4, q, h5, h6⟩ := h
    have he' : (e == 0) = false := beq_eq_false_iff_ne.2 he
    go_enter Try.func41, Try.ntmps41
    go_wp2_with fail
    go_end0
    exact ⟨rfl, H.out, Only.refl _ _⟩

theorem wire_bytes (b : Nat) (s : ByteArray) (st : St) (n : Nat) (hs : s.size ≤ 140737488355328) (hn : n ≤ 4611686018427387904) (w : World) (h : Rd b s st w) :
    Calls Try.prog 44 #[.pointer (some ⟨b, 0, none⟩), .int .i64 n] w fun e w' => e = .returned (.string (rdBytes s n st).1) ∧ Rd b s (rdBytes s n st).2 w' ∧ Only b w w' := by
  cases st with
  | ok p =>
    have H := hid h
    have hpz := h.2.2.2.2.2
    by_cases hlt : s.size - p < n
    · have hr := hid (fun W (hW : Rd b s (.ok p) W) => wire_refuse b s (.ok p) 12 (by decide) W hW)
      have e : rdBytes s n (.ok p) = (⟨#[]⟩, .error 12) := by simp only [rdBytes, if_pos hlt]
      rw [e]
      obtain ⟨h0, h1, h2, h3, h4, h5⟩ := h
      go_enter Try.func44, Try.ntmps44
      go_wp2_with fail
      go_quiet (fail)
      go_wp2_with fail
      refine (hr.out _ (H.out.drewN _)).mono ?_
      rintro e w1 ⟨rfl, h1, b1⟩
      have H1 := hid h1; have B1 := hid ((Only.drewN _ _ _).trans b1); clear h1 b1
      go_wp2_with fail
      go_ret
      exact ⟨rfl, H1.out, B1.out⟩
    · have e : rdBytes s n (.ok p) = (s.extract p (p + n), .ok (p + n)) := by simp only [rdBytes, if_neg hlt]
      rw [e]
      have HS := hid (h.set (q := p + n) (by omega))
      have hwp : IntKind.i64.wrap (p : Int) = p := i64_wrap_in p (by omega)
      have hsl := hid (fun W : World => run_slice_string (P := Try.prog) W 9 s .i64 .i64 (p : Int) (p + n : Int) Try.underlying9 (by omega) (by omega) (by omega))
      obtain ⟨h0, h1, h2, h3, h4, h5⟩ := h
      go_enter Try.func44, Try.ntmps44
      go_wp2_with fail
      go_quiet (fail)
      go_wp2_with fail
      have hsl2 := hsl.out
      go_quiet (fail)
      go_wp2_with fail
      go_ret
      exact ⟨rfl, HS.out, ((Only.drewN _ _ _).trans (Only.set _ _ _ (.inl rfl) _)).trans (Only.drewN _ _ _)⟩
  | error e =>
    have H := hid h
    obtain ⟨h0, h1, h2, he, h4, q, h5, h6⟩ := h
    have he' : (e == 0) = false := beq_eq_false_iff_ne.2 he
    go_enter Try.func44, Try.ntmps44
    go_wp2_with fail
    go_ret
    exact ⟨rfl, H.out, Only.refl _ _⟩

theorem rdBytes_one (s : ByteArray) (p : Nat) (h : p < s.size) : rdBytes s 1 (.ok p) = (⟨[s[p]].toArray⟩, .ok (p + 1)) := by
  have : ¬ s.size - p < 1 := by omega
  simp only [rdBytes, if_neg this]
  congr 1
  apply ByteArray.ext
  rw [ByteArray.data_extract]
  apply Array.ext
  · simp; omega
  · intro i h1 h2
    have : i = 0 := by simpa using h2
    subst this
    simp; rfl

theorem wire_mark (b : Nat) (s : ByteArray) (st : St) (l : Nat) (_hl : l < 256) (hs : s.size ≤ 140737488355328) (w : World) (h : Rd b s st w) :
    Calls Try.prog 38 #[.pointer (some ⟨b, 0, none⟩), .int .u8 l] w fun e w' => e = .returned (.tuple #[]) ∧ Rd b s (rdMark s l st) w' ∧ Only b w w' := by
  have hb := hid (wire_bytes b s st 1 hs (by decide) w h)
  cases st with
  | error e =>
    clear h
    go_enter Try.func38, Try.ntmps38
    go_wp2_with fail
    refine hb.out.mono ?_
    rintro e w1 ⟨rfl, h1, b1⟩
    have H1 := hid h1; have B1 := hid b1; clear h1 b1
    have e : (rdBytes s 1 (.error e)).1 = ⟨#[]⟩ := rfl
    rw [e]
    go_wp2_with fail
    go_end0
    exact ⟨rfl, H1.out, B1.out⟩
  | ok p =>
    clear h
    by_cases hp : p < s.size
    · rw [rdBytes_one s p hp] at hb
      go_enter Try.func38, Try.ntmps38
      go_wp2_with fail
      refine hb.out.mono ?_
      rintro e w1 ⟨rfl, h1, b1⟩
      have H1 := hid h1; have B1 := hid b1; clear h1 b1
      by_cases hc : (s[p]'hp).toNat = l
      · have e : rdMark s l (.ok p) = .ok (p + 1) := by simp only [rdMark, dif_pos hp, if_pos hc]
        have E := hid e; clear e
        have hc' : ((((⟨#[s[p]'hp]⟩ : ByteArray)[0]'Nat.zero_lt_one).toNat : Int) != (l : Int)) = false := by show (((s[p]'hp).toNat : Int) != (l : Int)) = false; rw [hc]; simp
        go_wp2_with fail
        go_end0
        exact ⟨rfl, by rw [E.out]; exact H1.out, B1.out⟩
      · have e : rdMark s l (.ok p) = .error 110 := by simp only [rdMark, dif_pos hp, if_neg hc]
        have E := hid e; clear e
        have hc' : ((((⟨#[s[p]'hp]⟩ : ByteArray)[0]'Nat.zero_lt_one).toNat : Int) != (l : Int)) = true := bne_iff_ne.2 (by show ((s[p]'hp).toNat : Int) ≠ l; omega)
        have hr := hid (wire_refuse b s (.ok (p + 1)) 110 (by decide) w1 H1.out)
        go_wp2_with fail
        refine hr.out.mono ?_
        rintro e w2 ⟨rfl, h2, b2⟩
        have H2 := hid h2; have B2 := hid (B1.out.trans b2); clear h2 b2
        go_wp2_with fail
        go_end0
        exact ⟨rfl, by rw [E.out]; exact H2.out, B2.out⟩
    · have e : rdMark s l (.ok p) = .error 12 := by simp only [rdMark, dif_neg hp]
      have e2 : rdBytes s 1 (.ok p) = (⟨#[]⟩, .error 12) := by simp only [rdBytes, if_pos (show s.size - p < 1 by omega)]
      rw [e2] at hb
      have E := hid e; clear e
      go_enter Try.func38, Try.ntmps38
      go_wp2_with fail
      refine hb.out.mono ?_
      rintro e w1 ⟨rfl, h1, b1⟩
      have H1 := hid h1; have B1 := hid b1; clear h1 b1
      go_wp2_with fail
      go_end0
      exact ⟨rfl, by rw [E.out]; exact H1.out, B1.out⟩

theorem wire_readNumber (b : Nat) (s : ByteArray) (st : St) (max : Nat) (k : Int) (hk : k ≠ 0) (hm : max ≤ 4611686018427387904) (hs : s.size ≤ 140737488355328) (w : World) (h : Rd b s st w) :
    Calls Try.prog 43 #[.pointer (some ⟨b, 0, none⟩), .int .i64 max, .int .i64 k] w fun e w' => e = .returned (.int .i64 (rdNum s max k st).1) ∧ Rd b s (rdNum s max k st).2 w' ∧ Only b w w' := by
  cases st with
  | error e =>
    have H := hid h
    obtain ⟨h0, h1, h2, he, h4, q, h5, h6⟩ := h
    have he' : (e == 0) = false := beq_eq_false_iff_ne.2 he
    go_enter Try.func43, Try.ntmps43
    go_wp2_with fail
    go_ret
    exact ⟨rfl, H.out, Only.refl _ _⟩
  | ok p =>
    have H := hid h
    have hpz := h.2.2.2.2.2
    have hspec := varAt_spec s p 10 0 0 (by omega) (by omega) (by omega)
    have hcall := hid (fun W => (nums_Var s p hs hpz W).mono fun _ _ ⟨h1, h2⟩ => And.intro h1 h2.symm)
    have hdef : rdNum s max k (.ok p) = if (varAt s p 0 0).2.2 ≠ 0 then (0, .error (varAt s p 0 0).2.2) else if max < (varAt s p 0 0).1 then (0, .error k) else ((varAt s p 0 0).1, .ok (varAt s p 0 0).2.1) := rfl
    obtain ⟨r, hr⟩ : ∃ r, r = varAt s p 0 0 := ⟨_, rfl⟩
    rw [← hr] at hspec hcall hdef
    obtain ⟨v, nx, er⟩ := r
    unfold varErr at hcall
    simp only at hspec hdef hcall
    obtain ⟨hv, hnx⟩ := hspec
    obtain ⟨h0, h1, h2, h3, h4, h5⟩ := h
    have hf2 := hid (fun W (hW : Rd b s (.ok p) W) k (hk : k ≠ 0) => wire_refuse b s (.ok p) k hk W hW)
    by_cases her : er = 0
    · subst her
      have hnx' := hnx rfl
      by_cases hgt : max < v
      · have E : Hid (rdNum s max k (.ok p) = (0, .error k)) := by unfold Hid; rw [hdef, if_neg (by simp), if_pos hgt]
        clear hdef hnx hr
        go_enter Try.func43, Try.ntmps43
        go_wp2_with fail
        go_quiet ((refine Calls.quiet_of_same (hcall.out _)))
        go_wp2_with fail
        refine (hf2.out _ (H.out.drewN _) k hk).mono ?_
        rintro e w1 ⟨rfl, h1, b1⟩
        have H1 := hid h1; have B1 := hid ((Only.drewN _ _ _).trans b1); clear h1 b1
        go_wp2_with fail
        go_ret
        exact ⟨by rw [E.out]; rfl, by rw [E.out]; exact H1.out, B1.out⟩
      · have E : Hid (rdNum s max k (.ok p) = (v, .ok nx)) := by unfold Hid; rw [hdef, if_neg (by simp), if_neg hgt]
        have HS := hid (H.out.set (q := nx) hnx'.2)
        clear hdef hnx hr
        go_enter Try.func43, Try.ntmps43
        go_wp2_with fail
        go_quiet ((refine Calls.quiet_of_same (hcall.out _)))
        go_wp2_with fail
        go_ret
        exact ⟨by rw [E.out]; rfl, by rw [E.out]; exact HS.out, (Only.drewN _ _ _).trans (Only.set _ _ _ (.inl rfl) _)⟩
    · have E : Hid (rdNum s max k (.ok p) = (0, .error er)) := by unfold Hid; rw [hdef, if_pos her]
      have her' : (er == 0) = false := beq_eq_false_iff_ne.2 her
      clear hdef hnx hr
      go_enter Try.func43, Try.ntmps43
      go_wp2_with fail
      go_quiet ((refine Calls.quiet_of_same (hcall.out _)))
      go_wp2_with fail
      refine (hf2.out _ (H.out.drewN _) er her).mono ?_
      rintro e w1 ⟨rfl, h1, b1⟩
      have H1 := hid h1; have B1 := hid ((Only.drewN _ _ _).trans b1); clear h1 b1
      go_wp2_with fail
      go_ret
      exact ⟨by rw [E.out]; rfl, by rw [E.out]; exact H1.out, B1.out⟩

theorem wire_end (b : Nat) (s : ByteArray) (st : St) (w : World) (h : Rd b s st w) :
    Calls Try.prog 35 #[.pointer (some ⟨b, 0, none⟩)] w fun e w' => e = .returned (.int .i64 (rdEnd s st)) ∧ Only b w w' := by
  have H := hid h
  cases st with
  | error e =>
    obtain ⟨h0, h1, h2, he, h4, q, h5, h6⟩ := h
    have hr := hid (fun W (hW : Rd b s (.error e) W) => wire_refuse b s (.error e) 111 (by decide) W hW)
    by_cases hlt : q < s.size
    · go_enter Try.func35, Try.ntmps35
      go_wp2_with fail
      go_quiet (fail)
      go_wp2_with fail
      refine (hr.out _ (H.out.drewN _)).mono ?_
      rintro e' w1 ⟨rfl, h1, b1⟩
      have B1 := hid ((Only.drewN _ _ _).trans b1)
      obtain ⟨_, _, _, _, hc, _⟩ := h1
      clear b1
      go_wp2_with fail
      go_ret
      exact ⟨rfl, B1.out⟩
    · go_enter Try.func35, Try.ntmps35
      go_wp2_with fail
      go_quiet (fail)
      go_wp2_with fail
      go_ret
      exact ⟨rfl, Only.drewN _ _ _⟩
  | ok q =>
    obtain ⟨h0, h1, h2, h3, h4, h5⟩ := h
    have hr := hid (fun W (hW : Rd b s (.ok q) W) => wire_refuse b s (.ok q) 111 (by decide) W hW)
    by_cases hlt : q < s.size
    · have E : Hid (rdEnd s (.ok q) = 111) := by unfold Hid; simp only [rdEnd, if_pos hlt]
      go_enter Try.func35, Try.ntmps35
      go_wp2_with fail
      go_quiet (fail)
      go_wp2_with fail
      refine (hr.out _ (H.out.drewN _)).mono ?_
      rintro e' w1 ⟨rfl, h1, b1⟩
      have B1 := hid ((Only.drewN _ _ _).trans b1)
      obtain ⟨_, _, _, _, hc, _⟩ := h1
      clear b1
      go_wp2_with fail
      go_ret
      exact ⟨by rw [E.out]; rfl, B1.out⟩
    · have E : Hid (rdEnd s (.ok q) = 0) := by unfold Hid; simp only [rdEnd, if_neg hlt]
      go_enter Try.func35, Try.ntmps35
      go_wp2_with fail
      go_quiet (fail)
      go_wp2_with fail
      go_ret
      exact ⟨by rw [E.out]; rfl, Only.drewN _ _ _⟩
end Go.Proofs.Ytocjjiacmedjmaa
