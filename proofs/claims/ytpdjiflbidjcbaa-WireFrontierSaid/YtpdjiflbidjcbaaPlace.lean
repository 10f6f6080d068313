/- Walks of the reference's reader (Place). -/
import Derived.Test.YtpdjiflbidjcbaaRd
set_option maxRecDepth 100000
namespace Go.Proofs.Ytpdjiflbidjcbaa
open Go Go.RowKit

theorem place_refuse (b : Nat) (s : ByteArray) (st : St) (k : Int) (hk : k ≠ 0) (w : World) (h : Rd b s st w) :
    Calls Try.prog 35 #[.pointer (some ⟨b, 0, none⟩), .int .i64 k] w fun e w' => e = .returned (.tuple #[]) ∧ Rd b s (stNo k st) w' ∧ Only b w w' := by
  cases st with
  | ok p =>
    have H := hid h
    have HR := hid (h.no hk)
    obtain ⟨h0, h1, h2, h3, h4, h5⟩ := h
    go_enter Try.func35, Try.ntmps35
    go_wp2_with fail
    go_end0
    exact ⟨rfl, HR.out, Only.set _ _ _ (.inr rfl) _⟩
  | error e =>
    have H := hid h
    obtain ⟨h0, h1, h2, he, h4, q, h5, h6⟩ := h
    have he' : (e == 0) = false := beq_eq_false_iff_ne.2 he
    go_enter Try.func35, Try.ntmps35
    go_wp2_with fail
    go_end0
    exact ⟨rfl, H.out, Only.refl _ _⟩

theorem place_bytes (b : Nat) (s : ByteArray) (st : St) (n : Nat) (hs : s.size ≤ 140737488355328) (hn : n ≤ 4611686018427387904) (w : World) (h : Rd b s st w) :
    Calls Try.prog 49 #[.pointer (some ⟨b, 0, none⟩), .int .i64 n] w fun e w' => e = .returned (.string (rdBytes s n st).1) ∧ Rd b s (rdBytes s n st).2 w' ∧ Only b w w' := by
  cases st with
  | ok p =>
    have H := hid h
    have hpz := h.2.2.2.2.2
    by_cases hlt : s.size - p < n
    · have hr := hid (fun W (hW : Rd b s (.ok p) W) => place_refuse b s (.ok p) 12 (by decide) W hW)
      have e : rdBytes s n (.ok p) = (⟨#[]⟩, .error 12) := by simp only [rdBytes, if_pos hlt]
      rw [e]
      obtain ⟨h0, h1, h2, h3, h4, h5⟩ := h
      go_enter Try.func49, Try.ntmps49
      go_wp2_with fail
      go_quiet (fail)
      go_wp2_with fail
      refine (hr.out _ (H.out.drewN _)).mono ?_
      rintro e w1 ⟨rfl, h1, b1⟩
      have H1 := hid h1; have B1 := hid ((Only.drewN _ _ _).trans b1)
      obtain ⟨_, _, _, _, hc, _⟩ := h1
      clear b1
      go_wp2_with fail
      go_ret
      exact ⟨rfl, H1.out, B1.out⟩
    · have e : rdBytes s n (.ok p) = (s.extract p (p + n), .ok (p + n)) := by simp only [rdBytes, if_neg hlt]
      rw [e]
      have HS := hid (h.set (q := p + n) (by omega))
      have hwp : IntKind.i64.wrap (p : Int) = p := i64_wrap_in p (by omega)
      have hsl := hid (fun W : World => run_slice_string (P := Try.prog) W 9 s .i64 .i64 (p : Int) (p + n : Int) Try.underlying9 (by omega) (by omega) (by omega))
      obtain ⟨h0, h1, h2, h3, h4, h5⟩ := h
      go_enter Try.func49, Try.ntmps49
      go_wp2_with fail
      go_quiet (fail)
      go_wp2_with fail
      have hsl2 := hsl.out
      go_quiet (fail)
      go_wp2_with fail
      go_ret
      exact ⟨rfl, HS.out, ((Only.drewN _ _ _).trans (Only.set _ _ _ (.inl rfl) _)).trans (Only.drewN _ _ _)⟩
  | error e =>
    have H := hid h
    obtain ⟨h0, h1, h2, he, h4, q, h5, h6⟩ := h
    have he' : (e == 0) = false := beq_eq_false_iff_ne.2 he
    go_enter Try.func49, Try.ntmps49
    go_wp2_with fail
    go_quiet (fail)
    go_wp2_with fail
    go_ret
    exact ⟨rfl, H.out, Only.drewN _ _ _⟩


theorem place_take (b : Nat) (s : ByteArray) (p : Nat) (hs : s.size ≤ 140737488355328) (w : World) (h : Rd b s (.ok p) w) (hp : p < s.size) :
    Calls Try.prog 47 #[.pointer (some ⟨b, 0, none⟩)] w fun e w' => e = .returned (.int .i64 (s[p]'hp).toNat) ∧ Rd b s (.ok (p + 1)) w' ∧ Only b w w' := by
  have HS := hid (h.set (q := p + 1) (by omega))
  have hcb : (s[p]'hp).toNat < 256 := UInt8.toNat_lt _
  have hwp : IntKind.i64.wrap (p : Int) = p := i64_wrap_in p (by omega)
  obtain ⟨h0, h1, h2, h3, h4, h5⟩ := h
  go_enter Try.func47, Try.ntmps47
  go_wp2_with fail
  go_quiet (fail)
  go_wp2_with fail
  go_quiet (fail)
  go_wp2_with fail
  go_ret
  exact ⟨rfl, HS.out, ((Only.drewN _ _ _).trans (Only.set _ _ _ (.inl rfl) _)).trans (Only.drewN _ _ _)⟩
theorem place_take_end (b : Nat) (s : ByteArray) (p : Nat) (w : World) (h : Rd b s (.ok p) w) (hp : ¬ p < s.size) :
    Calls Try.prog 47 #[.pointer (some ⟨b, 0, none⟩)] w fun e w' => e = .returned (.int .i64 0) ∧ Rd b s (.error 12) w' ∧ Only b w w' := by
  have H := hid h
  have hr := hid (fun W (hW : Rd b s (.ok p) W) => place_refuse b s (.ok p) 12 (by decide) W hW)
  obtain ⟨h0, h1, h2, h3, h4, h5⟩ := h
  go_enter Try.func47, Try.ntmps47
  go_wp2_with fail
  go_quiet (fail)
  go_wp2_with fail
  refine (hr.out _ (H.out.drewN _)).mono ?_
  rintro e w1 ⟨rfl, h1, b1⟩
  have H1 := hid h1; have B1 := hid ((Only.drewN _ _ _).trans b1); clear h1 b1
  go_wp2_with fail
  go_ret
  exact ⟨rfl, H1.out, B1.out⟩
theorem place_take_no (b : Nat) (s : ByteArray) (k : Int) (w : World) (h : Rd b s (.error k) w) :
    Calls Try.prog 47 #[.pointer (some ⟨b, 0, none⟩)] w fun e w' => e = .returned (.int .i64 0) ∧ w = w' := by
  obtain ⟨h0, h1, h2, he, h4, q, h5, h6⟩ := h
  have he' : (k == 0) = false := beq_eq_false_iff_ne.2 he
  go_enter Try.func47, Try.ntmps47
  go_wp2_with fail
  go_ret
  exact ⟨rfl, rfl⟩
theorem place_letter (b : Nat) (s : ByteArray) (st : St) (l : Nat) (hl : l < 256) (hs : s.size ≤ 140737488355328) (w : World) (h : Rd b s st w) :
    Calls Try.prog 32 #[.pointer (some ⟨b, 0, none⟩), .int .u8 l] w fun e w' => e = .returned (.tuple #[]) ∧ Rd b s (rdMark s l st) w' ∧ Only b w w' := by
  cases st with
  | error k =>
    have H := hid h
    have ht := hid (place_take_no b s k w h)
    obtain ⟨h0, h1, h2, he, h4, q, h5, h6⟩ := h
    have he' : (k == 0) = false := beq_eq_false_iff_ne.2 he
    go_enter Try.func32, Try.ntmps32
    go_wp2_with fail
    refine ht.out.mono ?_
    rintro e w1 ⟨rfl, rfl⟩
    go_wp2_with fail
    go_end0
    exact ⟨rfl, H.out, Only.refl _ _⟩
  | ok p =>
    by_cases hp : p < s.size
    · have ht := hid (place_take b s p hs w h hp)
      clear h
      by_cases hc : (s[p]'hp).toNat = l
      · have E : Hid (rdMark s l (.ok p) = .ok (p + 1)) := by unfold Hid; simp only [rdMark, dif_pos hp, if_pos hc]
        have hc' : (((s[p]'hp).toNat : Int) == (l : Int)) = true := by rw [hc]; simp
        clear hc
        go_enter Try.func32, Try.ntmps32
        go_wp2_with fail
        refine ht.out.mono ?_
        rintro e w1 ⟨rfl, h1, b1⟩
        have H1 := hid h1; have B1 := hid b1
        obtain ⟨h0, _, _, h3, h4, h5⟩ := h1
        clear b1
        go_wp2_with fail
        go_end0
        exact ⟨rfl, by rw [E.out]; exact H1.out, B1.out⟩
      · have E : Hid (rdMark s l (.ok p) = .error 110) := by unfold Hid; simp only [rdMark, dif_pos hp, if_neg hc]
        have hc' : (((s[p]'hp).toNat : Int) == (l : Int)) = false := beq_eq_false_iff_ne.2 (by omega)
        clear hc
        have hr := hid (fun W (hW : Rd b s (.ok (p + 1)) W) => place_refuse b s (.ok (p + 1)) 110 (by decide) W hW)
        go_enter Try.func32, Try.ntmps32
        go_wp2_with fail
        refine ht.out.mono ?_
        rintro e w1 ⟨rfl, h1, b1⟩
        have H1 := hid h1; have B1 := hid b1
        obtain ⟨h0, _, _, h3, h4, h5⟩ := h1
        clear b1
        go_wp2_with fail
        refine (hr.out _ H1.out).mono ?_
        rintro e w2 ⟨rfl, h2, b2⟩
        have H2 := hid h2; have B2 := hid (B1.out.trans b2); clear h2 b2
        go_wp2_with fail
        go_end0
        exact ⟨rfl, by rw [E.out]; exact H2.out, B2.out⟩
    · have ht := hid (place_take_end b s p w h hp)
      have E : Hid (rdMark s l (.ok p) = .error 12) := by unfold Hid; simp only [rdMark, dif_neg hp]
      clear h
      go_enter Try.func32, Try.ntmps32
      go_wp2_with fail
      refine ht.out.mono ?_
      rintro e w1 ⟨rfl, h1, b1⟩
      have H1 := hid h1; have B1 := hid b1
      obtain ⟨h0, _, _, _, h4, _⟩ := h1
      clear b1
      go_wp2_with fail
      go_end0
      exact ⟨rfl, by rw [E.out]; exact H1.out, B1.out⟩

theorem place_number (b : Nat) (s : ByteArray) (st : St) (max : Nat) (k : Int) (hk : k ≠ 0) (hm : max ≤ 4611686018427387904) (hs : s.size ≤ 140737488355328) (w : World) (h : Rd b s st w) :
    Calls Try.prog 34 #[.pointer (some ⟨b, 0, none⟩), .int .i64 max, .int .i64 k] w fun e w' => e = .returned (.int .i64 (rdNum s max k st).1) ∧ Rd b s (rdNum s max k st).2 w' ∧ Only b w w' := by
  cases st with
  | error e =>
    have H := hid h
    obtain ⟨h0, h1, h2, he, h4, q, h5, h6⟩ := h
    have he' : (e == 0) = false := beq_eq_false_iff_ne.2 he
    go_enter Try.func34, Try.ntmps34
    go_wp2_with fail
    go_ret
    exact ⟨rfl, H.out, Only.refl _ _⟩
  | ok p =>
    have H := hid h
    have hpz := h.2.2.2.2.2
    have hspec := varAt_spec s p 10 0 0 (by omega) (by omega) (by omega)
    have hcall := hid (fun W => (ref1_Var s p hs hpz W).mono fun _ _ ⟨h1, h2⟩ => And.intro h1 h2.symm)
    have hdef : rdNum s max k (.ok p) = if (varAt s p 0 0).2.2 ≠ 0 then (0, .error (varAt s p 0 0).2.2) else if max < (varAt s p 0 0).1 then (0, .error k) else ((varAt s p 0 0).1, .ok (varAt s p 0 0).2.1) := rfl
    obtain ⟨r, hr⟩ : ∃ r, r = varAt s p 0 0 := ⟨_, rfl⟩
    rw [← hr] at hspec hcall hdef
    obtain ⟨v, nx, er⟩ := r
    unfold varErr at hcall
    simp only at hspec hdef hcall
    obtain ⟨hv, hnx⟩ := hspec
    obtain ⟨h0, h1, h2, h3, h4, h5⟩ := h
    have hf2 := hid (fun W p (hW : Rd b s (.ok p) W) k (hk : k ≠ 0) => place_refuse b s (.ok p) k hk W hW)
    by_cases her : er = 0
    · subst her
      have hnx' := hnx rfl
      by_cases hgt : max < v
      · have E : Hid (rdNum s max k (.ok p) = (0, .error k)) := by unfold Hid; rw [hdef, if_neg (by simp), if_pos hgt]
        have HS := hid (H.out.set (q := nx) hnx'.2)
        clear hdef hnx hr
        go_enter Try.func34, Try.ntmps34
        go_wp2_with fail
        go_quiet ((refine Calls.quiet_of_same (hcall.out _)))
        go_wp2_with fail
        have HS2 := hid (hf2.out (((w.drewN nq).setCell ⟨b, 1, none⟩ (.int .i64 nx))) nx HS.out k hk)
        refine HS2.out.mono ?_
        rintro e w1 ⟨rfl, h1, b1⟩
        have H1 := hid h1; have B1 := hid (((Only.drewN _ _ _).trans (Only.set _ _ _ (.inl rfl) _)).trans b1); clear h1 b1
        go_wp2_with fail
        go_ret
        exact ⟨by rw [E.out]; rfl, by rw [E.out]; exact H1.out, B1.out⟩
      · have E : Hid (rdNum s max k (.ok p) = (v, .ok nx)) := by unfold Hid; rw [hdef, if_neg (by simp), if_neg hgt]
        have HS := hid (H.out.set (q := nx) hnx'.2)
        clear hdef hnx hr
        go_enter Try.func34, Try.ntmps34
        go_wp2_with fail
        go_quiet ((refine Calls.quiet_of_same (hcall.out _)))
        go_wp2_with fail
        go_ret
        exact ⟨by rw [E.out]; rfl, by rw [E.out]; exact HS.out, (Only.drewN _ _ _).trans (Only.set _ _ _ (.inl rfl) _)⟩
    · have E : Hid (rdNum s max k (.ok p) = (0, .error er)) := by unfold Hid; rw [hdef, if_pos her]
      have her' : (er == 0) = false := beq_eq_false_iff_ne.2 her
      clear hdef hnx hr
      go_enter Try.func34, Try.ntmps34
      go_wp2_with fail
      go_quiet ((refine Calls.quiet_of_same (hcall.out _)))
      go_wp2_with fail
      refine (hf2.out _ p (H.out.drewN _) er her).mono ?_
      rintro e w1 ⟨rfl, h1, b1⟩
      have H1 := hid h1; have B1 := hid ((Only.drewN _ _ _).trans b1); clear h1 b1
      go_wp2_with fail
      go_ret
      exact ⟨by rw [E.out]; rfl, by rw [E.out]; exact H1.out, B1.out⟩

theorem place_end (b : Nat) (s : ByteArray) (st : St) (w : World) (h : Rd b s st w) :
    Calls Try.prog 37 #[.pointer (some ⟨b, 0, none⟩)] w fun e w' => e = .returned (.int .i64 (rdEnd s st)) ∧ Only b w w' := by
  have H := hid h
  cases st with
  | error e =>
    obtain ⟨h0, h1, h2, he, h4, q, h5, h6⟩ := h
    have he' : (e == 0) = false := beq_eq_false_iff_ne.2 he
    go_enter Try.func37, Try.ntmps37
    go_wp2_with fail
    go_quiet (fail)
    go_wp2_with fail
    go_ret
    exact ⟨rfl, Only.drewN _ _ _⟩
  | ok q =>
    obtain ⟨h0, h1, h2, h3, h4, h5⟩ := h
    have hr := hid (fun W (hW : Rd b s (.ok q) W) => place_refuse b s (.ok q) 111 (by decide) W hW)
    by_cases hlt : q < s.size
    · have E : Hid (rdEnd s (.ok q) = 111) := by unfold Hid; simp only [rdEnd, if_pos hlt]
      go_enter Try.func37, Try.ntmps37
      go_wp2_with fail
      go_quiet (fail)
      go_wp2_with fail
      refine (hr.out _ (H.out.drewN _)).mono ?_
      rintro e' w1 ⟨rfl, h1, b1⟩
      have B1 := hid ((Only.drewN _ _ _).trans b1)
      obtain ⟨_, _, _, _, hc, _⟩ := h1
      clear b1
      go_wp2_with fail
      go_ret
      exact ⟨by rw [E.out]; rfl, B1.out⟩
    · have E : Hid (rdEnd s (.ok q) = 0) := by unfold Hid; simp only [rdEnd, if_neg hlt]
      go_enter Try.func37, Try.ntmps37
      go_wp2_with fail
      go_quiet (fail)
      go_wp2_with fail
      go_ret
      exact ⟨by rw [E.out]; rfl, Only.drewN _ _ _⟩
end Go.Proofs.Ytpdjiflbidjcbaa
