/- Walk of annalsref23.Parse. -/
import Derived.Test.YtaaldkkfedinpaaDoorParseR
set_option maxRecDepth 100000
namespace Go.Proofs.YtaaldkkfedinpaaDoor
open Go Go.RowKit

theorem digs_le (l : List UInt8) : (digs l).1.length + (digs l).2.length = l.length := by
  have := congrArg List.length (digs_split l)
  rw [List.length_append] at this
  exact this
theorem rdA_some {a l t : List UInt8} {n : Nat} (h : rdA a l = some (n, t)) : n < 1000000000000000000 ∧ t.length + a.length + 1 ≤ l.length := by
  unfold rdA at h
  split at h
  · rename_i h1
    split at h
    · cases h
    · rename_i h2
      simp only [not_or] at h2
      injection h with h
      injection h with h3 h4
      have h5 := digs_le (l.drop a.length)
      have h6 := List.length_pos_iff.2 h2.1
      have h7 := valF_lt (digs (l.drop a.length)).1 (digs_is _) 0 0 (by decide)
      have h8 : (10 : Nat) ^ (0 + (digs (l.drop a.length)).1.length) ≤ 10 ^ 18 := Nat.pow_le_pow_right (by decide) (by omega)
      have h9 : (10 : Nat) ^ 18 = 1000000000000000000 := by decide
      have h10 : (l.take a.length).length = a.length := by rw [h1]
      rw [List.length_take] at h10
      rw [List.length_drop] at h5
      rw [← h4, ← h3]
      omega
  · cases h
theorem rdR_le (a l : List UInt8) : (rdR a l).2.length ≤ l.length ∧ -1 ≤ (rdR a l).1 ∧ (rdR a l).1 < 1000000000000000000 := by
  unfold rdR
  cases h : rdA a l with
  | none => simp
  | some p => obtain ⟨n, t⟩ := p
              have := rdA_some h
              simp only
              omega
theorem loop_stop (f idx : Nat) (l : List UInt8) (h : (rdR [47, 120] l).1 < 0 ∨ 4503599627370496 ≤ idx) : refLoop f idx l = (idx, l) := by
  cases f with
  | zero => rfl
  | succ f =>
    show (match rdA [47, 120] l with | none => (idx, l) | some (n, t) => if idx < 4503599627370496 then refLoop f (1000 * idx + n) t else (idx, l)) = _
    cases hr : rdA [47, 120] l with
    | none => rfl
    | some p =>
      obtain ⟨n, t⟩ := p
      simp only
      rw [if_neg]
      rcases h with h | h
      · unfold rdR at h; rw [hr] at h; simp only at h; omega
      · omega
/-- What a world of the reference's Parse knows: its two boxes. -/
def PR (w : World) (h l i c : Int) (W : World) : Prop := Below w.heap.size w W ∧ TB w.heap.size 0 0 0 0 W ∧ TB (w.heap.size + 1) h l i c W
theorem PR.step {w W W' : World} {h l i c : Int} (p : PR w h l i c W) (hb : Below W.heap.size W W') : PR w h l i c W' := ⟨Below.then' p.1 hb, p.2.1.below hb, p.2.2.below hb⟩
theorem TB.put0 {b : Nat} {h l i c : Int} {W : World} (t : TB b h l i c W) (c' : Int) : TB b c' l i c (W.setCell ⟨b, 0, none⟩ (.int .i64 c')) := by
  obtain ⟨a0, a1, a2, a3, a4⟩ := t
  refine ⟨World.cell?_setCell_same _ _ _ a0, ?_, ?_, ?_, fun j => by rw [World.frozen?_setCell]; exact a4 j⟩
  · rw [World.cell?_setCell_other _ _ _ _ (by simp)]; exact a1
  · rw [World.cell?_setCell_other _ _ _ _ (by simp)]; exact a2
  · rw [World.cell?_setCell_other _ _ _ _ (by simp)]; exact a3
theorem TB.put1 {b : Nat} {h l i c : Int} {W : World} (t : TB b h l i c W) (c' : Int) : TB b h c' i c (W.setCell ⟨b, 1, none⟩ (.int .i64 c')) := by
  obtain ⟨a0, a1, a2, a3, a4⟩ := t
  refine ⟨?_, World.cell?_setCell_same _ _ _ a1, ?_, ?_, fun j => by rw [World.frozen?_setCell]; exact a4 j⟩
  · rw [World.cell?_setCell_other _ _ _ _ (by simp)]; exact a0
  · rw [World.cell?_setCell_other _ _ _ _ (by simp)]; exact a2
  · rw [World.cell?_setCell_other _ _ _ _ (by simp)]; exact a3
theorem TB.put2 {b : Nat} {h l i c : Int} {W : World} (t : TB b h l i c W) (c' : Int) : TB b h l c' c (W.setCell ⟨b, 2, none⟩ (.int .i64 c')) := by
  obtain ⟨a0, a1, a2, a3, a4⟩ := t
  refine ⟨?_, ?_, World.cell?_setCell_same _ _ _ a2, ?_, fun j => by rw [World.frozen?_setCell]; exact a4 j⟩
  · rw [World.cell?_setCell_other _ _ _ _ (by simp)]; exact a0
  · rw [World.cell?_setCell_other _ _ _ _ (by simp)]; exact a1
  · rw [World.cell?_setCell_other _ _ _ _ (by simp)]; exact a3
theorem PR.p0 {w W : World} {h l i c : Int} (p : PR w h l i c W) (v : Int) : PR w v l i c (W.setCell ⟨w.heap.size + 1, 0, none⟩ (.int .i64 v)) := ⟨p.1.setCell (by show w.heap.size ≤ w.heap.size + 1; omega) _, p.2.1.far (by omega) _ _, p.2.2.put0 v⟩
theorem PR.p1 {w W : World} {h l i c : Int} (p : PR w h l i c W) (v : Int) : PR w h v i c (W.setCell ⟨w.heap.size + 1, 1, none⟩ (.int .i64 v)) := ⟨p.1.setCell (by show w.heap.size ≤ w.heap.size + 1; omega) _, p.2.1.far (by omega) _ _, p.2.2.put1 v⟩
theorem PR.p2 {w W : World} {h l i c : Int} (p : PR w h l i c W) (v : Int) : PR w h l v c (W.setCell ⟨w.heap.size + 1, 2, none⟩ (.int .i64 v)) := ⟨p.1.setCell (by show w.heap.size ≤ w.heap.size + 1; omega) _, p.2.1.far (by omega) _ _, p.2.2.put2 v⟩
theorem PR.p3 {w W : World} {h l i c : Int} (p : PR w h l i c W) (v : Int) : PR w h l i v (W.setCell ⟨w.heap.size + 1, 3, none⟩ (.int .i64 v)) := ⟨p.1.setCell (by show w.heap.size ≤ w.heap.size + 1; omega) _, p.2.1.far (by omega) _ _, p.2.2.put v⟩
theorem PR.start (w : World) : PR w 0 0 0 0 ((w.alloc (.cells #[.int .i64 0, .int .i64 0, .int .i64 0, .int .i64 0] 23)).alloc (.cells #[.int .i64 0, .int .i64 0, .int .i64 0, .int .i64 0] 23)) := by
  have hb := (Below.refl w.heap.size w).alloc (Nat.le_refl _) (.cells #[.int .i64 0, .int .i64 0, .int .i64 0, .int .i64 0] 23)
  refine ⟨hb.alloc (by simp) _, (TB.new w 0 0 0 0).below ((Below.refl _ _).alloc (Nat.le_refl _) _), ?_⟩
  have := TB.new (w.alloc (.cells #[.int .i64 0, .int .i64 0, .int .i64 0, .int .i64 0] 23)) 0 0 0 0
  rw [show (w.alloc (.cells #[.int .i64 0, .int .i64 0, .int .i64 0, .int .i64 0] 23)).heap.size = w.heap.size + 1 by simp] at this
  exact this
/-- The reference's reading, of a list of bytes. -/
theorem rd_call (a : List UInt8) (l : List UInt8) (hl : l.length ≤ 1048576) (ha : a.length ≤ 10) (w W : World) (x y z c : Int) (h : PR w x y z c W) : Calls Tryd.prog 34 #[.string ⟨l.toArray⟩, .string ⟨a.toArray⟩] W fun e w' => e = .returned (.tuple #[.int .i64 (rdR a l).1, .string ⟨(rdR a l).2.toArray⟩]) ∧ PR w x y z c w' := by
  refine (ref23_read ⟨l.toArray⟩ ⟨a.toArray⟩ hl ha W).mono ?_
  rintro e w' ⟨rfl, hb⟩
  exact ⟨rfl, h.step hb⟩
theorem wrap64_bd (x : Int) : -9223372036854775808 ≤ wrap64 x ∧ wrap64 x ≤ 9223372036854775807 := by unfold wrap64; omega
def strLen : Value → Nat | .string b => b.size | _ => 0
set_option maxHeartbeats 2000000 in
theorem ref23_Parse (s : ByteArray) (hs : s.size ≤ 1048576) (w : World) (ht : TabP w) : Calls Tryd.prog 11 #[.string s] w fun e w' => e = .returned (.tuple #[tileV (parT s), .int .i64 (parE s)]) ∧ Below w.heap.size w w' := by
  have hl : s.data.toList.length = s.size := Array.length_toList
  have hsl : (⟨s.data.toList.toArray⟩ : ByteArray) = s := rfl
  have eA : rdR tileB s.data.toList = rA s.data.toList := rfl
  have eB : rdR [47] (rA s.data.toList).2 = rB s.data.toList := rfl
  have zA := rdR_le tileB s.data.toList
  have zB := rdR_le [47] (rA s.data.toList).2
  rw [eA] at zA
  rw [eB] at zB
  have HA : Hid (∀ W x y z c, PR w x y z c W → Calls Tryd.prog 34 #[.string s, .string ⟨#[116, 105, 108, 101, 47]⟩] W fun e w' => e = .returned (.tuple #[.int .i64 (rA s.data.toList).1, .string ⟨(rA s.data.toList).2.toArray⟩]) ∧ PR w x y z c w') := fun W x y z c h => rd_call tileB s.data.toList (by omega) (by decide) w W x y z c h
  have HB : Hid (∀ W x y z c, PR w x y z c W → Calls Tryd.prog 34 #[.string ⟨(rA s.data.toList).2.toArray⟩, .string ⟨#[47]⟩] W fun e w' => e = .returned (.tuple #[.int .i64 (rB s.data.toList).1, .string ⟨(rB s.data.toList).2.toArray⟩]) ∧ PR w x y z c w') := fun W x y z c h => rd_call [47] (rA s.data.toList).2 (by omega) (by decide) w W x y z c h
  have HX : Hid (∀ l : List UInt8, l.length ≤ s.size → ∀ W x y z c, PR w x y z c W → Calls Tryd.prog 34 #[.string ⟨l.toArray⟩, .string ⟨#[47, 120]⟩] W fun e w' => e = .returned (.tuple #[.int .i64 (rdR [47, 120] l).1, .string ⟨(rdR [47, 120] l).2.toArray⟩]) ∧ PR w x y z c w') := fun l hl2 W x y z c h => rd_call [47, 120] l (by omega) (by decide) w W x y z c h
  have HE : Hid (∀ l : List UInt8, l.length ≤ s.size → ∀ W x y z c, PR w x y z c W → Calls Tryd.prog 34 #[.string ⟨l.toArray⟩, .string ⟨#[47]⟩] W fun e w' => e = .returned (.tuple #[.int .i64 (rdR [47] l).1, .string ⟨(rdR [47] l).2.toArray⟩]) ∧ PR w x y z c w') := fun l hl2 W x y z c h => rd_call [47] l (by omega) (by decide) w W x y z c h
  have HD : Hid (∀ l : List UInt8, l.length ≤ s.size → ∀ W x y z c, PR w x y z c W → Calls Tryd.prog 34 #[.string ⟨l.toArray⟩, .string ⟨#[46, 112, 47]⟩] W fun e w' => e = .returned (.tuple #[.int .i64 (rdR dotB l).1, .string ⟨(rdR dotB l).2.toArray⟩]) ∧ PR w x y z c w') := fun l hl2 W x y z c h => rd_call dotB l (by omega) (by decide) w W x y z c h
  have HFIT : Hid (∀ idx r, Ran s.data.toList idx r → ∀ h l i c, Fits h l i c s → (rA s.data.toList).1 = h ∧ (rB s.data.toList).1 = l ∧ 0 ≤ (rdR [47] r).1 ∧ 1000 * (idx : Int) + (rdR [47] r).1 = i ∧ rCount h (rdR [47] r).2 = c ∧ 1 ≤ h ∧ h ≤ 8) := fun idx r hr h l i c hf => fits_ref hf hr
  have hRB : ∀ idx r, Ran s.data.toList idx r ↔ ∃ j, ∀ f, refLoop (f + j) 0 (rB s.data.toList).2 = (idx, r) := fun idx r => Iff.rfl
  have HRB := hid hRB
  generalize hz1 : (rA s.data.toList).1 = z1 at *
  generalize hz2 : (rB s.data.toList).1 = z2 at *
  obtain ⟨l1, hl1⟩ : ∃ l, l = (rA s.data.toList).2 := ⟨_, rfl⟩
  obtain ⟨l2, hl2⟩ : ∃ l, l = (rB s.data.toList).2 := ⟨_, rfl⟩
  rw [← hl1] at zA zB HA HB
  rw [← hl2] at zB HB HRB
  have hl2s : l2.length ≤ s.size := by omega
  have hzb1 : -1 ≤ z1 ∧ z1 < 1000000000000000000 := zA.2
  have hzb2 : -1 ≤ z2 ∧ z2 < 1000000000000000000 := zB.2
  have P0 := hid (PR.start w)
  have HT := hid ht
  clear hsl eA eB zA zB hRB hz1 hz2 hl1 hl2 ht hl
  go_enter Tryd.func11, Tryd.ntmps11
  go_wp2_with fail
  refine (HA.out _ _ _ _ _ P0.out).mono ?_
  rintro e w1 ⟨rfl, p⟩
  obtain ⟨a0, a1, a2, a3, a4⟩ := p.2.2
  have f0 := a4 0
  have P1 := hid (p.p0 z1)
  clear p a4
  go_wp2_with fail
  clear a0 a1 a2 a3 f0
  refine (HB.out _ _ _ _ _ P1.out).mono ?_
  rintro e w2 ⟨rfl, p⟩
  obtain ⟨a0, a1, a2, a3, a4⟩ := p.2.2
  have f0 := a4 1
  have P2 := hid (p.p1 z2)
  clear p a4
  go_wp2_with fail
  clear a0 a1 a2 a3 f0
  refine (HX.out l2 hl2s _ _ _ _ _ P2.out).mono ?_
  rintro e w3 ⟨rfl, p⟩
  have P3 := hid p
  clear p
  go_wp2_with fail
  go_loopw [5, 6, 7] (fun r' n' t' wr => ∃ (l : List UInt8) (idx : Nat), r' = .string ⟨l.toArray⟩ ∧ n' = .int .i64 (rdR [47, 120] l).1 ∧ t' = .string ⟨(rdR [47, 120] l).2.toArray⟩ ∧ l.length ≤ s.size ∧ idx < 6000000000000000000 ∧ PR w z1 z2 idx 0 wr ∧ ∃ j, ∀ f, refLoop (f + j) 0 l2 = refLoop f idx l) (fun r' _ _ _ => strLen r')
  case atStart => exact ⟨l2, 0, rfl, rfl, rfl, hl2s, by omega, P3.out, 0, fun f => rfl⟩
  case round =>
    obtain ⟨l, idx, rfl, rfl, rfl, hls, hib, p, hrun⟩ := hrel
    have HP := hid p
    have hrl := rdR_le [47, 120] l
    by_cases hgo : 0 ≤ (rdR [47, 120] l).1 ∧ idx < 4503599627370496
    · obtain ⟨hn, hi52⟩ := hgo
      obtain ⟨m, t, hrd⟩ : ∃ m t, rdA [47, 120] l = some (m, t) := by
        cases h : rdA [47, 120] l with
        | none => unfold rdR at hn; rw [h] at hn; simp at hn
        | some p => exact ⟨p.1, p.2, rfl⟩
      have hsm := rdA_some hrd
      have e1 : rdR [47, 120] l = ((m : Int), t) := by unfold rdR; rw [hrd]
      have HRUN : Hid (∃ j, ∀ f, refLoop (f + j) 0 l2 = refLoop f (1000 * idx + m) t) := by
        obtain ⟨j, hj⟩ := hrun
        refine ⟨j + 1, fun f => ?_⟩
        rw [show f + (j + 1) = (f + 1) + j by omega, hj (f + 1), refLoop_some f idx m l t hrd hi52]
      rw [e1]
      have hiz : (idx : Int) < 4503599627370496 := by omega
      have htl : t.length ≤ s.size := by omega
      have htl2 : t.length < l.length := by omega
      have hm : m < 1000000000000000000 := hsm.1
      obtain ⟨a0, a1, a2, a3, a4⟩ := p.2.2
      have f0 := a4 2
      have HP2 := hid (p.p2 (1000 * (idx : Int) + (m : Int)))
      clear p a4 hrun hn hrl e1 hrd hsm
      go_wp2_with fail
      clear a0 a1 a2 a3 f0
      refine (HX.out t htl _ _ _ _ _ HP2.out).mono ?_
      rintro e w4 ⟨rfl, p⟩
      have HP4 := hid p
      clear p
      go_wp2_with fail
      go_roundw
      case rel => exact ⟨t, 1000 * idx + m, rfl, rfl, rfl, htl, by omega, HP4.out, HRUN.out⟩
      case measure => exact htl2
    · have hran : Ran s.data.toList idx l := by
        obtain ⟨j, hj⟩ := hrun
        refine (HRB.out idx l).2 ⟨j, fun f => ?_⟩
        rw [hj f, loop_stop]
        by_cases h : 0 ≤ (rdR [47, 120] l).1
        · exact .inr (by rcases Nat.lt_or_ge idx 4503599627370496 with h2 | h2
                         · exact absurd ⟨h, h2⟩ hgo
                         · exact h2)
        · exact .inl (by omega)
      have hge := rdR_le [47] l
      obtain ⟨I, hI⟩ : ∃ I, I = wrap64 (wrap64 (1000 * (idx : Int)) + (rdR [47] l).1) := ⟨_, rfl⟩
      have hIb : -9223372036854775808 ≤ I ∧ I ≤ 9223372036854775807 := by rw [hI]; exact wrap64_bd _
      have hfit : ∀ a b d e, Fits a b d e s → z1 = a ∧ z2 = b ∧ 0 ≤ (rdR [47] l).1 ∧ I = d ∧ rCount a (rdR [47] l).2 = e ∧ 1 ≤ a ∧ a ≤ 8 := by
        intro a b d e hf
        obtain ⟨h1, h2, h3, h4, h5, h6⟩ := HFIT.out idx l hran a b d e hf
        obtain ⟨_, _, d', _, _, _, hd, _, _, hdl, _⟩ := hf.nat
        refine ⟨h1, h2, h3, ?_, h5, h6⟩
        rw [hI, wrap64_eq (1000 * (idx : Int)) _ rfl (by omega) (by omega)]
        exact wrap64_eq _ _ h4 (by omega) (by omega)
      have HFI := hid hfit
      have hEl := HE.out l hls
      obtain ⟨q, hq⟩ : ∃ q, q = (rdR [47] l).1 := ⟨_, rfl⟩
      obtain ⟨t, htd⟩ : ∃ t, t = (rdR [47] l).2 := ⟨_, rfl⟩
      rw [← hq] at hI hfit hge HFI hEl
      rw [← htd] at hfit hge HFI hEl
      have hts : t.length ≤ s.size := by omega
      have HEL := hid hEl
      have HI := hid hI
      have HIB := hid hIb
      obtain ⟨n0, hn0⟩ : ∃ n, n = (rdR [47, 120] l).1 := ⟨_, rfl⟩
      rw [← hn0] at hgo hrl ⊢
      obtain ⟨t0, ht0⟩ : ∃ t, t = (⟨(rdR [47, 120] l).2.toArray⟩ : ByteArray) := ⟨_, rfl⟩
      rw [← ht0]
      have hqb : -1 ≤ q ∧ q < 1000000000000000000 := hge.2
      obtain ⟨a0, a1, a2, a3, a4⟩ := p.2.2
      clear p a4 hrun hran hfit hI hIb hge hq htd hEl hn0 ht0 hrl
      by_cases hn : 0 ≤ n0
      · have hiz : ¬ (idx : Int) < 4503599627370496 := fun h => hgo ⟨hn, by omega⟩
        clear hgo
        go_wp2_with fail
        clear a0 a1 a2 a3
        refine (HEL.out _ _ _ _ _ HP.out).mono ?_
        rintro e w5 ⟨rfl, p⟩
        obtain ⟨a0, a1, a2, a3, a4⟩ := p.2.2
        have f0 := a4 2
        have HP5 := hid (p.p2 I)
        clear p a4
        go_upto_region 12 with fail
        rw [← HI.out]
        generalize w5.setCell ⟨w.heap.size + 1, 2, none⟩ (.int .i64 I) = W6 at *
        clear a0 a1 a2 a3 f0 HI
        obtain ⟨a0, a1, a2, a3, a4⟩ := HP5.out.2.2
        obtain ⟨r0, r1, r2, r3, r4⟩ := HP5.out.2.1
        by_cases c1 : z1 < 1
        · have HNO := hid (par_no (s := s) (fun a b d e hf => by
            obtain ⟨h1, h2, h3, h4, h5, h6, h8⟩ := HFI.out a b d e hf
            omega))
          have f0 := r4 0
          have f1 := r4 1
          have f2 := r4 2
          have f3 := r4 3
          clear r4 a4
          go_wp2_with fail
          clear r0 r1 r2 r3 f0 f1 f2 f3 a0 a1 a2 a3
          show bodyPost Tryd.prog _ _ _ _ (store4 W6 w.heap.size 0 0 0 0)
          have hst := HP5.out.2.1.store 0 0 0 0
          have HBV := hid (store4_below HP5.out.1 (Nat.le_refl _) 0 0 0 0)
          generalize store4 W6 w.heap.size 0 0 0 0 = V at *
          obtain ⟨d0, d1, d2, d3, d4⟩ := hst
          refine bodyPost_ret_by (v := .tuple #[.agg #[.int .i64 0, .int .i64 0, .int .i64 0, .int .i64 0], .int .i64 230]) (by rw [results_cell_tmp rfl]; go_simp) rfl ?_
          obtain ⟨hp1, hp2⟩ := HNO.out
          exact ⟨by rw [hp1, hp2]; rfl, HBV.out⟩
        · by_cases c8 : 8 < z1
          · have HNO := hid (par_no (s := s) (fun a b d e hf => by
              obtain ⟨h1, h2, h3, h4, h5, h6, h8⟩ := HFI.out a b d e hf
              omega))
            have f0 := r4 0
            have f1 := r4 1
            have f2 := r4 2
            have f3 := r4 3
            clear r4 a4
            go_wp2_with fail
            clear r0 r1 r2 r3 f0 f1 f2 f3 a0 a1 a2 a3
            show bodyPost Tryd.prog _ _ _ _ (store4 W6 w.heap.size 0 0 0 0)
            have hst := HP5.out.2.1.store 0 0 0 0
            have HBV := hid (store4_below HP5.out.1 (Nat.le_refl _) 0 0 0 0)
            generalize store4 W6 w.heap.size 0 0 0 0 = V at *
            obtain ⟨d0, d1, d2, d3, d4⟩ := hst
            refine bodyPost_ret_by (v := .tuple #[.agg #[.int .i64 0, .int .i64 0, .int .i64 0, .int .i64 0], .int .i64 230]) (by rw [results_cell_tmp rfl]; go_simp) rfl ?_
            obtain ⟨hp1, hp2⟩ := HNO.out
            exact ⟨by rw [hp1, hp2]; rfl, HBV.out⟩
          · by_cases cq : q < 0
            · have HNO := hid (par_no (s := s) (fun a b d e hf => by
                obtain ⟨h1, h2, h3, h4, h5, h6, h8⟩ := HFI.out a b d e hf
                omega))
              have f0 := r4 0
              have f1 := r4 1
              have f2 := r4 2
              have f3 := r4 3
              clear r4 a4
              go_wp2_with fail
              clear r0 r1 r2 r3 f0 f1 f2 f3 a0 a1 a2 a3
              show bodyPost Tryd.prog _ _ _ _ (store4 W6 w.heap.size 0 0 0 0)
              have hst := HP5.out.2.1.store 0 0 0 0
              have HBV := hid (store4_below HP5.out.1 (Nat.le_refl _) 0 0 0 0)
              generalize store4 W6 w.heap.size 0 0 0 0 = V at *
              obtain ⟨d0, d1, d2, d3, d4⟩ := hst
              refine bodyPost_ret_by (v := .tuple #[.agg #[.int .i64 0, .int .i64 0, .int .i64 0, .int .i64 0], .int .i64 230]) (by rw [results_cell_tmp rfl]; go_simp) rfl ?_
              obtain ⟨hp1, hp2⟩ := HNO.out
              exact ⟨by rw [hp1, hp2]; rfl, HBV.out⟩
            · obtain ⟨n, rfl⟩ := Int.eq_ofNat_of_zero_le (show 0 ≤ z1 by omega)
              have hn8 : n ≤ 8 := by omega
              obtain ⟨P, hP⟩ : ∃ P : Nat, P = 2 ^ n := ⟨_, rfl⟩
              have hpow : (2 : Int) ^ n = (P : Int) := by rw [hP]; simp
              have hP2 : P ≤ 256 := by rw [hP]; exact Nat.pow_le_pow_right (show 0 < 2 by decide) hn8
              have hu1 : IntKind.u64.wrap (n : Int) = n := by rw [IntKind.wrap_u64]; omega
              have f3 := a4 3
              obtain ⟨T, hT⟩ : ∃ T, T = (⟨t.toArray⟩ : ByteArray) := ⟨_, rfl⟩
              by_cases ht0 : t = []
              · have HPO := par_of n z2 I P s (fun a b d e hf => by
                  obtain ⟨h1, h2, h3, h4, h5, h6, h8⟩ := HFI.out a b d e hf
                  refine ⟨h1.symm, h2.symm, h4.symm, ?_⟩
                  rw [← h5, ← h1, ht0]
                  show rCount n [] = P
                  unfold rCount
                  rw [if_pos rfl, Int.toNat_natCast, hP])
                have HWAY := hid (way_of HPO.1 HPO.2)
                have HPATH : Hid (∀ W, Below w.heap.size w W → Calls Tryd.prog 35 #[.agg #[.int .i64 n, .int .i64 z2, .int .i64 I, .int .i64 P]] W fun e w' => e = .returned (.tuple #[.string (pathS n z2 I P), .int .i64 (pathE n z2 I P)]) ∧ Below W.heap.size W w') := fun W hW => ref23_Path n z2 I P (by omega) (by omega) HIB.out (by omega) W (HT.out.below hW)
                generalize pathS n z2 I P = sN at *
                generalize pathE n z2 I P = zN at *
                have hte : T.toList.isEmpty = true := by rw [hT, ht0, ByteArray.toList_eq]; rfl
                have HTT := hid (HP5.out.p3 P)
                rw [← hT]
                clear HPO hP a4 r0 r1 r2 r3 r4 ht0 hT
                go_wp2_with fail
                clear a0 a1 a2 a3 f3 hpow hu1
                refine (HPATH.out _ HTT.out.1).mono ?_
                rintro e w10 ⟨rfl, hb⟩
                have HB10 := hid (Below.then' HTT.out.1 hb)
                have HQ := hid (HTT.out.step hb).2.2
                have HR := hid (HTT.out.step hb).2.1
                clear hb
                rcases HWAY.out with ⟨hz, hp⟩ | ⟨hz, hsn, hp⟩ | ⟨hz, hsn, hp⟩
                · have hz1 : (zN != 0) = true := bne_iff_ne.2 hz
                  have HPE := hid hp
                  obtain ⟨r0, r1, r2, r3, r4⟩ := HR.out
                  have f0 := r4 0
                  have f1 := r4 1
                  have f2 := r4 2
                  have f3 := r4 3
                  clear r4 HWAY hz hp
                  go_wp2_with fail
                  clear r0 r1 r2 r3 f0 f1 f2 f3
                  show bodyPost Tryd.prog _ _ _ _ (store4 w10 w.heap.size 0 0 0 0)
                  have hst := HR.out.store 0 0 0 0
                  have HBV := hid (store4_below HB10.out (Nat.le_refl _) 0 0 0 0)
                  generalize store4 w10 w.heap.size 0 0 0 0 = V at *
                  obtain ⟨d0, d1, d2, d3, d4⟩ := hst
                  refine bodyPost_ret_by (v := .tuple #[.agg #[.int .i64 0, .int .i64 0, .int .i64 0, .int .i64 0], .int .i64 230]) (by rw [results_cell_tmp rfl]; go_simp) rfl ?_
                  obtain ⟨hp1, hp2⟩ := HPE.out
                  exact ⟨by rw [hp1, hp2]; rfl, HBV.out⟩
                · have HPE := hid hp
                  obtain ⟨r0, r1, r2, r3, r4⟩ := HR.out
                  have f0 := r4 0
                  have f1 := r4 1
                  have f2 := r4 2
                  have f3 := r4 3
                  subst hz
                  clear r4 HWAY hp
                  go_wp2_with fail
                  clear r0 r1 r2 r3 f0 f1 f2 f3
                  show bodyPost Tryd.prog _ _ _ _ (store4 w10 w.heap.size 0 0 0 0)
                  have hst := HR.out.store 0 0 0 0
                  have HBV := hid (store4_below HB10.out (Nat.le_refl _) 0 0 0 0)
                  generalize store4 w10 w.heap.size 0 0 0 0 = V at *
                  obtain ⟨d0, d1, d2, d3, d4⟩ := hst
                  refine bodyPost_ret_by (v := .tuple #[.agg #[.int .i64 0, .int .i64 0, .int .i64 0, .int .i64 0], .int .i64 230]) (by rw [results_cell_tmp rfl]; go_simp) rfl ?_
                  obtain ⟨hp1, hp2⟩ := HPE.out
                  exact ⟨by rw [hp1, hp2]; rfl, HBV.out⟩
                · have HPE := hid hp
                  obtain ⟨r0, r1, r2, r3, r4⟩ := HR.out
                  obtain ⟨q0, q1, q2, q3, q4⟩ := HQ.out
                  have f0 := r4 0
                  have f1 := r4 1
                  have f2 := r4 2
                  have f3 := r4 3
                  subst hz
                  clear r4 q4 HWAY hp
                  go_wp2_with fail
                  clear r0 r1 r2 r3 f0 f1 f2 f3 q0 q1 q2 q3
                  show bodyPost Tryd.prog _ _ _ _ (store4 w10 w.heap.size _ _ _ _)
                  have hst := HR.out.store (n:Int) z2 I (P:Int)
                  have HBV := hid (store4_below HB10.out (Nat.le_refl _) (n:Int) z2 I (P:Int))
                  generalize store4 w10 w.heap.size (n:Int) z2 I (P:Int) = V at *
                  obtain ⟨d0, d1, d2, d3, d4⟩ := hst
                  refine bodyPost_ret_by (v := .tuple #[.agg #[.int .i64 (n:Int), .int .i64 z2, .int .i64 I, .int .i64 (P:Int)], .int .i64 0]) (by rw [results_cell_tmp rfl]; go_simp) rfl ?_
                  obtain ⟨hp1, hp2⟩ := HPE.out
                  exact ⟨by rw [hp1, hp2]; rfl, HBV.out⟩
              · have hC := rdR_le dotB t
                have HRD := HD.out t hts
                have HPO := par_of n z2 I (rdR dotB t).1 s (fun a b d e hf => by
                  obtain ⟨h1, h2, h3, h4, h5, h6, h8⟩ := HFI.out a b d e hf
                  refine ⟨h1.symm, h2.symm, h4.symm, ?_⟩
                  rw [← h5]
                  unfold rCount
                  rw [if_neg ht0])
                obtain ⟨C, hCd⟩ : ∃ C, C = (rdR dotB t).1 := ⟨_, rfl⟩
                rw [← hCd] at HPO hC HRD
                have HWAY := hid (way_of HPO.1 HPO.2)
                have HPATH : Hid (∀ W, Below w.heap.size w W → Calls Tryd.prog 35 #[.agg #[.int .i64 n, .int .i64 z2, .int .i64 I, .int .i64 C]] W fun e w' => e = .returned (.tuple #[.string (pathS n z2 I C), .int .i64 (pathE n z2 I C)]) ∧ Below W.heap.size W w') := fun W hW => ref23_Path n z2 I C (by omega) (by omega) HIB.out (by omega) W (HT.out.below hW)
                generalize pathS n z2 I C = sN at *
                generalize pathE n z2 I C = zN at *
                have hte : T.toList.isEmpty = false := by
                  rw [hT, ByteArray.toList_eq]
                  cases t with
                  | nil => exact absurd rfl ht0
                  | cons x r => rfl
                have HTT6 := hid (HP5.out.p3 P)
                rw [← hT] at HRD ⊢
                have HRDh := hid HRD
                clear HPO hP a4 r0 r1 r2 r3 r4 ht0 hT hC hCd HRD
                go_wp2_with fail
                clear a0 a1 a2 a3 f3 hpow hu1
                refine (HRDh.out _ _ _ _ _ HTT6.out).mono ?_
                rintro e w7 ⟨rfl, p⟩
                obtain ⟨a0, a1, a2, a3, a4⟩ := p.2.2
                have f3 := a4 3
                have HTT := hid (p.p3 C)
                clear p a4
                go_wp2_with fail
                clear a0 a1 a2 a3 f3
                refine (HPATH.out _ HTT.out.1).mono ?_
                rintro e w10 ⟨rfl, hb⟩
                have HB10 := hid (Below.then' HTT.out.1 hb)
                have HQ := hid (HTT.out.step hb).2.2
                have HR := hid (HTT.out.step hb).2.1
                clear hb
                rcases HWAY.out with ⟨hz, hp⟩ | ⟨hz, hsn, hp⟩ | ⟨hz, hsn, hp⟩
                · have hz1 : (zN != 0) = true := bne_iff_ne.2 hz
                  have HPE := hid hp
                  obtain ⟨r0, r1, r2, r3, r4⟩ := HR.out
                  have f0 := r4 0
                  have f1 := r4 1
                  have f2 := r4 2
                  have f3 := r4 3
                  clear r4 HWAY hz hp
                  go_wp2_with fail
                  clear r0 r1 r2 r3 f0 f1 f2 f3
                  show bodyPost Tryd.prog _ _ _ _ (store4 w10 w.heap.size 0 0 0 0)
                  have hst := HR.out.store 0 0 0 0
                  have HBV := hid (store4_below HB10.out (Nat.le_refl _) 0 0 0 0)
                  generalize store4 w10 w.heap.size 0 0 0 0 = V at *
                  obtain ⟨d0, d1, d2, d3, d4⟩ := hst
                  refine bodyPost_ret_by (v := .tuple #[.agg #[.int .i64 0, .int .i64 0, .int .i64 0, .int .i64 0], .int .i64 230]) (by rw [results_cell_tmp rfl]; go_simp) rfl ?_
                  obtain ⟨hp1, hp2⟩ := HPE.out
                  exact ⟨by rw [hp1, hp2]; rfl, HBV.out⟩
                · have HPE := hid hp
                  obtain ⟨r0, r1, r2, r3, r4⟩ := HR.out
                  have f0 := r4 0
                  have f1 := r4 1
                  have f2 := r4 2
                  have f3 := r4 3
                  subst hz
                  clear r4 HWAY hp
                  go_wp2_with fail
                  clear r0 r1 r2 r3 f0 f1 f2 f3
                  show bodyPost Tryd.prog _ _ _ _ (store4 w10 w.heap.size 0 0 0 0)
                  have hst := HR.out.store 0 0 0 0
                  have HBV := hid (store4_below HB10.out (Nat.le_refl _) 0 0 0 0)
                  generalize store4 w10 w.heap.size 0 0 0 0 = V at *
                  obtain ⟨d0, d1, d2, d3, d4⟩ := hst
                  refine bodyPost_ret_by (v := .tuple #[.agg #[.int .i64 0, .int .i64 0, .int .i64 0, .int .i64 0], .int .i64 230]) (by rw [results_cell_tmp rfl]; go_simp) rfl ?_
                  obtain ⟨hp1, hp2⟩ := HPE.out
                  exact ⟨by rw [hp1, hp2]; rfl, HBV.out⟩
                · have HPE := hid hp
                  obtain ⟨r0, r1, r2, r3, r4⟩ := HR.out
                  obtain ⟨q0, q1, q2, q3, q4⟩ := HQ.out
                  have f0 := r4 0
                  have f1 := r4 1
                  have f2 := r4 2
                  have f3 := r4 3
                  subst hz
                  clear r4 q4 HWAY hp
                  go_wp2_with fail
                  clear r0 r1 r2 r3 f0 f1 f2 f3 q0 q1 q2 q3
                  show bodyPost Tryd.prog _ _ _ _ (store4 w10 w.heap.size _ _ _ _)
                  have hst := HR.out.store (n:Int) z2 I C
                  have HBV := hid (store4_below HB10.out (Nat.le_refl _) (n:Int) z2 I C)
                  generalize store4 w10 w.heap.size (n:Int) z2 I C = V at *
                  obtain ⟨d0, d1, d2, d3, d4⟩ := hst
                  refine bodyPost_ret_by (v := .tuple #[.agg #[.int .i64 (n:Int), .int .i64 z2, .int .i64 I, .int .i64 C], .int .i64 0]) (by rw [results_cell_tmp rfl]; go_simp) rfl ?_
                  obtain ⟨hp1, hp2⟩ := HPE.out
                  exact ⟨by rw [hp1, hp2]; rfl, HBV.out⟩
      · clear hgo
        go_wp2_with fail
        clear a0 a1 a2 a3
        refine (HEL.out _ _ _ _ _ HP.out).mono ?_
        rintro e w5 ⟨rfl, p⟩
        obtain ⟨a0, a1, a2, a3, a4⟩ := p.2.2
        have f0 := a4 2
        have HP5 := hid (p.p2 I)
        clear p a4
        go_upto_region 12 with fail
        rw [← HI.out]
        generalize w5.setCell ⟨w.heap.size + 1, 2, none⟩ (.int .i64 I) = W6 at *
        clear a0 a1 a2 a3 f0 HI
        obtain ⟨a0, a1, a2, a3, a4⟩ := HP5.out.2.2
        obtain ⟨r0, r1, r2, r3, r4⟩ := HP5.out.2.1
        by_cases c1 : z1 < 1
        · have HNO := hid (par_no (s := s) (fun a b d e hf => by
            obtain ⟨h1, h2, h3, h4, h5, h6, h8⟩ := HFI.out a b d e hf
            omega))
          have f0 := r4 0
          have f1 := r4 1
          have f2 := r4 2
          have f3 := r4 3
          clear r4 a4
          go_wp2_with fail
          clear r0 r1 r2 r3 f0 f1 f2 f3 a0 a1 a2 a3
          show bodyPost Tryd.prog _ _ _ _ (store4 W6 w.heap.size 0 0 0 0)
          have hst := HP5.out.2.1.store 0 0 0 0
          have HBV := hid (store4_below HP5.out.1 (Nat.le_refl _) 0 0 0 0)
          generalize store4 W6 w.heap.size 0 0 0 0 = V at *
          obtain ⟨d0, d1, d2, d3, d4⟩ := hst
          refine bodyPost_ret_by (v := .tuple #[.agg #[.int .i64 0, .int .i64 0, .int .i64 0, .int .i64 0], .int .i64 230]) (by rw [results_cell_tmp rfl]; go_simp) rfl ?_
          obtain ⟨hp1, hp2⟩ := HNO.out
          exact ⟨by rw [hp1, hp2]; rfl, HBV.out⟩
        · by_cases c8 : 8 < z1
          · have HNO := hid (par_no (s := s) (fun a b d e hf => by
              obtain ⟨h1, h2, h3, h4, h5, h6, h8⟩ := HFI.out a b d e hf
              omega))
            have f0 := r4 0
            have f1 := r4 1
            have f2 := r4 2
            have f3 := r4 3
            clear r4 a4
            go_wp2_with fail
            clear r0 r1 r2 r3 f0 f1 f2 f3 a0 a1 a2 a3
            show bodyPost Tryd.prog _ _ _ _ (store4 W6 w.heap.size 0 0 0 0)
            have hst := HP5.out.2.1.store 0 0 0 0
            have HBV := hid (store4_below HP5.out.1 (Nat.le_refl _) 0 0 0 0)
            generalize store4 W6 w.heap.size 0 0 0 0 = V at *
            obtain ⟨d0, d1, d2, d3, d4⟩ := hst
            refine bodyPost_ret_by (v := .tuple #[.agg #[.int .i64 0, .int .i64 0, .int .i64 0, .int .i64 0], .int .i64 230]) (by rw [results_cell_tmp rfl]; go_simp) rfl ?_
            obtain ⟨hp1, hp2⟩ := HNO.out
            exact ⟨by rw [hp1, hp2]; rfl, HBV.out⟩
          · by_cases cq : q < 0
            · have HNO := hid (par_no (s := s) (fun a b d e hf => by
                obtain ⟨h1, h2, h3, h4, h5, h6, h8⟩ := HFI.out a b d e hf
                omega))
              have f0 := r4 0
              have f1 := r4 1
              have f2 := r4 2
              have f3 := r4 3
              clear r4 a4
              go_wp2_with fail
              clear r0 r1 r2 r3 f0 f1 f2 f3 a0 a1 a2 a3
              show bodyPost Tryd.prog _ _ _ _ (store4 W6 w.heap.size 0 0 0 0)
              have hst := HP5.out.2.1.store 0 0 0 0
              have HBV := hid (store4_below HP5.out.1 (Nat.le_refl _) 0 0 0 0)
              generalize store4 W6 w.heap.size 0 0 0 0 = V at *
              obtain ⟨d0, d1, d2, d3, d4⟩ := hst
              refine bodyPost_ret_by (v := .tuple #[.agg #[.int .i64 0, .int .i64 0, .int .i64 0, .int .i64 0], .int .i64 230]) (by rw [results_cell_tmp rfl]; go_simp) rfl ?_
              obtain ⟨hp1, hp2⟩ := HNO.out
              exact ⟨by rw [hp1, hp2]; rfl, HBV.out⟩
            · obtain ⟨n, rfl⟩ := Int.eq_ofNat_of_zero_le (show 0 ≤ z1 by omega)
              have hn8 : n ≤ 8 := by omega
              obtain ⟨P, hP⟩ : ∃ P : Nat, P = 2 ^ n := ⟨_, rfl⟩
              have hpow : (2 : Int) ^ n = (P : Int) := by rw [hP]; simp
              have hP2 : P ≤ 256 := by rw [hP]; exact Nat.pow_le_pow_right (show 0 < 2 by decide) hn8
              have hu1 : IntKind.u64.wrap (n : Int) = n := by rw [IntKind.wrap_u64]; omega
              have f3 := a4 3
              obtain ⟨T, hT⟩ : ∃ T, T = (⟨t.toArray⟩ : ByteArray) := ⟨_, rfl⟩
              by_cases ht0 : t = []
              · have HPO := par_of n z2 I P s (fun a b d e hf => by
                  obtain ⟨h1, h2, h3, h4, h5, h6, h8⟩ := HFI.out a b d e hf
                  refine ⟨h1.symm, h2.symm, h4.symm, ?_⟩
                  rw [← h5, ← h1, ht0]
                  show rCount n [] = P
                  unfold rCount
                  rw [if_pos rfl, Int.toNat_natCast, hP])
                have HWAY := hid (way_of HPO.1 HPO.2)
                have HPATH : Hid (∀ W, Below w.heap.size w W → Calls Tryd.prog 35 #[.agg #[.int .i64 n, .int .i64 z2, .int .i64 I, .int .i64 P]] W fun e w' => e = .returned (.tuple #[.string (pathS n z2 I P), .int .i64 (pathE n z2 I P)]) ∧ Below W.heap.size W w') := fun W hW => ref23_Path n z2 I P (by omega) (by omega) HIB.out (by omega) W (HT.out.below hW)
                generalize pathS n z2 I P = sN at *
                generalize pathE n z2 I P = zN at *
                have hte : T.toList.isEmpty = true := by rw [hT, ht0, ByteArray.toList_eq]; rfl
                have HTT := hid (HP5.out.p3 P)
                rw [← hT]
                clear HPO hP a4 r0 r1 r2 r3 r4 ht0 hT
                go_wp2_with fail
                clear a0 a1 a2 a3 f3 hpow hu1
                refine (HPATH.out _ HTT.out.1).mono ?_
                rintro e w10 ⟨rfl, hb⟩
                have HB10 := hid (Below.then' HTT.out.1 hb)
                have HQ := hid (HTT.out.step hb).2.2
                have HR := hid (HTT.out.step hb).2.1
                clear hb
                rcases HWAY.out with ⟨hz, hp⟩ | ⟨hz, hsn, hp⟩ | ⟨hz, hsn, hp⟩
                · have hz1 : (zN != 0) = true := bne_iff_ne.2 hz
                  have HPE := hid hp
                  obtain ⟨r0, r1, r2, r3, r4⟩ := HR.out
                  have f0 := r4 0
                  have f1 := r4 1
                  have f2 := r4 2
                  have f3 := r4 3
                  clear r4 HWAY hz hp
                  go_wp2_with fail
                  clear r0 r1 r2 r3 f0 f1 f2 f3
                  show bodyPost Tryd.prog _ _ _ _ (store4 w10 w.heap.size 0 0 0 0)
                  have hst := HR.out.store 0 0 0 0
                  have HBV := hid (store4_below HB10.out (Nat.le_refl _) 0 0 0 0)
                  generalize store4 w10 w.heap.size 0 0 0 0 = V at *
                  obtain ⟨d0, d1, d2, d3, d4⟩ := hst
                  refine bodyPost_ret_by (v := .tuple #[.agg #[.int .i64 0, .int .i64 0, .int .i64 0, .int .i64 0], .int .i64 230]) (by rw [results_cell_tmp rfl]; go_simp) rfl ?_
                  obtain ⟨hp1, hp2⟩ := HPE.out
                  exact ⟨by rw [hp1, hp2]; rfl, HBV.out⟩
                · have HPE := hid hp
                  obtain ⟨r0, r1, r2, r3, r4⟩ := HR.out
                  have f0 := r4 0
                  have f1 := r4 1
                  have f2 := r4 2
                  have f3 := r4 3
                  subst hz
                  clear r4 HWAY hp
                  go_wp2_with fail
                  clear r0 r1 r2 r3 f0 f1 f2 f3
                  show bodyPost Tryd.prog _ _ _ _ (store4 w10 w.heap.size 0 0 0 0)
                  have hst := HR.out.store 0 0 0 0
                  have HBV := hid (store4_below HB10.out (Nat.le_refl _) 0 0 0 0)
                  generalize store4 w10 w.heap.size 0 0 0 0 = V at *
                  obtain ⟨d0, d1, d2, d3, d4⟩ := hst
                  refine bodyPost_ret_by (v := .tuple #[.agg #[.int .i64 0, .int .i64 0, .int .i64 0, .int .i64 0], .int .i64 230]) (by rw [results_cell_tmp rfl]; go_simp) rfl ?_
                  obtain ⟨hp1, hp2⟩ := HPE.out
                  exact ⟨by rw [hp1, hp2]; rfl, HBV.out⟩
                · have HPE := hid hp
                  obtain ⟨r0, r1, r2, r3, r4⟩ := HR.out
                  obtain ⟨q0, q1, q2, q3, q4⟩ := HQ.out
                  have f0 := r4 0
                  have f1 := r4 1
                  have f2 := r4 2
                  have f3 := r4 3
                  subst hz
                  clear r4 q4 HWAY hp
                  go_wp2_with fail
                  clear r0 r1 r2 r3 f0 f1 f2 f3 q0 q1 q2 q3
                  show bodyPost Tryd.prog _ _ _ _ (store4 w10 w.heap.size _ _ _ _)
                  have hst := HR.out.store (n:Int) z2 I (P:Int)
                  have HBV := hid (store4_below HB10.out (Nat.le_refl _) (n:Int) z2 I (P:Int))
                  generalize store4 w10 w.heap.size (n:Int) z2 I (P:Int) = V at *
                  obtain ⟨d0, d1, d2, d3, d4⟩ := hst
                  refine bodyPost_ret_by (v := .tuple #[.agg #[.int .i64 (n:Int), .int .i64 z2, .int .i64 I, .int .i64 (P:Int)], .int .i64 0]) (by rw [results_cell_tmp rfl]; go_simp) rfl ?_
                  obtain ⟨hp1, hp2⟩ := HPE.out
                  exact ⟨by rw [hp1, hp2]; rfl, HBV.out⟩
              · have hC := rdR_le dotB t
                have HRD := HD.out t hts
                have HPO := par_of n z2 I (rdR dotB t).1 s (fun a b d e hf => by
                  obtain ⟨h1, h2, h3, h4, h5, h6, h8⟩ := HFI.out a b d e hf
                  refine ⟨h1.symm, h2.symm, h4.symm, ?_⟩
                  rw [← h5]
                  unfold rCount
                  rw [if_neg ht0])
                obtain ⟨C, hCd⟩ : ∃ C, C = (rdR dotB t).1 := ⟨_, rfl⟩
                rw [← hCd] at HPO hC HRD
                have HWAY := hid (way_of HPO.1 HPO.2)
                have HPATH : Hid (∀ W, Below w.heap.size w W → Calls Tryd.prog 35 #[.agg #[.int .i64 n, .int .i64 z2, .int .i64 I, .int .i64 C]] W fun e w' => e = .returned (.tuple #[.string (pathS n z2 I C), .int .i64 (pathE n z2 I C)]) ∧ Below W.heap.size W w') := fun W hW => ref23_Path n z2 I C (by omega) (by omega) HIB.out (by omega) W (HT.out.below hW)
                generalize pathS n z2 I C = sN at *
                generalize pathE n z2 I C = zN at *
                have hte : T.toList.isEmpty = false := by
                  rw [hT, ByteArray.toList_eq]
                  cases t with
                  | nil => exact absurd rfl ht0
                  | cons x r => rfl
                have HTT6 := hid (HP5.out.p3 P)
                rw [← hT] at HRD ⊢
                have HRDh := hid HRD
                clear HPO hP a4 r0 r1 r2 r3 r4 ht0 hT hC hCd HRD
                go_wp2_with fail
                clear a0 a1 a2 a3 f3 hpow hu1
                refine (HRDh.out _ _ _ _ _ HTT6.out).mono ?_
                rintro e w7 ⟨rfl, p⟩
                obtain ⟨a0, a1, a2, a3, a4⟩ := p.2.2
                have f3 := a4 3
                have HTT := hid (p.p3 C)
                clear p a4
                go_wp2_with fail
                clear a0 a1 a2 a3 f3
                refine (HPATH.out _ HTT.out.1).mono ?_
                rintro e w10 ⟨rfl, hb⟩
                have HB10 := hid (Below.then' HTT.out.1 hb)
                have HQ := hid (HTT.out.step hb).2.2
                have HR := hid (HTT.out.step hb).2.1
                clear hb
                rcases HWAY.out with ⟨hz, hp⟩ | ⟨hz, hsn, hp⟩ | ⟨hz, hsn, hp⟩
                · have hz1 : (zN != 0) = true := bne_iff_ne.2 hz
                  have HPE := hid hp
                  obtain ⟨r0, r1, r2, r3, r4⟩ := HR.out
                  have f0 := r4 0
                  have f1 := r4 1
                  have f2 := r4 2
                  have f3 := r4 3
                  clear r4 HWAY hz hp
                  go_wp2_with fail
                  clear r0 r1 r2 r3 f0 f1 f2 f3
                  show bodyPost Tryd.prog _ _ _ _ (store4 w10 w.heap.size 0 0 0 0)
                  have hst := HR.out.store 0 0 0 0
                  have HBV := hid (store4_below HB10.out (Nat.le_refl _) 0 0 0 0)
                  generalize store4 w10 w.heap.size 0 0 0 0 = V at *
                  obtain ⟨d0, d1, d2, d3, d4⟩ := hst
                  refine bodyPost_ret_by (v := .tuple #[.agg #[.int .i64 0, .int .i64 0, .int .i64 0, .int .i64 0], .int .i64 230]) (by rw [results_cell_tmp rfl]; go_simp) rfl ?_
                  obtain ⟨hp1, hp2⟩ := HPE.out
                  exact ⟨by rw [hp1, hp2]; rfl, HBV.out⟩
                · have HPE := hid hp
                  obtain ⟨r0, r1, r2, r3, r4⟩ := HR.out
                  have f0 := r4 0
                  have f1 := r4 1
                  have f2 := r4 2
                  have f3 := r4 3
                  subst hz
                  clear r4 HWAY hp
                  go_wp2_with fail
                  clear r0 r1 r2 r3 f0 f1 f2 f3
                  show bodyPost Tryd.prog _ _ _ _ (store4 w10 w.heap.size 0 0 0 0)
                  have hst := HR.out.store 0 0 0 0
                  have HBV := hid (store4_below HB10.out (Nat.le_refl _) 0 0 0 0)
                  generalize store4 w10 w.heap.size 0 0 0 0 = V at *
                  obtain ⟨d0, d1, d2, d3, d4⟩ := hst
                  refine bodyPost_ret_by (v := .tuple #[.agg #[.int .i64 0, .int .i64 0, .int .i64 0, .int .i64 0], .int .i64 230]) (by rw [results_cell_tmp rfl]; go_simp) rfl ?_
                  obtain ⟨hp1, hp2⟩ := HPE.out
                  exact ⟨by rw [hp1, hp2]; rfl, HBV.out⟩
                · have HPE := hid hp
                  obtain ⟨r0, r1, r2, r3, r4⟩ := HR.out
                  obtain ⟨q0, q1, q2, q3, q4⟩ := HQ.out
                  have f0 := r4 0
                  have f1 := r4 1
                  have f2 := r4 2
                  have f3 := r4 3
                  subst hz
                  clear r4 q4 HWAY hp
                  go_wp2_with fail
                  clear r0 r1 r2 r3 f0 f1 f2 f3 q0 q1 q2 q3
                  show bodyPost Tryd.prog _ _ _ _ (store4 w10 w.heap.size _ _ _ _)
                  have hst := HR.out.store (n:Int) z2 I C
                  have HBV := hid (store4_below HB10.out (Nat.le_refl _) (n:Int) z2 I C)
                  generalize store4 w10 w.heap.size (n:Int) z2 I C = V at *
                  obtain ⟨d0, d1, d2, d3, d4⟩ := hst
                  refine bodyPost_ret_by (v := .tuple #[.agg #[.int .i64 (n:Int), .int .i64 z2, .int .i64 I, .int .i64 C], .int .i64 0]) (by rw [results_cell_tmp rfl]; go_simp) rfl ?_
                  obtain ⟨hp1, hp2⟩ := HPE.out
                  exact ⟨by rw [hp1, hp2]; rfl, HBV.out⟩
end Go.Proofs.YtaaldkkfedinpaaDoor
