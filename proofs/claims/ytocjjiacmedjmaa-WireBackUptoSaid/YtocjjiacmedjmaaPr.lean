/- The program's reader of a proof: its box, its places, its numbers. -/
import Derived.Test.YtocjjiacmedjmaaUnHashes
import Derived.Test.YtocjjiacmedjmaaRefCounts
import Derived.Test.YtocjjiacmedjmaaGrew
set_option maxRecDepth 100000
namespace Go.Proofs.Ytocjjiacmedjmaa
open Go Go.RowKit

/-- A number, at most max; of a max below 0 none goes. -/
def rdNumI (s : ByteArray) (max : Int) (k : Int) (st : St) : Nat × St :=
  if max < 0 then (match st with | .error e => (0, .error e) | .ok p => if (varAt s p 0 0).2.2 ≠ 0 then (0, .error (varAt s p 0 0).2.2) else (0, .error k)) else rdNum s max.toNat k st
theorem rdNumI_error (s : ByteArray) (max k e : Int) : rdNumI s max k (.error e) = (0, .error e) := by
  unfold rdNumI; split <;> rfl
theorem rdNumI_le (s : ByteArray) (max k : Int) (hm : -1 ≤ max) (st : St) : ((rdNumI s max k st).1 : Int) ≤ max ∨ (rdNumI s max k st).1 = 0 := by
  unfold rdNumI
  split
  · right; cases st with
    | error e => rfl
    | ok p => simp only; split <;> rfl
  · left; have := rdNum_le s max.toNat k st; omega
theorem wire_readNumberI (b : Nat) (s : ByteArray) (st : St) (max : Int) (k : Int) (hk : k ≠ 0) (hm : max ≤ 4611686018427387904) (hs : s.size ≤ 140737488355328) (w : World) (h : Rd b s st w) :
    Calls Try.prog 43 #[.pointer (some ⟨b, 0, none⟩), .int .i64 max, .int .i64 k] w fun e w' => e = .returned (.int .i64 (rdNumI s max k st).1) ∧ Rd b s (rdNumI s max k st).2 w' ∧ Only b w w' := by
  by_cases hneg : max < 0
  · cases st with
    | error e =>
      rw [rdNumI_error]
      have H := hid h
      obtain ⟨h0, h1, h2, he, h4, q, h5, h6⟩ := h
      have he' : (e == 0) = false := beq_eq_false_iff_ne.2 he
      go_enter Try.func43, Try.ntmps43
      go_wp2_with fail
      go_ret
      exact ⟨rfl, H.out, Only.refl _ _⟩
    | ok p =>
      have H := hid h
      have hpz := h.2.2.2.2.2
      have hspec := varAt_spec s p 10 0 0 (by omega) (by omega) (by omega)
      have hcall := hid (fun W => (nums_Var s p hs hpz W).mono fun _ _ ⟨h1, h2⟩ => And.intro h1 h2.symm)
      have hdef : rdNumI s max k (.ok p) = if (varAt s p 0 0).2.2 ≠ 0 then (0, .error (varAt s p 0 0).2.2) else (0, .error k) := by unfold rdNumI; rw [if_pos hneg]
      obtain ⟨r, hr⟩ : ∃ r, r = varAt s p 0 0 := ⟨_, rfl⟩
      rw [← hr] at hspec hcall hdef
      obtain ⟨v, nx, er⟩ := r
      unfold varErr at hcall
      simp only at hspec hdef hcall
      obtain ⟨hv, hnx⟩ := hspec
      obtain ⟨h0, h1, h2, h3, h4, h5⟩ := h
      have hf2 := hid (fun W (hW : Rd b s (.ok p) W) k (hk : k ≠ 0) => wire_refuse b s (.ok p) k hk W hW)
      by_cases her : er = 0
      · subst her
        have E : Hid (rdNumI s max k (.ok p) = (0, .error k)) := by unfold Hid; rw [hdef, if_neg (by simp)]
        clear hdef hnx hr
        go_enter Try.func43, Try.ntmps43
        go_wp2_with fail
        go_quiet ((refine Calls.quiet_of_same (hcall.out _)))
        go_wp2_with fail
        refine (hf2.out _ (H.out.drewN _) k hk).mono ?_
        rintro e w1 ⟨rfl, h1, b1⟩
        have H1 := hid h1; have B1 := hid ((Only.drewN _ _ _).trans b1); clear h1 b1
        go_wp2_with fail
        go_ret
        exact ⟨by rw [E.out]; rfl, by rw [E.out]; exact H1.out, B1.out⟩
      · have E : Hid (rdNumI s max k (.ok p) = (0, .error er)) := by unfold Hid; rw [hdef, if_pos her]
        have her' : (er == 0) = false := beq_eq_false_iff_ne.2 her
        clear hdef hnx hr
        go_enter Try.func43, Try.ntmps43
        go_wp2_with fail
        go_quiet ((refine Calls.quiet_of_same (hcall.out _)))
        go_wp2_with fail
        refine (hf2.out _ (H.out.drewN _) er her).mono ?_
        rintro e w1 ⟨rfl, h1, b1⟩
        have H1 := hid h1; have B1 := hid ((Only.drewN _ _ _).trans b1); clear h1 b1
        go_wp2_with fail
        go_ret
        exact ⟨by rw [E.out]; rfl, by rw [E.out]; exact H1.out, B1.out⟩
  · obtain ⟨m, rfl⟩ := Int.eq_ofNat_of_zero_le (show 0 ≤ max by omega)
    have e : rdNumI s (m : Int) k st = rdNum s m k st := by unfold rdNumI; rw [if_neg hneg]; rfl
    rw [e]
    exact wire_readNumber b s st m k hk (by omega) hs w h
theorem wire_size (b : Nat) (s : ByteArray) (st : St) (hs : s.size ≤ 140737488355328) (w : World) (h : Rd b s st w) :
    Calls Try.prog 40 #[.pointer (some ⟨b, 0, none⟩)] w fun e w' => e = .returned (.int .i64 (rdNum s 4611686018427387904 10 st).1) ∧ Rd b s (rdNum s 4611686018427387904 10 st).2 w' ∧ Only b w w' := by
  have hn := hid (wire_readNumber b s st 4611686018427387904 10 (by decide) (by decide) hs w h)
  clear h
  go_enter Try.func40, Try.ntmps40
  go_wp2_with fail
  refine hn.out.mono ?_
  rintro e w1 ⟨rfl, h1, b1⟩
  have H1 := hid h1; have B1 := hid b1; clear h1 b1
  go_wp2_with fail
  go_ret
  exact ⟨rfl, H1.out, B1.out⟩

/-- The program's reader of a proof at block b: it reads s, stands at st, has read the fields cs. -/
structure PrAt (b : Nat) (s : ByteArray) (st : St) (cs : List Value) (w : World) : Prop where
  rd : Rd b s st w
  cell : ∀ i v, cs[i]? = some v → w.cell? ⟨b, 3 + i, none⟩ = some v
  fz : ∀ i, w.frozen? ⟨b, i, none⟩ = false
theorem PrAt.only {b : Nat} {s : ByteArray} {st st' : St} {cs : List Value} {w w' : World} (h : PrAt b s st cs w) (hr : Rd b s st' w') (ho : Only b w w') : PrAt b s st' cs w' :=
  ⟨hr, fun i v hi => by rw [ho.cell (3 + i) (by omega) (by omega)]; exact h.cell i v hi, fun i => by rw [ho.frozen]; exact h.fz i⟩
theorem PrAt.below {b : Nat} {s : ByteArray} {st : St} {cs : List Value} {w w' : World} (h : PrAt b s st cs w) (hb : Below w.heap.size w w') : PrAt b s st cs w' :=
  ⟨h.rd.below hb, fun i v hi => (hb.cell (p := ⟨b, 3 + i, none⟩) h.rd.lt).trans (h.cell i v hi), fun i => (hb.frozen (p := ⟨b, i, none⟩) h.rd.lt).trans (h.fz i)⟩
theorem PrAt.upto {b B : Nat} {s : ByteArray} {st : St} {cs : List Value} {w w' : World} (h : PrAt b s st cs w) (hb : Below B w w') (hl : b < B) : PrAt b s st cs w' :=
  ⟨h.rd.upto hb hl, fun i v hi => (hb.cell (p := ⟨b, 3 + i, none⟩) hl).trans (h.cell i v hi), fun i => (hb.frozen (p := ⟨b, i, none⟩) hl).trans (h.fz i)⟩
theorem PrAt.set {b : Nat} {s : ByteArray} {st : St} {cs : List Value} {w : World} (h : PrAt b s st cs w) {i : Nat} (hi : i < cs.length) (u : Value) : PrAt b s st (cs.set i u) (w.setCell ⟨b, 3 + i, none⟩ u) := by
  refine ⟨h.rd.far (by omega) u, fun j v hj => ?_, fun j => by simpa using h.fz j⟩
  by_cases e : i = j
  · subst e
    rw [List.getElem?_set_self hi] at hj
    cases hj
    exact World.cell?_setCell_same _ _ _ (h.cell i _ (List.getElem?_eq_getElem hi))
  · rw [List.getElem?_set_ne e] at hj
    rw [World.cell?_setCell_other _ _ _ _ (by intro e2; have e3 := congrArg Addr.off e2; simp only at e3; omega)]
    exact h.cell j v hj
theorem PrAt.drewN {b : Nat} {s : ByteArray} {st : St} {cs : List Value} {w : World} (h : PrAt b s st cs w) (n : Nat) : PrAt b s st cs (w.drewN n) := ⟨h.rd.drewN n, h.cell, h.fz⟩
theorem PrAt.drew {b : Nat} {s : ByteArray} {st : St} {cs : List Value} {w : World} (h : PrAt b s st cs w) : PrAt b s st cs w.drew := ⟨h.rd, h.cell, h.fz⟩
theorem grownBy_drew {a w : World} {r : Option Nat} (h : a.grownBy w r) : a.grownBy w.drew r := ⟨h.os, h.tape, h.output, h.size, h.block⟩
theorem grownBy_only {b : Nat} {w w' : World} (h : Only b w w') : w.grownBy w' (some b) := ⟨h.os, h.tape, h.output, h.size, fun k hk hne => h.block k (fun e => hne (by rw [e])) hk⟩
theorem grownBy_set (b i : Nat) (w : World) (u : Value) : w.grownBy (w.setCell ⟨b, i, none⟩ u) (some b) := ⟨rfl, rfl, rfl, by simp, fun k _ hk => Below.heap_setCell w ⟨b, i, none⟩ u k (fun e => hk (by rw [e]))⟩

theorem grownBy_then {a b c : World} {r : Option Nat} (h : a.grownBy b r) (k : Below a.heap.size b c) : a.grownBy c r :=
  ⟨k.os.trans h.os, k.tape.trans h.tape, k.output.trans h.output, Nat.le_trans h.size k.size, fun i hi hne => (k.block i hi).trans (h.block i hi hne)⟩
/-- Places read, n more, the last one being last. -/
def rdPl (s : ByteArray) : Nat → Int → St → List Int → List Int × St
  | 0, _, st, acc => (acc, st)
  | n + 1, last, st, acc => match st with
    | .error e => (acc, .error e)
    | .ok p => rdPl s n (last + ((rdNumI s (4611686018427387904 - last - 1) 10 (.ok p)).1 + 1)) (rdNumI s (4611686018427387904 - last - 1) 10 (.ok p)).2 (acc ++ [last + ((rdNumI s (4611686018427387904 - last - 1) 10 (.ok p)).1 + 1)])
theorem rdPl_no (s : ByteArray) (n : Nat) (l e : Int) (acc : List Int) : rdPl s n l (.error e) acc = (acc, .error e) := by cases n <;> rfl
theorem rdPl_step (s : ByteArray) (m n p : Nat) (l : Int) (acc : List Int) (h : m = n + 1) : rdPl s m l (.ok p) acc =
    rdPl s n (l + ((rdNumI s (4611686018427387904 - l - 1) 10 (.ok p)).1 + 1)) (rdNumI s (4611686018427387904 - l - 1) 10 (.ok p)).2 (acc ++ [l + ((rdNumI s (4611686018427387904 - l - 1) 10 (.ok p)).1 + 1)]) := by subst h; rfl
theorem rdPl_len (s : ByteArray) : ∀ n l st acc, (rdPl s n l st acc).1.length ≤ acc.length + n := by
  intro n
  induction n with
  | zero => intro l st acc; simp [rdPl]
  | succ n ih =>
    intro l st acc
    cases st with
    | error k => simp [rdPl]
    | ok p =>
      rw [rdPl_step s (n + 1) n p l acc rfl]
      have := ih (l + ((rdNumI s (4611686018427387904 - l - 1) 10 (.ok p)).1 + 1)) (rdNumI s (4611686018427387904 - l - 1) 10 (.ok p)).2 (acc ++ [l + ((rdNumI s (4611686018427387904 - l - 1) 10 (.ok p)).1 + 1)])
      simp at this
      omega
def rdPlaces (s : ByteArray) (st : St) : List Int × St := rdPl s (rdNum s 1024 83 st).1 (-1) (rdNum s 1024 83 st).2 []

/-- Behind a step of the proof's reader: the state, the fields; of old memory only its own block is changed. -/
def PrPost (b lo : Nat) (s : ByteArray) (st : St) (csf : Value → List Value) (xs : List Int) (w : World) (e : Ending) (w' : World) : Prop :=
  e = .returned (.tuple #[]) ∧ ∃ ao cap, PrAt b s st (csf (.slice ao xs.length cap)) w' ∧ w'.ownsRow lo 3 1 (.slice ao xs.length cap) xs.length (ints xs) ∧ w.grownBy w' (some b)

set_option maxHeartbeats 4000000 in
theorem wire_places (b : Nat) (s : ByteArray) (st0 : St) (k wd a bb n hv : Value) (hs : s.size ≤ 140737488355328) (w : World) (h : PrAt b s st0 [k, wd, a, bb, n, .slice none 0 0, hv] w) :
    Calls Try.prog 66 #[.pointer (some ⟨b, 0, none⟩)] w (PrPost b w.heap.size s (rdPlaces s st0).2 (fun v => [k, wd, a, bb, n, v, hv]) (rdPlaces s st0).1 w) := by
  have H0 := hid h
  have hblo := h.rd.lt
  have hnum := hid (wire_readNumber b s st0 1024 83 (by decide) (by decide) hs w h.rd)
  have hle := rdNum_le s 1024 83 st0
  have HDEF : Hid (rdPlaces s st0 = rdPl s (rdNum s 1024 83 st0).1 (-1) (rdNum s 1024 83 st0).2 []) := rfl
  obtain ⟨⟨n1, st1⟩, hr1⟩ : ∃ r, r = rdNum s 1024 83 st0 := ⟨_, rfl⟩
  rw [← hr1] at hnum hle HDEF
  simp only at hnum hle HDEF
  clear hr1 h
  go_enter Try.func66, Try.ntmps66
  go_wp2_with fail
  refine hnum.out.mono ?_
  rintro e w1 ⟨rfl, h1, b1⟩
  have P1 := hid (H0.out.only h1 b1)
  have G1 := hid (grownBy_only b1)
  have hs1 := b1.size
  clear h1 b1 hnum
  go_wp2_with fail
  go_loopw [3, 4, 5] (fun l' i' _ wr => ∃ (i : Nat) (l : Int) (acc : List Int) (st : St) (ao : Option Addr) (cap : Nat), i' = .int .i64 i ∧ i ≤ n1 ∧ l' = .int .i64 l ∧ -1 ≤ l ∧ (l ≤ 4611686018427387905) ∧ (∀ p, st = .ok p → l ≤ 4611686018427387904) ∧ acc.length ≤ i ∧
    PrAt b s st [k, wd, a, bb, n, .slice ao acc.length cap, hv] wr ∧ wr.ownsRow w.heap.size 3 1 (.slice ao acc.length cap) acc.length (ints acc) ∧ rdPl s (n1 - i) l st acc = rdPl s n1 (-1) st1 [] ∧ w.grownBy wr (some b)) (fun _ i' _ _ => (n1 - intOf i').toNat)
  case atStart => exact ⟨0, -1, [], st1, none, 0, rfl, by omega, rfl, by omega, by omega, fun _ _ => by omega, by simp, P1.out, World.ownsRow_nil _ _ _ _, rfl, G1.out⟩
  case round =>
    clear P1 G1 H0
    obtain ⟨i, l, acc, st, ao, cap, rfl, hi, rfl, hl1, hl2, hl3, hacc, hpr, hown, hrest, hgr⟩ := hrel
    have HP := hid hpr
    have HO := hid hown
    have HG := hid hgr
    have HREST := hid hrest
    have hsz := hgr.size
    clear hown hgr hrest
    by_cases hlt : i < n1
    · cases st with
      | error e =>
        have hstop : rdPl s (n1 - i) l (.error e) acc = (acc, .error e) := rdPl_no _ _ _ _ _
        obtain ⟨c0, f1, f2, he, c2, q, c1, hq⟩ := hpr.rd
        have he' : (e == 0) = false := beq_eq_false_iff_ne.2 he
        have HU : Hid (rdPlaces s st0 = (acc, .error e)) := HDEF.out.trans (HREST.out.symm.trans hstop)
        clear hstop HREST hpr hl3
        go_wp2_with fail
        go_end0
        exact ⟨rfl, ao, cap, by rw [HU.out]; exact HP.out, by rw [HU.out]; exact HO.out, HG.out⟩
      | ok p =>
        have hl4 := hl3 p rfl
        have HST := hid (HREST.out.symm.trans (rdPl_step s (n1 - i) (n1 - (i + 1)) p l acc (by omega)))
        have hnum := hid (fun W (hW : Rd b s (.ok p) W) => wire_readNumberI b s (.ok p) (4611686018427387904 - l - 1) 10 (by decide) (by omega) hs W hW)
        have hnl := rdNumI_le s (4611686018427387904 - l - 1) 10 (by omega) (.ok p)
        have hno : ∀ q, (rdNumI s (4611686018427387904 - l - 1) 10 (.ok p)).2 = .ok q → ((rdNumI s (4611686018427387904 - l - 1) 10 (.ok p)).1 : Int) ≤ 4611686018427387904 - l - 1 := by
          intro q hq
          unfold rdNumI at hq ⊢
          split
          · rename_i hneg
            rw [if_pos hneg] at hq
            simp only at hq
            split at hq <;> cases hq
          · have := rdNum_le s (4611686018427387904 - l - 1).toNat 10 (.ok p); omega
        obtain ⟨r2, hr2⟩ : ∃ r, r = rdNumI s (4611686018427387904 - l - 1) 10 (.ok p) := ⟨_, rfl⟩
        rw [← hr2] at HST hnum hnl hno
        obtain ⟨g, st2⟩ := r2
        simp only at HST hnum hnl hno
        have HNO := hid hno
        obtain ⟨c0, f1, f2, c1, c2, hq⟩ := hpr.rd
        clear hr2 HREST hpr hl3 hno
        go_wp2_with fail
        refine (hnum.out _ HP.out.rd).mono ?_
        rintro e w2 ⟨rfl, h2, b2⟩
        have P2 := hid (HP.out.only h2 b2)
        have G2 := hid (grownBy_two HG.out (grownBy_only b2))
        have hsz2 : w.heap.size ≤ w2.heap.size := G2.out.size
        have O2 := hid (own_only HO.out b2 hblo)
        have hc5 := P2.out.cell 5 _ rfl
        have hf5 := P2.out.fz 8
        clear h2 b2 c0 c1 c2 f1 f2 hnum HP HO HG
        have hln : (acc.length + 1) * 8 ≤ 140737488355328 := by omega
        have hil : (ints acc).length = acc.length := ints_length acc
        have hgb : (g : Int) ≤ 4611686018427387905 := by omega
        have hx1 : IntKind.i64.wrap (l + ((g : Int) + 1)) = l + ((g : Int) + 1) := by rw [IntKind.wrap_i64]; omega
        clear hx1
        have hc8 : w2.cell? ⟨b, 8, none⟩ = some (.slice ao acc.length cap) := hc5
        clear hc5
        have e1 : ints (acc ++ [l + ((g : Int) + 1)]) = ints acc ++ [.int .i64 (l + ((g : Int) + 1))] := by simp [ints]
        have e2 : (acc ++ [l + ((g : Int) + 1)]).length = acc.length + 1 := by simp
        have e3 : (ints acc ++ [Value.int .i64 (l + ((g : Int) + 1))]).length = acc.length + 1 := by rw [← e1, ints_length, e2]
        have E1 := hid e1
        have E2 := hid e2
        have E3 := hid e3
        clear e1 e2 e3
        go_wp2_with (first
          | (at_builtin; refine wp_append1 w.heap.size rfl (.tmp 39) (.tmp 41) 22 3 (.int .i64 0) 8 rfl Try.underlying22 info_int rfl (by decide) _ (ints acc) (.int .i64 (l + ((g : Int) + 1))) rfl rfl rfl (by rw [hil]; exact O2.out) hsz2 (by rw [hil]; exact hln) ?_; intro v4 w4 hown4 hb4; rw [E3.out] at hown4; obtain ⟨ao4, cap4, hv4⟩ := own_val hown4; subst hv4; have O4 := hid hown4; have P4 := hid (P2.out.upto hb4 hblo); have G4 := hid (grownBy_then G2.out hb4); have hc48 : w4.cell? ⟨b, 8, none⟩ = some (.slice ao acc.length cap) := (hb4.cell (p := ⟨b, 8, none⟩) hblo).trans hc8; have hf48 : w4.frozen? ⟨b, 8, none⟩ = false := (hb4.frozen (p := ⟨b, 8, none⟩) hblo).trans hf5; clear hown4 hb4)
          | fail)
        go_roundw
        case rel =>
          refine ⟨i + 1, l + ((g : Int) + 1), acc ++ [l + ((g : Int) + 1)], st2, ao4, cap4, by go_num, by omega, rfl, by omega, by omega, fun q hq => by have := HNO.out q hq; omega, by rw [E2.out]; omega, ?_, ?_, HST.out.symm, ?_⟩
          · rw [E2.out]
            exact P4.out.set (i := 5) (by simp) _
          · rw [E2.out, E1.out]
            exact RowKit.ownsRow_setCell_below (a := ⟨b, 8, none⟩) O4.out hblo _
          · exact grownBy_two G4.out (grownBy_set _ _ _ _)
        case measure => simp [intOf]; omega
    · have HU : Hid (rdPlaces s st0 = (acc, st)) := by
        have := HREST.out.symm
        rw [show n1 - i = 0 by omega] at this
        exact HDEF.out.trans this
      clear HREST hpr hl3
      go_wp2_with fail
      go_end0
      exact ⟨rfl, ao, cap, by rw [HU.out]; exact HP.out, by rw [HU.out]; exact HO.out, HG.out⟩
end Go.Proofs.Ytocjjiacmedjmaa
