/- Walks of wire.Proof and of the reference's. -/
import Derived.Test.YtocjjiacmedjmaaNumbers
import Derived.Test.YtocjjiacmedjmaaBldK
import Derived.Test.YtocjjiacmedjmaaShortLaw
import Derived.Deep.RegionHeld3
set_option maxRecDepth 100000
namespace Go.Proofs.Ytocjjiacmedjmaa
open Go Go.RowKit

/-- What is written of a proof. -/
def proofB (k wd a b n : Int) (xs : List Int) (hs : List ByteArray) : List UInt8 := [80, UInt8.ofNat wd.toNat] ++ putVar k.toNat ++ flatN (numsN k a b n xs) ++ flatS hs
def proofR (k wd a b n : Int) (xs : List Int) (hs : List ByteArray) : ByteArray × Int :=
  if wd < 1 ∨ 32 < wd then (⟨#[]⟩, 10) else if (countN k a b n xs).2 ≠ 0 then (⟨#[]⟩, (countN k a b n xs).2) else if namedN k a b xs.length = false then (⟨#[]⟩, 13) else
  if sizedB wd.toNat hs = false then (⟨#[]⟩, 72) else if (hs.length : Int) ≠ (countN k a b n xs).1 then (⟨#[]⟩, 71) else (⟨(proofB k wd a b n xs hs).toArray⟩, 0)
/-- A box with the seven cells of a proof. -/
structure Seven (w : World) (p : Nat) (k wd a b n : Int) (ao : Option Addr) (xs : List Int) (cap : Nat) (ho : Option Addr) (hs : List ByteArray) (hcap : Nat) : Prop where
  lt : p < w.heap.size
  c0 : w.cell? ⟨p, 0, none⟩ = some (.int .i64 k)
  c1 : w.cell? ⟨p, 1, none⟩ = some (.int .i64 wd)
  c2 : w.cell? ⟨p, 2, none⟩ = some (.int .i64 a)
  c3 : w.cell? ⟨p, 3, none⟩ = some (.int .i64 b)
  c4 : w.cell? ⟨p, 4, none⟩ = some (.int .i64 n)
  c5 : w.cell? ⟨p, 5, none⟩ = some (.slice ao xs.length cap)
  c6 : w.cell? ⟨p, 6, none⟩ = some (.slice ho hs.length hcap)
section
variable {w w' : World} {p : Nat} {k wd a b n : Int} {ao : Option Addr} {xs : List Int} {cap : Nat} {ho : Option Addr} {hs : List ByteArray} {hcap : Nat}
theorem Seven.upto {B : Nat} (h : Seven w p k wd a b n ao xs cap ho hs hcap) (hb : Below B w w') (hp : p < B) : Seven w' p k wd a b n ao xs cap ho hs hcap := by
  have hc : ∀ i, w'.cell? ⟨p, i, none⟩ = w.cell? ⟨p, i, none⟩ := fun i => hb.cell (p := ⟨p, i, none⟩) hp
  exact ⟨Nat.lt_of_lt_of_le h.lt hb.size, by rw [hc]; exact h.c0, by rw [hc]; exact h.c1, by rw [hc]; exact h.c2, by rw [hc]; exact h.c3, by rw [hc]; exact h.c4, by rw [hc]; exact h.c5, by rw [hc]; exact h.c6⟩
theorem Seven.below (h : Seven w p k wd a b n ao xs cap ho hs hcap) (hb : Below w.heap.size w w') : Seven w' p k wd a b n ao xs cap ho hs hcap := h.upto hb h.lt
end
theorem Seven.drew {w : World} {p : Nat} {k wd a b n : Int} {ao : Option Addr} {xs : List Int} {cap : Nat} {ho : Option Addr} {hs : List ByteArray} {hcap : Nat} (h : Seven w p k wd a b n ao xs cap ho hs hcap) : Seven w.drew p k wd a b n ao xs cap ho hs hcap := ⟨h.lt, h.c0, h.c1, h.c2, h.c3, h.c4, h.c5, h.c6⟩
theorem Seven.alloc {w : World} {p : Nat} {k wd a b n : Int} {ao : Option Addr} {xs : List Int} {cap : Nat} {ho : Option Addr} {hs : List ByteArray} {hcap : Nat} (h : Seven w p k wd a b n ao xs cap ho hs hcap) (o : Obj) : Seven (w.alloc o) p k wd a b n ao xs cap ho hs hcap :=
  h.below ((Below.refl _ _).alloc (Nat.le_refl _) _)
theorem seven_new (w : World) (k wd a b n : Int) (ao : Option Addr) (xs : List Int) (cap : Nat) (ho : Option Addr) (hs : List ByteArray) (hcap : Nat) :
    Seven (w.alloc (.cells #[.int .i64 k, .int .i64 wd, .int .i64 a, .int .i64 b, .int .i64 n, .slice ao xs.length cap, .slice ho hs.length hcap] 25)) w.heap.size k wd a b n ao xs cap ho hs hcap := by
  refine ⟨by simp, ?_, ?_, ?_, ?_, ?_, ?_, ?_⟩ <;> simp [go_sem]
def headS (l n : Nat) : ByteArray := ⟨[UInt8.ofNat l, UInt8.ofNat n].toArray⟩
theorem headS_size (l n : Nat) : (headS l n).size = 2 := rfl
theorem wire_head' (l n : Nat) (hl : l < 256) (hn : n < 256) (w : World) : Calls Try.prog 27 #[.int .u8 l, .int .i64 n] w fun e w' => e = .returned (.string (headS l n)) ∧ Below w.heap.size w w' := wire_head l n hl hn w
theorem wire_number' (n : Nat) (hn : n ≤ 9223372036854775807) (w : World) : Calls Try.prog 28 #[.int .i64 n] w fun e w' => e = .returned (.string (numS n)) ∧ Below w.heap.size w w' := wire_number n hn w
theorem count_at (k a b n : Int) (ao : Option Addr) (xs : List Int) (cap : Nat) (c e : Int) (hc : countN k a b n xs = (c, e)) (W : World) (hx : RowAt W ao (ints xs)) (hl : xs.length ≤ 4611686018427387904) :
    Calls Try.prog 23 #[.int .i64 k, .int .i64 a, .int .i64 b, .int .i64 n, .slice ao xs.length cap] W fun en w' => en = .returned (.tuple #[.int .i64 c, .int .i64 e]) ∧ Below W.heap.size W w' := by
  have h := check_Count k a b n ao xs cap W hx hl
  rw [hc] at h
  exact h
theorem bits_62 (n : Nat) (h : n ≤ 4611686018427387904) : ceilN n ≤ 62 := ceil_le n 62 (by simpa using h)
theorem stepsN_62 (a n : Nat) (h : n ≤ 4611686018427387904) : stepsN a n ≤ 62 := Nat.le_trans (stepsN_le a n) (bits_62 n h)
/-- No proof has more hashes than this. -/
theorem count_le (k a b n : Int) (xs : List Int) {c : Int} (h : countN k a b n xs = (c, 0)) : c ≤ 65536 := by
  have h0 := h
  unfold countN at h
  by_cases hk : k < 1 ∨ 4 < k
  · rw [if_pos hk] at h; simp at h
  rw [if_neg hk] at h
  by_cases hn : n < 0 ∨ 4611686018427387904 < n
  · rw [if_pos hn] at h; simp at h
  rw [if_neg hn] at h
  have hc62 := bits_62 n.toNat (by omega)
  by_cases k1 : k = 1
  · rw [if_pos k1] at h
    split at h
    · simp at h
    · have := stepsN_62 a.toNat n.toNat (by omega)
      simp only [Prod.mk.injEq] at h; omega
  rw [if_neg k1] at h
  by_cases k2 : k = 2
  · rw [if_pos k2] at h
    split at h
    · simp at h
    · split at h
      · simp only [Prod.mk.injEq] at h; omega
      · have := oldN_le a.toNat n.toNat true (by omega) (by omega)
        simp only [Prod.mk.injEq] at h; omega
  rw [if_neg k2] at h
  by_cases k3 : k = 3
  · rw [if_pos k3] at h
    split at h
    · simp at h
    · have := range_within a.toNat b.toNat (by omega) n.toNat 0 n.toNat (by omega) (by omega) (by omega)
      simp only [Prod.mk.injEq, Nat.sub_zero] at h this; omega
  rw [if_neg k3] at h
  by_cases hr : risingN xs n = 0
  · rw [if_pos hr] at h
    have h1 := multi_le xs n hr
    have h2 : xs.length ≤ 1024 := by
      unfold risingN at hr
      split at hr
      · simp at hr
      · split at hr
        · simp at hr
        · omega
    have h3 : xs.length * ceilN n.toNat ≤ 1024 * 62 := Nat.mul_le_mul h2 hc62
    simp only [Prod.mk.injEq] at h; omega
  · rw [if_neg hr] at h; simp at h; exact absurd h.2 hr
set_option maxHeartbeats 8000000 in
theorem wire_Proof (k wd a b n : Int) (ao : Option Addr) (xs : List Int) (cap : Nat) (ho : Option Addr) (hs : List ByteArray) (hcap : Nat) (w : World)
    (hx : RowAt w ao (ints xs)) (hh : RowAt w ho (strs' hs)) (hlx : xs.length * 8 ≤ 140737488351232) (hlh : hs.length * 16 ≤ 140737488351232) (hcp : hs.length ≤ hcap) :
    Calls Try.prog 7 #[proofV k wd a b n ao xs cap ho hs hcap] w fun e w' => e = .returned (strErr (proofR k wd a b n xs hs)) ∧ Below w.heap.size w w' := by
  unfold proofV
  have HS := hid (seven_new w k wd a b n ao xs cap ho hs hcap)
  have b0 := (Below.refl w.heap.size w).alloc (Nat.le_refl _) (.cells #[.int .i64 k, .int .i64 wd, .int .i64 a, .int .i64 b, .int .i64 n, .slice ao xs.length cap, .slice ho hs.length hcap] 25)
  have B0 := hid b0
  obtain ⟨W, hW⟩ : ∃ W, W = w.alloc (.cells #[.int .i64 k, .int .i64 wd, .int .i64 a, .int .i64 b, .int .i64 n, .slice ao xs.length cap, .slice ho hs.length hcap] 25) := ⟨_, rfl⟩
  rw [← hW] at HS B0
  have HW := hid hW.symm
  have HX := hid hx
  have HH := hid hh
  clear hx hh b0 hW
  by_cases hw1 : wd < 1
  · have HR : Hid (proofR k wd a b n xs hs = (⟨#[]⟩, 10)) := by unfold Hid proofR; rw [if_pos (.inl hw1)]
    go_enter Try.func7, Try.ntmps7
    go_wp2_with fail
    go_ret2
    exact ⟨by rw [HR.out]; rfl, by rw [HW.out]; exact B0.out⟩
  by_cases hw2 : 32 < wd
  · have HR : Hid (proofR k wd a b n xs hs = (⟨#[]⟩, 10)) := by unfold Hid proofR; rw [if_pos (.inr hw2)]
    go_enter Try.func7, Try.ntmps7
    go_wp2_with fail
    go_ret2
    exact ⟨by rw [HR.out]; rfl, by rw [HW.out]; exact B0.out⟩
  obtain ⟨wn, rfl⟩ := Int.eq_ofNat_of_zero_le (show 0 ≤ wd by omega)
  obtain ⟨⟨cn, ce⟩, hcn⟩ : ∃ r, r = countN k a b n xs := ⟨_, rfl⟩
  have HCN := hid hcn.symm
  have htk := taken_of k a b n xs
  have HDEF : Hid (proofR k wn a b n xs hs = if ce ≠ 0 then (⟨#[]⟩, ce) else if namedN k a b xs.length = false then (⟨#[]⟩, 13) else
      if sizedB wn hs = false then (⟨#[]⟩, 72) else if (hs.length : Int) ≠ cn then (⟨#[]⟩, 71) else (⟨(proofB k wn a b n xs hs).toArray⟩, 0)) := by
    unfold Hid proofR; rw [if_neg (by omega), ← hcn]; rfl
  rw [← hcn] at htk
  have HTK := hid htk
  have HCN' := HCN
  clear hcn htk
  go_enter Try.func7, Try.ntmps7
  go_wp2_with fail
  rw [HW.out]
  refine (count_at k a b n ao xs cap cn ce HCN.out W (HX.out.below B0.out) (by omega)).mono ?_
  rintro e w1 ⟨rfl, b1⟩
  have B1 := hid (Below.then B0.out B0.out.size b1)
  have S1 := hid (HS.out.below b1)
  clear b1
  by_cases he : ce ≠ 0
  · have he' : (ce != 0) = true := bne_iff_ne.2 he
    have HR : Hid (proofR k wn a b n xs hs = (⟨#[]⟩, ce)) := by unfold Hid; rw [HDEF.out, if_pos he]
    go_wp2_with fail
    go_ret2
    exact ⟨by rw [HR.out]; rfl, B1.out⟩
  obtain rfl : ce = 0 := by omega
  clear he
  have ht := HTK.out rfl
  have HT := hid ht
  have hk1 := ht.k1
  have hk4 := ht.k4
  clear ht
  obtain ⟨kn, rfl⟩ := Int.eq_ofNat_of_zero_le (show 0 ≤ k by omega)
  obtain ⟨ltb, c0, c1, c2, c3, c4, c5, c6⟩ := S1.out
  go_wp2_with fail
  have hnm := wire_named kn wn a b n ao xs cap ho hs hcap w1
  unfold proofV at hnm
  refine hnm.mono ?_
  clear hnm c0 c1 c2 c3 c4 c5 c6 ltb
  rintro e w2 ⟨rfl, b2⟩
  have B2 := hid (Below.then B1.out B1.out.size b2)
  have S2 := hid (S1.out.below b2)
  clear b2
  cases hnb : namedN kn a b xs.length
  · have HR : Hid (proofR kn wn a b n xs hs = (⟨#[]⟩, 13)) := by unfold Hid; rw [HDEF.out, if_neg (by simp), if_pos hnb]
    clear hnb
    go_wp2_with fail
    go_ret2
    exact ⟨by rw [HR.out]; rfl, B2.out⟩
  have HNB := hid hnb
  clear hnb
  obtain ⟨ltb, c0, c1, c2, c3, c4, c5, c6⟩ := S2.out
  go_wp2_with fail
  refine (wire_sized wn ho hs hcap w2 (by omega) (HH.out.below B2.out)).mono ?_
  clear c0 c1 c2 c3 c4 c5 c6 ltb
  rintro e w' ⟨rfl, rfl⟩
  cases hsb : sizedB wn hs
  · have HR : Hid (proofR kn wn a b n xs hs = (⟨#[]⟩, 72)) := by unfold Hid; rw [HDEF.out, if_neg (by simp), if_neg (by rw [HNB.out]; simp), if_pos hsb]
    clear hsb
    go_wp2_with fail
    go_ret2
    exact ⟨by rw [HR.out]; rfl, B2.out⟩
  have HSB := hid hsb
  clear hsb
  obtain ⟨ltb, c0, c1, c2, c3, c4, c5, c6⟩ := S2.out
  by_cases hc : (hs.length : Int) ≠ cn
  · have HR : Hid (proofR kn wn a b n xs hs = (⟨#[]⟩, 71)) := by unfold Hid; rw [HDEF.out, if_neg (by simp), if_neg (by rw [HNB.out]; simp), if_neg (by rw [HSB.out]; simp), if_pos hc]
    have hc' : ((hs.length : Int) != cn) = true := bne_iff_ne.2 hc
    go_wp2_with fail
    go_ret2
    exact ⟨by rw [HR.out]; rfl, B2.out⟩
  have HR : Hid (proofR kn wn a b n xs hs = (⟨(proofB kn wn a b n xs hs).toArray⟩, 0)) := by unfold Hid; rw [HDEF.out, if_neg (by simp), if_neg (by rw [HNB.out]; simp), if_neg (by rw [HSB.out]; simp), if_neg hc]
  obtain rfl : cn = (hs.length : Int) := by omega
  clear hc
  have HCL : Hid (hs.length ≤ 1048576) := by
    have h := count_le kn a b n xs HCN'.out
    unfold Hid; omega
  have hc' : ((hs.length : Int) != (hs.length : Int)) = false := by simp
  have hbn := hid (bldk_new w2)
  obtain ⟨W3, hW3⟩ : ∃ W3, W3 = w2.alloc (.cells #[.pointer none, .slice none 0 0] 65) := ⟨_, rfl⟩
  have HW3 := hid hW3.symm
  rw [← hW3] at hbn
  have hb3 : Below w2.heap.size w2 W3 := by rw [hW3]; exact (Below.refl _ _).alloc (Nat.le_refl _) _
  have S3 := hid (S2.out.below hb3)
  have B3 := hid (Below.then B2.out B2.out.size hb3)
  have hlt2 := S2.out.lt
  clear hW3 hb3 c0 c1 c2 c3 c4 c5 c6 ltb
  obtain ⟨ltb, c0, c1, c2, c3, c4, c5, c6⟩ := S2.out
  go_wp2_with fail
  rw [HW3.out]
  clear c0 c1 c2 c3 c4 c5 c6 ltb
  obtain ⟨ltb, c0, c1, c2, c3, c4, c5, c6⟩ := S3.out
  have hpk := putVar_len 9 kn (by omega)
  have hks := numS_size kn
  have hcat : (headS 80 wn).size + (numS kn).size ≤ 9223372036854775807 := by rw [headS_size]; omega
  have hcat4 : ¬ 9223372036854775807 < (headS 80 wn).size + (numS kn).size := by omega
  clear hks
  go_region_held3 (fun w' => w'.cell? ⟨w.heap.size, 0, none⟩ = some (.int .i64 kn) ∧ w'.cell? ⟨w.heap.size, 1, none⟩ = some (.int .i64 wn)) (go_keep) (first
    | (go_at_call 27; refine Calls.mono (wire_head' 80 wn (by decide) (by omega) _) ?_; rintro e w4 ⟨rfl, b4⟩; have S4 := hid (S3.out.drew.below b4); have hc40 := S4.out.c0; have hc41 := S4.out.c1; have D4 := hid (bldk_below (w := W3.drew) hbn.out b4); have B4 := hid (Below.then B3.out.drew B3.out.size b4); clear b4)
    | (go_at_call 28; refine Calls.mono (wire_number' kn (by omega) _) ?_; rintro e w5 ⟨rfl, b5⟩; have S5 := hid (S4.out.below b5); have hc50 := S5.out.c0; have hc51 := S5.out.c1; have D5 := hid (bldk_below D4.out b5); have B5 := hid (Below.then B4.out B4.out.size b5); clear b5)
    | (go_at_call 26; refine Calls.mono (bldk_string w2.heap.size w2.heap.size [] (headS 80 wn ++ numS kn) _ D5.out (by rw [ByteArray.size_append, headS_size, numS_size]; simp; omega)) ?_; rintro e w6 ⟨rfl, d6, k6⟩; have D6 := hid d6; have S6 := hid (S5.out.upto k6.1 hlt2); have hc60 := S6.out.c0; have hc61 := S6.out.c1; have B6 := hid (B5.out.trans (k6.1.mono (Nat.le_of_lt hlt2))); clear d6 k6))
  clear c0 c1 c2 c3 c4 c5 c6 ltb hc40 hc41 hc50 hc51 hc60 hc61 hcat hcat4 S4 S5 D4 D5 B4 B5 S3 B3 hbn
  obtain ⟨ltb, c0, c1, c2, c3, c4, c5, c6⟩ := S6.out
  have hlen2 : w2.heap.size ≤ w6.heap.size := D6.out.2
  go_wp2_with fail
  have hnm := wire_numbers kn wn a b n ao xs cap ho hs hcap w6 HT.out (HX.out.below B6.out)
  unfold proofV at hnm
  refine hnm.mono ?_
  clear hnm c0 c1 c2 c3 c4 c5 c6 ltb
  rintro e w7 ⟨ao7, cap7, rfl, ho7, b7⟩
  have S7 := hid (S6.out.below b7)
  have D7 := hid (bldk_below D6.out b7)
  have B7 := hid (Below.then B6.out B6.out.size b7)
  have hsm := HT.out.small
  have hnl := numsN_length kn a b n xs HT.out
  obtain ⟨ns, hns⟩ : ∃ ns, ns = numsN kn a b n xs := ⟨_, rfl⟩
  rw [← hns] at ho7 hsm hnl ⊢
  have HNS := hid hns
  have HO7 := hid ho7
  have HSM := hid hsm
  have hb6 := bldk_lt D6.out
  have hgb : Hid (∀ k, (Value.slice ao7 ns.length cap7).ownBlock = some k → k ≠ w2.heap.size) := fun k hk e => by
    have h1 := (ho7.lt k hk).1
    omega
  have hpre : [] ++ (headS 80 wn ++ numS kn).data.toList = [80, UInt8.ofNat wn] ++ putVar kn := by simp [headS, numS, ByteArray.data_append]
  have D7' := hid (show BldK w2.heap.size w2.heap.size ([80, UInt8.ofNat wn] ++ putVar kn) w7 by rw [← hpre]; exact D7.out)
  have hfl : ∀ i, i ≤ ns.length → (([80, UInt8.ofNat wn] ++ putVar kn) ++ flatN (ns.take i)).length ≤ 12 + 10 * 1026 := fun i hi => by
    have h1 := flatN_len (ns.take i) (fun x hx => hsm x (List.mem_of_mem_take hx))
    rw [List.length_take] at h1
    rw [List.length_append, List.length_append]; simp; omega
  have HFL := hid hfl
  clear D7 b7 ho7 hsm hpre hfl hb6 hns
  go_wp2_with fail
  go_loopw [8, 63] (fun _ i' wr => ∃ (i : Nat), i' = .int .i64 i ∧ i ≤ ns.length ∧ BldK w2.heap.size w2.heap.size (([80, UInt8.ofNat wn] ++ putVar kn) ++ flatN (ns.take i)) wr ∧
    wr.ownsRow w6.heap.size 3 1 (.slice ao7 ns.length cap7) ns.length (ints ns) ∧ KeptK w2.heap.size w2.heap.size w7 wr) (fun _ i' _ => (ns.length - intOf i').toNat)
  case atStart => exact ⟨0, rfl, by omega, by simpa [flatN] using D7'.out, HO7.out, KeptK.refl _ _ _⟩
  case round =>
    clear D7' HO7
    obtain ⟨i, rfl, hi, hd, hr, hk⟩ := hrel
    have HD := hid hd
    have HRW := hid hr
    have HK := hid hk
    have hln := HFL.out i hi
    by_cases hlt : i < ns.length
    · obtain ⟨ao', cap', hv, _, hrow⟩ := own_row hr
      cases hv
      obtain ⟨bk, off, rfl, hc⟩ := RowAt.int (xs := ns) hrow hlt
      have hcell := hc i hlt
      have hbd := HSM.out ns[i] (List.getElem_mem _)
      have hst := flatN_step ns i hlt
      obtain ⟨x, hxe⟩ := Int.eq_ofNat_of_zero_le hbd.1
      rw [hxe] at hcell hbd hst
      have hx2 : x ≤ 4611686018427387904 := by omega
      have hpx := putVar_len 9 x (by omega)
      have HST := hid hst
      clear hd hr hk hrow hc hst hxe hbd
      go_wp2_with fail
      refine (wire_number' x (by omega) _).mono ?_
      rintro e w8 ⟨rfl, b8⟩
      have D8 := hid (bldk_below HD.out b8)
      have R8 := hid (World.ownsRow.kept HRW.out (grownBy_of_below b8 none) (.inr (fun h => by simp [Value.ownBlock] at h)))
      have K8 := hid (HK.out.trans (KeptK.of (b := w2.heap.size) b8 HD.out.2))
      clear b8
      go_wp2_with fail
      refine (bldk_string w2.heap.size w2.heap.size _ (numS x) _ D8.out (by rw [numS_size]; omega)).mono ?_
      rintro e w9 ⟨rfl, d9, k9⟩
      have D9 := hid d9
      have R9 := hid (k9.own R8.out (by decide) hgb.out)
      have K9 := hid (K8.out.trans k9)
      clear d9 k9
      go_wp2_with fail
      go_roundw
      case rel =>
        refine ⟨i + 1, by go_num, by omega, ?_, R9.out, K9.out⟩
        have h := D9.out
        rw [HST.out, ← List.append_assoc]
        simpa [numS] using h
      case measure => simp [intOf]; omega
    · obtain rfl : i = ns.length := by omega
      have SR := hid (S7.out.upto hk.1 hlt2)
      have BR := hid (B7.out.trans (hk.1.mono (Nat.le_of_lt hlt2)))
      have HHR := hid (HH.out.below BR.out)
      have hszs : ∀ j (hj : j < hs.length), hs[j].size ≤ 4096 := fun j hj => by have := sized_at HSB.out j hj; omega
      have hfs := flatS_all hs hszs
      have hcl := HCL.out
      have HZ := hid hszs
      rw [List.take_length] at hln
      have HD' : Hid (BldK w2.heap.size w2.heap.size (([80, UInt8.ofNat wn] ++ putVar kn) ++ flatN ns) wr) := by unfold Hid; have := HD.out; rwa [List.take_length] at this
      have hfin : ([80, UInt8.ofNat wn] ++ putVar kn) ++ flatN ns ++ flatS hs = proofB kn wn a b n xs hs := by
        unfold proofB; rw [← HNS.out]; simp
      have HF := hid hfin
      clear hd hr hk HD HRW hszs hfin
      obtain ⟨ltb, c0, c1, c2, c3, c4, c5, c6⟩ := SR.out
      clear c0 c1 c2 c3 c4 c5
      go_wp2_with fail
      refine (str_Join ho hs hcap _ (by omega) hcp HZ.out HHR.out).mono ?_
      rintro e w8 ⟨rfl, b8⟩
      have D8 := hid (bldk_below HD'.out b8)
      have B8 := hid (Below.then BR.out BR.out.size b8)
      clear b8 c6 ltb
      go_wp2_with fail
      refine (bldk_string w2.heap.size w2.heap.size _ ⟨(flatS hs).toArray⟩ _ D8.out (by rw [str_size]; omega)).mono ?_
      rintro e w9 ⟨rfl, d9, k9⟩
      have D9 : Hid (BldK w2.heap.size w2.heap.size (proofB kn wn a b n xs hs) w9) := by unfold Hid; rw [← HF.out]; exact d9
      have B9 := hid (B8.out.trans (k9.1.mono (Nat.le_of_lt hlt2)))
      clear d9 k9
      go_wp2_with fail
      refine (bldk_done _ _ _ _ D9.out).mono ?_
      rintro e w10 ⟨rfl, b10⟩
      have B10 := hid (B9.out.trans (b10.mono (Nat.le_of_lt hlt2)))
      clear b10
      go_wp2_with fail
      go_ret2
      exact ⟨by rw [HR.out]; rfl, B10.out⟩

def oneS (n : Nat) : ByteArray := ⟨[UInt8.ofNat n].toArray⟩
theorem oneS_size (n : Nat) : (oneS n).size = 1 := rfl
def flatNS (l : List Int) : ByteArray := ⟨(flatN l).toArray⟩
theorem flatNS_size (l : List Int) : (flatNS l).size = (flatN l).length := str_size _
def flatSS (l : List ByteArray) : ByteArray := ⟨(flatS l).toArray⟩
theorem flatSS_size (l : List ByteArray) : (flatSS l).size = (flatS l).length := str_size _
end Go.Proofs.Ytocjjiacmedjmaa
