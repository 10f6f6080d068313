/- Walk of the law ProveOf, joined. -/
import Derived.Test.YtocjjiacmedjmaaDoorProveOfLaw
import Derived.Deep.DeepCutAuto
set_option maxRecDepth 100000
namespace Go.Proofs.YtocjjiacmedjmaaDoor
open Go Go.RowKit

def behind8 : ByteArray := ⟨#[98, 101, 104, 105, 110, 100]⟩
theorem fn_no (F : FuncId) (a b : Array Value) (w : World) : Sem.run Tryd.prog (binOp BinOp.eql 43 (.func (.func F) a b) .nilFunc) w = .ok (.bool false) w := by rfl
set_option maxHeartbeats 8000000 in
theorem law_ProveOf (k : Int) (ao : Option Addr) (hs : List ByteArray) (cap : Nat) (l1 i1 l2 i2 : Int) (w : World) (hx : RowAt w ao (strs' hs)) (hao : ao = none → hs.length = 0 ∧ cap = 0) (hl : hs.length ≤ 1048576) (hz : ∀ x ∈ hs, x.size ≤ 1048576) (hgp : GlobP w) (hgr : GlobR w) :
    Calls Tryd.prog 6 #[.int .i64 k, .slice ao hs.length cap, .agg #[.int .i64 l1, .int .i64 i1], .agg #[.int .i64 l2, .int .i64 i2]] w fun e w' => e = .returned (.bool true) ∧ Below w.heap.size w w' := by
  have HX := hid hx
  have HA := hid hao
  have HZ := hid hz
  have HGP := hid hgp
  have HGR := hid hgr
  have hnum := hid law8_num
  have hfn := fn_no
  obtain ⟨W0, hW⟩ : ∃ W, (w.alloc (.cells #[.int .i64 l1, .int .i64 i1] 52)).alloc (.cells #[.int .i64 l2, .int .i64 i2] 52) = W := ⟨_, rfl⟩
  have hs0 : W0.heap.size = w.heap.size + 2 := by rw [← hW]; simp
  have B0 := hid (show Below w.heap.size w W0 by rw [← hW]; exact ((Below.refl w.heap.size w).alloc (Nat.le_refl _) _).alloc (by simp) _)
  have A0 := hid (show W0.cell? ⟨w.heap.size, 0, none⟩ = some (.int .i64 l1) ∧ W0.cell? ⟨w.heap.size, 1, none⟩ = some (.int .i64 i1) ∧ W0.cell? ⟨w.heap.size + 1, 0, none⟩ = some (.int .i64 l2) ∧ W0.cell? ⟨w.heap.size + 1, 1, none⟩ = some (.int .i64 i2) by rw [← hW]; refine ⟨?_, ?_, ?_, ?_⟩ <;> simp [go_sem])
  have HW := hid hW
  have HX0 := hid (hx.below B0.out)
  have H1 := hid (strs'_one hs)
  clear hx hao hz hgp hgr hW
  go_enter Tryd.func6, Tryd.ntmps6
  go_upto_region 1 with fail
  rw [HW.out]
  clear HW
  go_wp2_with (first
    | (at_builtin; refine wp_append_all (w.heap.size + 2) rfl (.const (.slice none 0 0)) (.tmp 22) 36 9 (.string ⟨#[]⟩) 16 rfl Tryd.underlying36 info_str rfl (by decide) _ [] (strs' hs) ao hs.length cap rfl rfl (strs'_length hs) H1.out HX0.out HA.out (World.ownsRow_nil _ _ _ _) (by omega) (by simp; omega) ?_; intro v1 w1 hown1 hb1; have HO1 := hid hown1; have HB1 := hid hb1; clear hown1 hb1)
    | (at_builtin; refine wp_append1 (w.heap.size + 2) rfl (.tmp 24) (.tmp 25) 36 9 (.string ⟨#[]⟩) 16 rfl Tryd.underlying36 info_str rfl (by decide) _ ([] ++ strs' hs) (.string behind8) rfl rfl rfl HO1.out (by have := HB1.out.size; omega) (by simp [strs'_length]; omega) ?_; intro v2 w2 hown2 hb2; obtain ⟨g, gcap, rfl, hgb, hgl, hgc, hglt, hfz, hcells⟩ := own_form hown2 (by simp); have hlen2 : ([] ++ strs' hs ++ [Value.string behind8]).length = hs.length + 1 := (by simp [strs'_length]); rw [hlen2] at hgl ⊢; have HO2 := hid hown2; have HB2 := hid hb2; have HFZ := hid hfz; have HCL := hid hcells; clear hown2 hb2 hfz hcells hlen2; have hgN : hs.length ≤ gcap := (by omega); have hgI : (hs.length : Int) ≤ (gcap : Int) := (by omega))
    | fail)
  have B2 := hid (B0.out.trans (((HB1.out.mono (show w.heap.size ≤ w.heap.size + 2 by omega)).trans (HB2.out.mono (show w.heap.size ≤ w.heap.size + 2 by omega)))))
  have B02 := hid (HB1.out.trans HB2.out)
  have rg : RowAt w2 (some ⟨g, 0, none⟩) (strs' hs) := .inr ⟨g, 0, rfl, fun i hi => by
    have := HCL.out i (by simp; omega)
    rw [Nat.zero_add, this]
    simp [List.getElem_append_left hi]⟩
  have gn : w2.cell? ⟨g, hs.length, none⟩ = some (.string behind8) := by
    have := HCL.out hs.length (by simp [strs'_length])
    rw [this]
    simp [strs'_length]
  have gall : ∀ j, j < hs.length + 1 → ∃ s, w2.cell? ⟨g, j, none⟩ = some (.string s) := by
    intro j hj
    have := HCL.out j (by simp [strs'_length]; omega)
    rw [this]
    simp only [List.nil_append]
    by_cases h : j < hs.length
    · exact ⟨hs[j], by rw [List.getElem_append_left (by rw [strs'_length]; exact h)]; simp [strs']⟩
    · exact ⟨behind8, by simp [strs'_length, show j = hs.length by omega]⟩
  have RG := hid rg
  have GN := hid gn
  have GA := hid gall
  clear rg gn gall HO1 HO2 HCL HB1 HB2
  refine (prove_Of k (some ⟨g, 0, none⟩) hs gcap w2 RG.out (by intro h; cases h) (by omega) (HGP.out.below B2.out)).mono ?_
  rintro e w3 ⟨vo, vcap, p5, p2, p6, rfl, hof, hp5, hp2, hp6, hown, hb3⟩
  go_wp2_with fail
  have hal := (Below.refl w3.heap.size w3).alloc (Nat.le_refl _) (.cells #[.int .i64 k, .int .i64 hs.length, (.func (.func 43) #[] #[.pointer (some ⟨p5, 0, none⟩), .pointer (some ⟨p6, 0, none⟩)])] 45)
  have B3 := hid (Below.then' (Below.then' B2.out hb3) hal)
  refine (ref8_Of k ao hs cap _ (HX.out.below B3.out) (HGR.out.below B3.out)).mono ?_
  rintro e w4 ⟨ps, rfl, hsrc, hps, hb4⟩
  have h24 := Below.then' (Below.then' hb3 hal) hb4
  have h34 := Below.then' hal hb4
  have hs3 : w2.heap.size ≤ w3.heap.size := hb3.size
  have hs4 : w3.heap.size + 1 ≤ w4.heap.size := by have := hb4.size; simp at this; exact this
  have hs4' : w3.heap.size < ps := by simp at hps; omega
  have hk24 := fun {p : Addr} {v : Value} (hc : w2.cell? p = some v) => (h24.cell (World.block_lt_of_cell? _ _ hc)).trans hc
  have hk34 := fun {p : Addr} {v : Value} (hc : w3.cell? p = some v) => (h34.cell (World.block_lt_of_cell? _ _ hc)).trans hc
  have hk02 := fun {p : Addr} {v : Value} (hc : W0.cell? p = some v) => (B02.out.cell (by have := World.block_lt_of_cell? _ _ hc; omega)).trans hc
  have k4 := fun {j : Nat} {v : Value} (hc : (w3.alloc (.cells #[.int .i64 k, .int .i64 hs.length, (.func (.func 43) #[] #[.pointer (some ⟨p5, 0, none⟩), .pointer (some ⟨p6, 0, none⟩)])] 45)).cell? ⟨w3.heap.size, j, none⟩ = some v) => (hb4.cell (World.block_lt_of_cell? _ _ hc)).trans hc
  have hP : PO k ao hs cap l1 i1 l2 i2 (hs.length + 1) g vo vcap p5 p2 p6 w3.heap.size ps w w4 := by
    refine ⟨Below.then' B3.out hb4, hk24 (hk02 A0.out.1), hk24 (hk02 A0.out.2.1), hk24 (hk02 A0.out.2.2.1), hk24 (hk02 A0.out.2.2.2), k4 (by simp [go_sem]), k4 (by simp [go_sem]), k4 (by simp [go_sem]), hk34 hof.list, hk34 hof.wid, hk34 hof.fn, hsrc.wid, hsrc.size, hsrc.list, hsrc.made, ?_, ?_, ?_, ?_, ?_⟩
    · exact own_base (World.ownsRow.kept (row := none) hown ⟨h34.os, h34.tape, h34.output, h34.size, fun b hlt _ => h34.block b hlt⟩ (by cases (Value.slice vo hs.length vcap).ownBlock <;> simp)) (by have := B2.out.size; omega)
    · intro j hj; obtain ⟨s, h⟩ := GA.out j hj; exact ⟨s, hk24 h⟩
    · intro j; exact (h24.frozen hglt).trans (HFZ.out j)
    · exact ⟨hgb, by omega, by omega, by omega, by omega, by omega, by omega⟩
    · intro q hq; have := (hown.lt q hq).1; omega
  have P4 := hid hP
  have hsm := hid (law8_same (some ⟨g, 0, none⟩) ao hs gcap cap w4 (by omega) (RG.out.below h24) (HX.out.below (Below.then' B3.out hb4)))
  have gn4 := hk24 GN.out
  unfold behind8 at gn4
  clear hP hk24 hk34 hk02 k4 hs4' hs4 hs3 h24 h34 hal hb4 hps hsrc hof hp5 hp2 hp6 hown hb3 RG GN GA HFZ B3 B2 B02 A0 B0 hglt hgb hgc
  have hrd := hid (fun (l i : Int) (W : World) (h : PO k ao hs cap l1 i1 l2 i2 (hs.length + 1) g vo vcap p5 p2 p6 w3.heap.size ps w W) => of_reader k vo hs vcap p5 p2 p6 HZ.out (by omega) l i W (h.of HGP.out))
  have hlk := hid (fun (l i : Int) (W : World) (h : PO k ao hs cap l1 i1 l2 i2 (hs.length + 1) g vo vcap p5 p2 p6 w3.heap.size ps w W) => src_look k ao hs cap ps HZ.out (by omega) l i W (h.src HX.out HGR.out))
  have k0 := P4.out.r0
  have k1 := P4.out.r1
  have k2 := P4.out.r2
  go_wp2_with (first
    | (go_at_call 19; (with_reducible refine Calls.mono hsm.out ?_); rintro e w5 ⟨rfl, hb⟩; have P5 := hid (P4.out.below hb); have gn5 := (hb.cell (World.block_lt_of_cell? _ _ gn4)).trans gn4; have k20 := P5.out.r2; have k21 := P5.out.a0; have k22 := P5.out.a1; clear hb)
    | fail)
  refine (hrd.out l1 i1 _ P5.out).mono ?_
  rintro e w6 ⟨rfl, hb⟩
  have P6 := hid (P5.out.below hb)
  clear hb P5 P4 gn4 gn5 k0 k1 k2 k20 k21 k22
  have ht1 := hlk.out l1 i1
  have hR1 := hid (hrd.out l1 i1)
  obtain ⟨x1, e1⟩ : ∃ r, r = lookN k hs l1 i1 := ⟨_, rfl⟩
  rw [← e1] at ht1 hR1 ⊢
  have hT1 := hid ht1
  clear ht1 e1
  have k60 := P6.out.a0
  have k61 := P6.out.a1
  unfold saidV
  go_wp2_with fail
  refine (hT1.out _ P6.out).mono ?_
  rintro e w7 ⟨rfl, hb⟩
  have P7 := hid (P6.out.below hb)
  clear hb P6 k60 k61
  unfold saidV
  go_wp2_with (go_at_call 21; refine (hnum.out _ _).mono ?_; rintro e w' ⟨rfl, rfl⟩)
  clear hgN hgI
  go_loopw [17] (fun i' wr => ∃ i : Nat, i' = .int .i64 i ∧ i ≤ hs.length ∧ PO k ao hs cap l1 i1 l2 i2 (hs.length + 1) g vo vcap p5 p2 p6 w3.heap.size ps w wr) (fun i' _ => (hs.length - intOf i').toNat)
  case atStart => exact ⟨0, rfl, by omega, P7.out⟩
  case round =>
    obtain ⟨i, rfl, hi, hP⟩ := hrel
    have P8 := hid hP
    clear hP P7
    by_cases hlt : i < hs.length
    · obtain ⟨s, hs2⟩ := P8.out.gc i (by omega)
      have hf := P8.out.gf i
      go_wp2_with fail
      go_roundw
      case rel => exact ⟨i + 1, by go_num, by omega, P8.out.mark i (by omega) _⟩
      case measure => simp [intOf]; omega
    · have k70 := P8.out.r2
      have k71 := P8.out.a0
      have k72 := P8.out.a1
      go_wp2_with fail
      refine (hR1.out _ P8.out).mono ?_
      rintro e w9 ⟨rfl, hb⟩
      have P9 := hid (P8.out.below hb)
      clear hb P8 k70 k71 k72
      unfold saidV
      have k80 := P9.out.r2
      have k81 := P9.out.b0
      have k82 := P9.out.b1
      go_wp2_with fail
      have ht2 := hlk.out l2 i2
      have hR2 := hid (hrd.out l2 i2)
      obtain ⟨x2, e2⟩ : ∃ r, r = lookN k hs l2 i2 := ⟨_, rfl⟩
      rw [← e2] at ht2 hR2
      have hT2 := hid ht2
      clear ht2 e2
      refine (hR2.out _ P9.out).mono ?_
      rintro e w10 ⟨rfl, hb⟩
      have P10 := hid (P9.out.below hb)
      clear hb P9 k80 k81 k82
      unfold saidV
      have k90 := P10.out.b0
      have k91 := P10.out.b1
      go_wp2_with fail
      refine (hT2.out _ P10.out).mono ?_
      rintro e w11 ⟨rfl, hb⟩
      have P11 := hid (P10.out.below hb)
      clear hb P10 k90 k91
      unfold saidV
      go_wp2_with (go_at_call 21; refine (hnum.out _ _).mono ?_; rintro e w' ⟨rfl, rfl⟩)
      go_ret
      exact ⟨rfl, P11.out.bel⟩
theorem law_ProveOf' (k : Int) (ao : Option Addr) (hs : List ByteArray) (cap : Nat) (l1 i1 l2 i2 : Int) (w : World) (_hk : -9223372036854775808 ≤ k ∧ k ≤ 9223372036854775807) (hx : RowAt w ao (strs' hs)) (hao : ao = none → hs.length = 0 ∧ cap = 0) (_hc : hs.length ≤ cap) (hl : hs.length ≤ 1048576) (hz : ∀ x ∈ hs, x.size ≤ 1048576) (hg : GlobP w ∧ GlobR w) :
    Calls Tryd.prog 6 #[.int .i64 k, .slice ao hs.length cap, .agg #[.int .i64 l1, .int .i64 i1], .agg #[.int .i64 l2, .int .i64 i2]] w fun e w' => e = .returned (.bool true) ∧ Below w.heap.size w w' :=
  law_ProveOf k ao hs cap l1 i1 l2 i2 w hx hao hl hz hg.1 hg.2
end Go.Proofs.YtocjjiacmedjmaaDoor
