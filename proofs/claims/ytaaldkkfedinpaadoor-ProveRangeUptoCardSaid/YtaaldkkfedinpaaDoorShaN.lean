/- Walks: sha.number, annalsref2.word; arrays in a block of their own. -/
import Derived.Test.YtaaldkkfedinpaaDoorKit
import Derived.Laws.BytesArg
import Derived.Lib.AppendStr
import Derived.Test.YtaaldkkfedinpaaDoorShaW
set_option maxRecDepth 100000
namespace Go.Proofs.YtaaldkkfedinpaaDoor
open Go Go.RowKit

/-- Bytes as cells. -/
def bytesV (l : List UInt8) : List Value := l.map fun b => .int .u8 b.toNat
theorem bytesV_length (l : List UInt8) : (bytesV l).length = l.length := by simp [bytesV]
theorem bytesV_append (l m : List UInt8) : bytesV (l ++ m) = bytesV l ++ bytesV m := by simp [bytesV]
theorem bytesV_get (l : List UInt8) (k : Nat) (h : k < l.length) : (bytesV l)[k]'(by simpa [bytesV] using h) = .int .u8 l[k].toNat := by simp [bytesV]
theorem bytesV_one (l : List UInt8) : ∀ u ∈ bytesV l, u.oneCell' = true := by
  intro u hu
  obtain ⟨x, _, rfl⟩ := List.mem_map.1 hu
  rfl
theorem bytesV_str (s : ByteArray) : Lib.strCells s = bytesV s.data.toList := rfl
theorem byte_ofNat (n : Nat) (h : n < 256) : (UInt8.ofNat n).toNat = n := by simp; omega

theorem str_app (l m : List UInt8) : (⟨l.toArray⟩ : ByteArray) ++ ⟨m.toArray⟩ = ⟨(l ++ m).toArray⟩ := by
  apply ByteArray.ext; simp
theorem str_list (s : ByteArray) : s = ⟨s.data.toList.toArray⟩ := by cases s; simp
theorem str_size (l : List UInt8) : (⟨l.toArray⟩ : ByteArray).size = l.length := by simp [ByteArray.size]
section
variable {P : Program}
/-- string(b), b a row of bytes of the call's own. -/
theorem conv_own {w : World} {base n : Nat} {e' src dst e : TypeId} {v : Value} {l : List UInt8} (hs : P.underlying src = some (.slice e)) (he : P.underlying e = some (.int .u8)) (hd : P.underlying dst = some .string)
    (h : w.ownsRow base e' 1 v n (bytesV l)) : (convert src dst v).run P w = .ok (.string ⟨l.toArray⟩) w := by
  have hl : (l.map fun b => (b.toNat : Int)).length = n := by have := h.1; rw [bytesV_length] at this; simp; omega
  have hstr : strOfNums (l.map fun b => (b.toNat : Int)) = ⟨l.toArray⟩ := by
    unfold strOfNums
    congr 1
    rw [List.map_map]
    congr 1
    rw [show (fun n : Int => UInt8.ofNat n.toNat) ∘ (fun b : UInt8 => (b.toNat : Int)) = id from by funext b; simp]
    simp
  rcases h.2 with ⟨rfl, h0⟩ | ⟨g, cap, cur, rfl, _⟩
  · have : l = [] := List.eq_nil_of_length_eq_zero (by simp at hl; omega)
    subst this
    exact run_convert_bytes_nil w src e hs he 0 0 dst hd
  · rw [← hstr]
    refine run_convert_bytes_arg w src e hs he g 0 n cap _ hl (fun i hi => ?_) dst hd
    have hi' : i < l.length := by simp at hl; omega
    have hc := h.cells (g := g) rfl i (.int .u8 l[i].toNat) (by rw [List.getElem?_eq_getElem (by rw [bytesV_length]; exact hi'), bytesV_get l i hi'])
    have ha : (⟨g, 0, none⟩ : Addr).add i = ⟨g, 0 + i, none⟩ := by unfold Addr.add; split <;> simp_all
    rw [ha] at hc
    rw [hc, List.getD_eq_getElem?_getD, List.getElem?_map, List.getElem?_eq_getElem hi']
    rfl
/-- string([]byte{x}). -/
theorem conv_one (src dst e : TypeId) (hs : P.underlying src = some (.slice e)) (he : P.underlying e = some (.int .u8)) (hd : P.underlying dst = some .string) (x : Int) (W : World) :
    (convert src dst (.slice (some ⟨W.heap.size, 0, none⟩) 1 1)).run P (W.alloc (.cells #[.int .u8 x] e)) = .ok (.string ⟨#[UInt8.ofNat x.toNat]⟩) (W.alloc (.cells #[.int .u8 x] e)) := by
  refine run_convert_bytes_arg _ src e hs he W.heap.size 0 1 1 [x] rfl (fun i hi => ?_) dst hd
  have : i = 0 := by omega
  subst this
  simp [go_sem]
variable {ops : Array Oper} {rest : List Oper} {o : Oper} {a : Act} {Q : Exit → Act → World → Prop}
/-- b = append(b, s...), b a row of bytes of the call's own, s a string. -/
theorem wp_append_str {W : World} (base : Nat) (hgd : o.guard = none) (sl x : Operand) (t u e : TypeId)
    (ho : o.op = .call { callee := .builtin .append, args := #[sl, x], argTypes := #[t, u] })
    (ht : P.underlying t = some (.slice e)) (hu : P.underlying u = some .string) (hinfo : (P.info? e).map (fun i => (i.zero, i.size, i.bytes)) = some (some (.int .u8 0), 1, 1))
    (v : Value) (l : List UInt8) (s : ByteArray) (hs : a.eval sl = v) (hx : a.eval x = .string s) (HO : W.ownsRow base e 1 v (bytesV l).length (bytesV l)) (hbase : base ≤ W.heap.size) (hl : l.length + s.size ≤ 140737488355328)
    (h : ∀ v1 w1, w1.ownsRow base e 1 v1 (bytesV (l ++ s.data.toList)).length (bytesV (l ++ s.data.toList)) → Below base W w1 → wpList P ops Q rest (a.put o.dst v1) w1) :
    wpList P ops Q (o :: rest) a W := by
  obtain ⟨i0, hi, hz0, hz1, hz2⟩ := info_parts hinfo
  refine Lib.wpList_append_own_string W hgd sl x t u ho base e i0 ht hu hi hz0 hz1 hz2 v (bytesV l).length (bytesV l) hs HO s hx (by rw [bytesV_length]; unfold maxLen; omega) (by rw [bytesV_length]; omega) hbase ?_
  intro v1 w1 hown hg _
  refine h v1 w1 ?_ ((Below.refl base W).grown hg hbase (fun k hk => (HO.lt k hk).1))
  rw [bytesV_append, List.length_append, bytesV_length s.data.toList]
  exact hown
end

theorem info_byte : (Tryd.prog.info? 5).map (fun i => (i.zero, i.size, i.bytes)) = some (some (.int .u8 0), 1, 1) := by kernel_rfl
theorem or_128 (m : Nat) : Go.bits .or .u8 ((m : Int) % 256) 128 = ((m % 128 + 128 : Nat) : Int) := by
  have h : ∀ k : Fin 256, Go.bits .or .u8 ((k.val : Nat) : Int) 128 = ((k.val % 128 + 128 : Nat) : Int) := by decide +kernel
  have := h ⟨m % 256, by omega⟩
  rw [show ((m : Int) % 256) = ((m % 256 : Nat) : Int) by omega, this]
  show (((m % 256) % 128 + 128 : Nat) : Int) = _
  congr 2; omega
end Go.Proofs.YtaaldkkfedinpaaDoor
set_option maxRecDepth 100000
namespace Go.Proofs.YtaaldkkfedinpaaDoor
open Go Go.RowKit

theorem i64_in' (x : Int) (h : -9223372036854775808 ≤ x ∧ x ≤ 9223372036854775807) : IntKind.i64.wrap x = x := IntWalk.i64_in _ h
theorem sha_number (s : ByteArray) (hs : s.size ≤ 4) (w : World) :
    Calls Tryd.prog 169 #[.string s] w fun e w' => e = .returned (.int .u32 (beN s.data.toList)) ∧ w = w' := by
  have hsz : s.size ≤ 9223372036854775807 := by omega
  go_enter Tryd.func169, Tryd.ntmps169
  go_wp2_with fail
  go_loop [3, 7] (fun v i => ∃ k : Nat, k ≤ s.size ∧ i = .int .i64 k ∧ v = .int .u32 (beN (s.data.toList.take k))) (fun _ i => s.size - (intOf i).toNat)
  case atStart => exact ⟨0, Nat.zero_le _, rfl, rfl⟩
  case round =>
    obtain ⟨k, hk, rfl, rfl⟩ := hrel
    have hlt := beN_lt (s.data.toList.take k)
    have hlen : (s.data.toList.take k).length ≤ k := List.length_take_le _ _
    by_cases hks : k < s.size
    · have hp : 256 ^ (s.data.toList.take k).length ≤ 256 ^ 3 := Nat.pow_le_pow_right (by omega) (by omega)
      have hb := s[k].toNat_lt
      have ht : s.data.toList.take (k + 1) = s.data.toList.take k ++ [s[k]] := by
        rw [List.take_succ_eq_append_getElem (by simpa using hks)]; rfl
      have HN : Hid (beN (s.data.toList.take (k + 1)) = beN (s.data.toList.take k) * 256 + s[k].toNat) := by rw [ht]; exact beN_snoc _ _
      obtain ⟨v, hv⟩ : ∃ v, v = beN (s.data.toList.take k) := ⟨_, rfl⟩
      rw [← hv] at HN hlt ⊢
      have hv2 : (v : Int) < 16777216 := by omega
      have HO := hid (u32_or_add v s[k].toNat (by omega) (by omega))
      clear hv hlt hp ht
      go_wp2_with fail
      go_round
      case rel => exact ⟨k + 1, by omega, by go_num, by rw [HN.out]; exact int_eq HO.out⟩
      case measure => simp [intOf]; omega
    · go_wp2_with fail
      go_ret
      exact ⟨ret_int (by rw [List.take_of_length_le (by simp; omega)]), rfl⟩
theorem be4 (a b c d : UInt8) : beN [a, b, c, d] = ((a.toNat * 256 + b.toNat) * 256 + c.toNat) * 256 + d.toNat := by simp [beN]
theorem word_or (a b c d : Nat) (ha : a < 256) (hb : b < 256) (hc : c < 256) (hd : d < 256) :
    Go.bits .or .u32 (Go.bits .or .u32 (Go.bits .or .u32 ((a : Int) * 16777216) ((b : Int) * 65536)) ((c : Int) * 256)) (d : Int) = ((((a * 256 + b) * 256 + c) * 256 + d : Nat) : Int) := by
  have e1 := u32_or_nat (a * 16777216) (b * 65536) (by omega) (by omega)
  rw [nat_join 24 (a * 16777216) (b * 65536) (by omega) (by omega)] at e1
  have e2 := u32_or_nat (a * 16777216 + b * 65536) (c * 256) (by omega) (by omega)
  rw [nat_join 16 (a * 16777216 + b * 65536) (c * 256) (by omega) (by omega)] at e2
  have e3 := u32_or_nat (a * 16777216 + b * 65536 + c * 256) d (by omega) (by omega)
  rw [nat_join 8 (a * 16777216 + b * 65536 + c * 256) d (by omega) (by omega)] at e3
  rw [show (a : Int) * 16777216 = ((a * 16777216 : Nat) : Int) by omega, show (b : Int) * 65536 = ((b * 65536 : Nat) : Int) by omega, show (c : Int) * 256 = ((c * 256 : Nat) : Int) by omega, e1, e2, e3]
  congr 1
  omega
theorem ref_word (g : Nat) (l : List UInt8) (cap p : Nat) (hp : p + 4 ≤ l.length) (hl : l.length ≤ 140737488355328) (w : World) (hc : ∀ i (h : i < l.length), w.cell? ⟨g, i, none⟩ = some (.int .u8 (l[i]'h).toNat)) :
    Calls Tryd.prog 165 #[.slice (some ⟨g, 0, none⟩) l.length cap, .int .i64 p] w fun e w' => e = .returned (.int .u32 (beN ((l.drop p).take 4))) ∧ Below w.heap.size w w' := by
  have c0 := hc p (by omega)
  have c1 := hc (p + 1) (by omega)
  have c2 := hc (p + 2) (by omega)
  have c3 := hc (p + 3) (by omega)
  have b0 := (l[p]'(by omega)).toNat_lt
  have b1 := (l[p + 1]'(by omega)).toNat_lt
  have b2 := (l[p + 2]'(by omega)).toNat_lt
  have b3 := (l[p + 3]'(by omega)).toNat_lt
  have ht : (l.drop p).take 4 = [l[p]'(by omega), l[p + 1]'(by omega), l[p + 2]'(by omega), l[p + 3]'(by omega)] := by
    refine List.ext_getElem (by simp; omega) (fun i h1 h2 => ?_)
    rw [List.getElem_take, List.getElem_drop]
    have hi : i < 4 := by simpa using h2
    obtain rfl | rfl | rfl | rfl : i = 0 ∨ i = 1 ∨ i = 2 ∨ i = 3 := by omega
    all_goals rfl
  rw [ht, be4]
  generalize (l[p]'(by omega)).toNat = a at *
  generalize (l[p + 1]'(by omega)).toNat = b at *
  generalize (l[p + 2]'(by omega)).toNat = c at *
  generalize (l[p + 3]'(by omega)).toNat = d at *
  have HO := hid (word_or a b c d b0 b1 b2 b3)
  clear ht hc
  have i0 : (0 : Int) ≤ (p : Int) := by omega
  have i1 : (0 : Int) ≤ (p : Int) + 1 := by omega
  have i2 : (0 : Int) ≤ (p : Int) + 2 := by omega
  have i3 : (0 : Int) ≤ (p : Int) + 3 := by omega
  have j0 : (p : Int) < (l.length : Int) := by omega
  have j1 : (p : Int) + 1 < (l.length : Int) := by omega
  have j2 : (p : Int) + 2 < (l.length : Int) := by omega
  have j3 : (p : Int) + 3 < (l.length : Int) := by omega
  have t1 : ((p : Int) + 1).toNat = p + 1 := by omega
  have t2 : ((p : Int) + 2).toNat = p + 2 := by omega
  have t3 : ((p : Int) + 3).toNat = p + 3 := by omega
  have w1 := i64_in' ((p : Int) + 1) (by omega)
  have w2 := i64_in' ((p : Int) + 2) (by omega)
  have w3 := i64_in' ((p : Int) + 3) (by omega)
  generalize l.length = n at *
  go_enter Tryd.func165, Tryd.ntmps165
  go_wp2_with fail
  go_quiet (fail)
  go_wp2_with fail
  go_ret
  exact ⟨ret_int HO.out, below_drewN (Below.refl _ _) _⟩
end Go.Proofs.YtaaldkkfedinpaaDoor
