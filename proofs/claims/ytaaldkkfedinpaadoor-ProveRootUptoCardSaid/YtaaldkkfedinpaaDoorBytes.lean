/- Bytes: rows of bytes that the call made, strings out of them, strings put behind them. -/
import Derived.Test.YtaaldkkfedinpaaDoorKit
import Derived.Laws.BytesArg
import Derived.Lib.AppendStr
set_option maxRecDepth 100000
namespace Go.Proofs.YtaaldkkfedinpaaDoor
open Go Go.RowKit

/-- Bytes as cells. -/
def bytesV (l : List UInt8) : List Value := l.map fun b => .int .u8 b.toNat
theorem bytesV_length (l : List UInt8) : (bytesV l).length = l.length := by simp [bytesV]
theorem bytesV_append (l m : List UInt8) : bytesV (l ++ m) = bytesV l ++ bytesV m := by simp [bytesV]
theorem bytesV_get (l : List UInt8) (k : Nat) (h : k < l.length) : (bytesV l)[k]'(by simpa [bytesV] using h) = .int .u8 l[k].toNat := by simp [bytesV]
theorem bytesV_one (l : List UInt8) : ∀ u ∈ bytesV l, u.oneCell' = true := by
  intro u hu
  obtain ⟨x, _, rfl⟩ := List.mem_map.1 hu
  rfl
theorem bytesV_str (s : ByteArray) : Lib.strCells s = bytesV s.data.toList := rfl
theorem byte_ofNat (n : Nat) (h : n < 256) : (UInt8.ofNat n).toNat = n := by simp; omega

theorem str_app (l m : List UInt8) : (⟨l.toArray⟩ : ByteArray) ++ ⟨m.toArray⟩ = ⟨(l ++ m).toArray⟩ := by
  apply ByteArray.ext; simp
theorem str_list (s : ByteArray) : s = ⟨s.data.toList.toArray⟩ := by cases s; simp
theorem str_size (l : List UInt8) : (⟨l.toArray⟩ : ByteArray).size = l.length := by simp [ByteArray.size]
section
variable {P : Program}
/-- string(b), b a row of bytes of the call's own. -/
theorem conv_own {w : World} {base n : Nat} {e' src dst e : TypeId} {v : Value} {l : List UInt8} (hs : P.underlying src = some (.slice e)) (he : P.underlying e = some (.int .u8)) (hd : P.underlying dst = some .string)
    (h : w.ownsRow base e' 1 v n (bytesV l)) : (convert src dst v).run P w = .ok (.string ⟨l.toArray⟩) w := by
  have hl : (l.map fun b => (b.toNat : Int)).length = n := by have := h.1; rw [bytesV_length] at this; simp; omega
  have hstr : strOfNums (l.map fun b => (b.toNat : Int)) = ⟨l.toArray⟩ := by
    unfold strOfNums
    congr 1
    rw [List.map_map]
    congr 1
    rw [show (fun n : Int => UInt8.ofNat n.toNat) ∘ (fun b : UInt8 => (b.toNat : Int)) = id from by funext b; simp]
    simp
  rcases h.2 with ⟨rfl, h0⟩ | ⟨g, cap, cur, rfl, _⟩
  · have : l = [] := List.eq_nil_of_length_eq_zero (by simp at hl; omega)
    subst this
    exact run_convert_bytes_nil w src e hs he 0 0 dst hd
  · rw [← hstr]
    refine run_convert_bytes_arg w src e hs he g 0 n cap _ hl (fun i hi => ?_) dst hd
    have hi' : i < l.length := by simp at hl; omega
    have hc := h.cells (g := g) rfl i (.int .u8 l[i].toNat) (by rw [List.getElem?_eq_getElem (by rw [bytesV_length]; exact hi'), bytesV_get l i hi'])
    have ha : (⟨g, 0, none⟩ : Addr).add i = ⟨g, 0 + i, none⟩ := by unfold Addr.add; split <;> simp_all
    rw [ha] at hc
    rw [hc, List.getD_eq_getElem?_getD, List.getElem?_map, List.getElem?_eq_getElem hi']
    rfl
/-- string([]byte{x}). -/
theorem conv_one (src dst e : TypeId) (hs : P.underlying src = some (.slice e)) (he : P.underlying e = some (.int .u8)) (hd : P.underlying dst = some .string) (x : Int) (W : World) :
    (convert src dst (.slice (some ⟨W.heap.size, 0, none⟩) 1 1)).run P (W.alloc (.cells #[.int .u8 x] e)) = .ok (.string ⟨#[UInt8.ofNat x.toNat]⟩) (W.alloc (.cells #[.int .u8 x] e)) := by
  refine run_convert_bytes_arg _ src e hs he W.heap.size 0 1 1 [x] rfl (fun i hi => ?_) dst hd
  have : i = 0 := by omega
  subst this
  simp [go_sem]
variable {ops : Array Oper} {rest : List Oper} {o : Oper} {a : Act} {Q : Exit → Act → World → Prop}
/-- b = append(b, s...), b a row of bytes of the call's own, s a string. -/
theorem wp_append_str {W : World} (base : Nat) (hgd : o.guard = none) (sl x : Operand) (t u e : TypeId)
    (ho : o.op = .call { callee := .builtin .append, args := #[sl, x], argTypes := #[t, u] })
    (ht : P.underlying t = some (.slice e)) (hu : P.underlying u = some .string) (hinfo : (P.info? e).map (fun i => (i.zero, i.size, i.bytes)) = some (some (.int .u8 0), 1, 1))
    (v : Value) (l : List UInt8) (s : ByteArray) (hs : a.eval sl = v) (hx : a.eval x = .string s) (HO : W.ownsRow base e 1 v (bytesV l).length (bytesV l)) (hbase : base ≤ W.heap.size) (hl : l.length + s.size ≤ 140737488355328)
    (h : ∀ v1 w1, w1.ownsRow base e 1 v1 (bytesV (l ++ s.data.toList)).length (bytesV (l ++ s.data.toList)) → Below base W w1 → wpList P ops Q rest (a.put o.dst v1) w1) :
    wpList P ops Q (o :: rest) a W := by
  obtain ⟨i0, hi, hz0, hz1, hz2⟩ := info_parts hinfo
  refine Lib.wpList_append_own_string W hgd sl x t u ho base e i0 ht hu hi hz0 hz1 hz2 v (bytesV l).length (bytesV l) hs HO s hx (by rw [bytesV_length]; unfold maxLen; omega) (by rw [bytesV_length]; omega) hbase ?_
  intro v1 w1 hown hg _
  refine h v1 w1 ?_ ((Below.refl base W).grown hg hbase (fun k hk => (HO.lt k hk).1))
  rw [bytesV_append, List.length_append, bytesV_length s.data.toList]
  exact hown
end

theorem info_byte : (Tryd.prog.info? 5).map (fun i => (i.zero, i.size, i.bytes)) = some (some (.int .u8 0), 1, 1) := by kernel_rfl
theorem or_128 (m : Nat) : Go.bits .or .u8 ((m : Int) % 256) 128 = ((m % 128 + 128 : Nat) : Int) := by
  have h : ∀ k : Fin 256, Go.bits .or .u8 ((k.val : Nat) : Int) 128 = ((k.val % 128 + 128 : Nat) : Int) := by decide +kernel
  have := h ⟨m % 256, by omega⟩
  rw [show ((m : Int) % 256) = ((m % 256 : Nat) : Int) by omega, this]
  show (((m % 256) % 128 + 128 : Nat) : Int) = _
  congr 2; omega
end Go.Proofs.YtaaldkkfedinpaaDoor
