/- Walk of the law WireUnProof. -/
import Derived.Test.YtmihgnjifmkaaaaAlike
import Derived.Test.YtmihgnjifmkaaaaRefUnProof
import Derived.Test.YtmihgnjifmkaaaaOwns
set_option maxRecDepth 100000
namespace Go.Proofs.Ytmihgnjifmkaaaa
open Go Go.RowKit

theorem unProof_len (s : ByteArray) : (unProof s).1.xs.length ≤ 1024 ∧ (unProof s).1.hs.length ≤ 65536 := by
  unfold unProof
  split
  · refine ⟨upF_len s, ?_⟩
    have h := rdHashes_len s (upW s).1 (upC s).1.toNat (upSt5 s) []
    have hcb : (upC s).1 ≤ 65536 := by unfold upC; exact countN_bound _ _ _ _ _
    change (upH s).1.length ≤ _ at h
    show (upH s).1.length ≤ 65536
    simp only [List.length_nil] at h
    omega
  · exact ⟨by simp [noPF], by simp [noPF]⟩
theorem Owns.getR {w0 w : World} {l : List OwnR} (h : Owns w0 w l) (i : Nat) {e : TypeId} {size n : Nat} {v : Value} {xs : List Value} (hi : l[i]? = some ⟨e, size, v, n, xs⟩) : w.ownsRow w0.heap.size e size v n xs := h.get i hi
/-- What the reader of a proof answers, spelt out. -/
def UnPx (r : PF × Int) (w : World) (e : Ending) (w' : World) : Prop :=
  ∃ ao cap ho hcap, e = .returned (.tuple #[.agg #[.int .i64 r.1.k, .int .i64 r.1.wd, .int .i64 r.1.a, .int .i64 r.1.b, .int .i64 r.1.n, .slice ao r.1.xs.length cap, .slice ho r.1.hs.length hcap], .int .i64 r.2]) ∧ w'.ownsRow w.heap.size 3 1 (.slice ao r.1.xs.length cap) r.1.xs.length (ints r.1.xs) ∧
    w'.ownsRow w.heap.size 9 1 (.slice ho r.1.hs.length hcap) r.1.hs.length (strs' r.1.hs) ∧ Below w.heap.size w w'
theorem unPx_open {k wd a b n : Nat} {xs : List Int} {zs : List ByteArray} {er : Int} {w w' : World} {e : Ending} (h : UnPx (⟨k, wd, a, b, n, xs, zs⟩, er) w e w') :
    ∃ ao cap ho hcap, e = .returned (.tuple #[.agg #[.int .i64 k, .int .i64 wd, .int .i64 a, .int .i64 b, .int .i64 n, .slice ao xs.length cap, .slice ho zs.length hcap], .int .i64 er]) ∧ w'.ownsRow w.heap.size 3 1 (.slice ao xs.length cap) xs.length (ints xs) ∧
    w'.ownsRow w.heap.size 9 1 (.slice ho zs.length hcap) zs.length (strs' zs) ∧ Below w.heap.size w w' := h
theorem wire_UnProof' (s : ByteArray) (hs : s.size ≤ 140737488355328) (w : World) : Calls Try.prog 35 #[.string s] w (UnPx (unProof s) w) := (wire_UnProof s hs w).mono fun _ _ h => h
theorem ref11_UnProof' (s : ByteArray) (hs : s.size ≤ 140737488355328) (w : World) : Calls Try.prog 36 #[.string s] w (UnPx (unProof s) w) := (ref11_UnProof s hs w).mono fun _ _ h => h
set_option maxHeartbeats 4000000 in
theorem law_WireUnProof (s : ByteArray) (hs : s.size ≤ 140737488355328) (w : World) : Calls Try.prog 8 #[.string s] w fun e w' => e = .returned (.bool true) ∧ Below w.heap.size w w' := by
  have hun := hid (fun W => wire_UnProof' s hs W)
  have hrun := hid (fun W => ref11_UnProof' s hs W)
  have hnum := hid law_num
  obtain ⟨hl1, hl2⟩ := unProof_len s
  obtain ⟨⟨⟨k, wd, a, b, n, xs, zs⟩, er⟩, hr⟩ : ∃ r, r = unProof s := ⟨_, rfl⟩
  rw [← hr] at hun hrun hl1 hl2
  simp only at hl1 hl2
  clear hr
  have hun := hid (fun W => (hun.out W).mono fun _ _ h => unPx_open h)
  have hrun := hid (fun W => (hrun.out W).mono fun _ _ h => unPx_open h)
  have O0 := hid (Owns.nil w)
  go_enter Try.func8, Try.ntmps8
  go_wp2_with fail
  refine (hun.out _).mono ?_
  rintro e v1 ⟨a1, c1, h1, d1, rfl, ox, oz, b1⟩
  obtain ⟨W1, hW, hO⟩ := O0.out.proof (k := k) (wd := wd) (a := a) (b := b) (n := n) ox oz b1
  have O1 := hid hO
  have HW := hid hW
  clear ox oz b1 hW hO O0
  go_wp2_with fail
  rw [HW.out]
  clear HW
  refine (hrun.out _).mono ?_
  rintro e v2 ⟨a2, c2, h2, d2, rfl, ox, oz, b2⟩
  obtain ⟨W2, hW, hO⟩ := O1.out.proof (k := k) (wd := wd) (a := a) (b := b) (n := n) ox oz b2
  have O2 := hid hO
  have HW := hid hW
  clear ox oz b2 hW hO O1
  obtain ⟨p0, p1, p2, p3, p4, p5, p6⟩ := O2.out.seven 3 rfl
  obtain ⟨q0, q1, q2, q3, q4, q5, q6⟩ := O2.out.seven 0 rfl
  rw [← HW.out] at p0 p1 p2 p3 p4 p5 p6 q0 q1 q2 q3 q4 q5 q6
  go_wp2_with fail
  rw [HW.out]
  refine (law_alike _ _ _ _ _ xs zs _ _ _ _ _ _ _ _ _ (by omega) (by omega) (own_at (O2.out.getR 5 rfl)) (own_at (O2.out.getR 2 rfl)) (own_at (O2.out.getR 4 rfl)) (own_at (O2.out.getR 1 rfl))).mono ?_
  clear p0 p1 p2 p3 p4 p5 p6 q0 q1 q2 q3 q4 q5 q6
  rintro e u1 ⟨rfl, b⟩
  have O3 := hid (O2.out.below b)
  go_wp2_with (first | (go_at_call 13; refine (hnum.out _ _).mono ?_; rintro e w' ⟨rfl, rfl⟩) | fail)
  go_ret
  exact ⟨rfl, O3.out.bel⟩
end Go.Proofs.Ytmihgnjifmkaaaa
