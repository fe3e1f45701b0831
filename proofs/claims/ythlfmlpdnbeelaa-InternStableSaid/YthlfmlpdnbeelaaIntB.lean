/- IntB: layer 3: what a search reads; the probe's iterator. -/
import Derived.Test.YthlfmlpdnbeelaaIntA
import Derived.Test.YthlfmlpdnbeelaaRngF
import Derived.Test.YthlfmlpdnbeelaaRes
import Derived.Test.YthlfmlpdnbeelaaSep
set_option linter.unusedSimpArgs false
set_option linter.unusedVariables false
namespace Go.Proofs.Ythlfmlpdnbeelaa
open Go.RowKit Go.Shelf
attribute [local go_sem] Oper.semAt_some

/-- What a search reads: M cells, each 0 or an index and 1; n ids. -/
structure FV (w : World) (t M : Nat) (c : Nat → Nat) (n : Nat) (ids : Nat → Nat) : Prop where
  pow : ∃ p, p < 62 ∧ M = 2 ^ p
  c2 : ∃ a cap, w.cell? ⟨t, 2, none⟩ = some (.slice a n cap) ∧ n ≤ cap ∧ cap ≤ 9223372036854775807 ∧ ∀ i, i < n → ∃ b, a = some ⟨b, 0, none⟩ ∧ b < w.heap.size ∧ w.cell? ⟨b, i, none⟩ = some (.int .u64 (ids i))
  c3 : ∃ b cap, w.cell? ⟨t, 3, none⟩ = some (.slice (some ⟨b, 0, none⟩) M cap) ∧ M ≤ cap ∧ cap ≤ 9223372036854775807 ∧ b < w.heap.size ∧ ∀ k, k < M → w.cell? ⟨b, k, none⟩ = some (.int .i32 (c k))
  le : ∀ k, k < M → c k ≤ n
  n6 : n ≤ 65536
  m6 : M ≤ 131072
theorem FV.lt {w : World} {t M n : Nat} {c ids : Nat → Nat} (h : FV w t M c n ids) : t < w.heap.size := by
  obtain ⟨b, cap, h1, _⟩ := h.c3
  exact World.block_lt_of_cell? w _ h1
theorem FV.below {w w' : World} {t M n : Nat} {c ids : Nat → Nat} (h : FV w t M c n ids) (hb : Below w.heap.size w w') : FV w' t M c n ids := by
  have ht := h.lt
  obtain ⟨a, cap, h1, h2, h3, h4⟩ := h.c2
  obtain ⟨b, cap', k1, k2, k3, k4, k5⟩ := h.c3
  refine ⟨h.pow, ⟨a, cap, (hb.cell (p := ⟨t, 2, none⟩) ht).trans h1, h2, h3, fun i hi => ?_⟩, ⟨b, cap', (hb.cell (p := ⟨t, 3, none⟩) ht).trans k1, k2, k3, Nat.lt_of_lt_of_le k4 hb.size, fun k hk => (hb.cell (p := ⟨b, k, none⟩) k4).trans (k5 k hk)⟩, h.le, h.n6, h.m6⟩
  obtain ⟨b', e, h5, h6⟩ := h4 i hi
  exact ⟨b', e, Nat.lt_of_lt_of_le h5 hb.size, (hb.cell (p := ⟨b', i, none⟩) h5).trans h6⟩

/-- The probe of x ends at its D-th cell: there it is, or the cell is empty. -/
structure Ends (M : Nat) (c ids : Nat → Nat) (x : Nat) (D : Nat) : Prop where
  lt : D < M
  go : ∀ d, d < D → c (rgo M (ihome M x) d) ≠ 0 ∧ ids (c (rgo M (ihome M x) d) - 1) ≠ x
  stop : c (rgo M (ihome M x) D) = 0 ∨ ids (c (rgo M (ihome M x) D) - 1) = x

theorem iProbe_any (t : Nat) (x : Int) (w : World) :
    Calls Try.prog 86 #[.pointer (some ⟨t, 0, none⟩), .int .u64 x] w fun r w' => r = .returned (.func (.func 94) #[] #[.pointer (some ⟨w.heap.size, 0, none⟩), .pointer (some ⟨w.heap.size + 1, 0, none⟩)]) ∧
      (w.alloc (.cells #[.pointer (some ⟨t, 0, none⟩)] 25)).alloc (.cells #[.int .u64 x] 23) = w' := by
  go_enter Try.func86, Try.ntmps86
  go_wp2
  go_ret
  exact ⟨rfl, rfl⟩

/-- Between two rounds: all below the loop's record is as it was. -/
def FJ (Wb : World) (r : Nat) (rdy : Obj) (W : World) : Prop := Below r Wb W ∧ W.heap[r]? = some rdy
theorem FJ.refl {Wb : World} {r : Nat} {rdy : Obj} (h : Wb.heap[r]? = some rdy) : FJ Wb r rdy Wb := ⟨Below.refl _ _, h⟩

set_option maxRecDepth 100000 in
set_option maxHeartbeats 2000000 in
theorem iProbe1_any {Wb : World} {r t M n D x b1 b2 : Nat} {c ids : Nat → Nat} {rdy : Obj} {FD : World → Prop} (m : Nat) (hx : x < 18446744073709551616) (hv : FV Wb t M c n ids) (hD : D < M)
    {hm : Nat} (hhm : ihome M (x : Int) = hm) (ht : t < r) (h1 : b1 < r) (h2 : b2 < r) (hb1 : Wb.cell? ⟨b1, 0, none⟩ = some (.pointer (some ⟨t, 0, none⟩))) (hb2 : Wb.cell? ⟨b2, 0, none⟩ = some (.int .u64 x))
    (hY : ∀ d W, d < D → FJ Wb r rdy W → YieldAt Fence.wide m Try.prog r #[.int .i64 (rgo M hm d : Nat)] W fun e W' => e = .returned (.bool true) ∧ FJ Wb r rdy W')
    (hZ : ∀ W, FJ Wb r rdy W → YieldAt Fence.wide m Try.prog r #[.int .i64 (rgo M hm D : Nat)] W fun e W' => e = .returned (.bool false) ∧ FD W')
    {W : World} (h0 : FJ Wb r rdy W) :
    CallsIn Fence.wide (m + 1) Try.prog 94 #[.func (.yield r) #[] #[], .pointer (some ⟨b1, 0, none⟩), .pointer (some ⟨b2, 0, none⟩)] W fun e W' => (∃ v, e = .returned v) ∧ FD W' := by
  obtain ⟨p, hp, hM⟩ := hv.pow
  have hm6 := hv.m6
  obtain ⟨b, cap, c3, k2, k3, k4, k5⟩ := hv.c3
  have kb : ∀ W, FJ Wb r rdy W → W.cell? ⟨b1, 0, none⟩ = some (.pointer (some ⟨t, 0, none⟩)) ∧ W.cell? ⟨b2, 0, none⟩ = some (.int .u64 x) ∧ W.cell? ⟨t, 3, none⟩ = some (.slice (some ⟨b, 0, none⟩) M cap) := fun W h =>
    ⟨(h.1.cell (p := ⟨b1, 0, none⟩) h1).trans hb1, (h.1.cell (p := ⟨b2, 0, none⟩) h2).trans hb2, (h.1.cell (p := ⟨t, 3, none⟩) ht).trans c3⟩
  obtain ⟨s1, s2, s3⟩ := kb W h0
  have hlm : hm < M := by rw [← hhm]; exact ihome_lt (p := p) (by omega) hM x
  have HH0 := iHome_any s3 (x : Int) (by omega) p (by omega) hM
  rw [hhm] at HH0
  have HH := Lib.hid HH0
  clear HH0 hhm
  have H0 := Lib.hid h0
  have HK := Lib.hid kb
  have HY := Lib.hid hY
  have HZ := Lib.hid hZ
  have HR := Lib.hid (show ∀ d, rgo M hm d < M from fun d => rgo_lt _ _ (by omega))
  have HMASK := Lib.hid (show ∀ d, bits .and .i64 (((rgo M hm d : Nat) : Int) + 1) ((M : Int) - 1) = ((rgo M hm (d + 1) : Nat) : Int) from fun d => by
    have := and_mask (((rgo M hm d : Nat) : Int) + 1) p (by omega)
    rw [← hM] at this
    rw [this]
    have e : rgo M hm (d + 1) = (rgo M hm d + 1) % M := by unfold rgo; rw [Nat.mod_add_mod, Nat.add_assoc]
    rw [e, Int.natCast_emod]
    rfl)
  have HOFF := Lib.hid (show ∀ d, d < M → roff M hm (rgo M hm d) = d from fun d hd => roff_go hlm hd)
  have HZERO := Lib.hid (show hm = rgo M hm 0 from (rgo_zero hlm).symm)
  clear hv hY hZ kb h0 c3 k5 hb1 hb2 hM
  refine callsIn_of_wp Try.func94 rfl trivial ?_ rfl
  simp only [Try.ntmps94, List.size_toArray, List.length_cons, List.length_nil, Nat.reduceAdd, Nat.reduceSub, Array.replicate_succ, Array.replicate_zero, List.push_toArray, List.append_toArray, List.nil_append, List.cons_append]
  gi_wp2_with (refine ⟨trivial, ?_⟩; gi_at_call 59; refine (callsIn_wide.2 HH.out).mono ?_; rintro e w1 ⟨rfl, rfl⟩)
  gi_loopw [4] (fun y wr => ∃ d, d ≤ D ∧ y = .int .i64 (rgo M hm d : Nat) ∧ FJ Wb r rdy wr) (fun y _ => D - roff M hm (intOf y).toNat)
  case atStart => exact ⟨0, Nat.zero_le _, by rw [← HZERO.out], H0.out⟩
  case round =>
    obtain ⟨d, hd, rfl, hj⟩ := hrel
    by_cases hlt : d < D
    · obtain ⟨fn, tmps, assign, body, hy, hR⟩ := HY.out d _ hlt hj
      clear hj
      gi_wp2
      refine hR.mono ?_
      rintro e w3 ⟨rfl, hj2⟩
      obtain ⟨s1, s2, s3⟩ := HK.out _ hj2
      have HJ := Lib.hid hj2
      have HW := Lib.hid (show bits .and .i64 (wrap64 (((rgo M hm d : Nat) : Int) + 1)) ((M : Int) - 1) = ((rgo M hm (d + 1) : Nat) : Int) by
        have := HR.out d
        rw [show wrap64 (((rgo M hm d : Nat) : Int) + 1) = ((rgo M hm d : Nat) : Int) + 1 by unfold wrap64; omega]
        exact HMASK.out d)
      clear hR hy hj2
      gi_wp2
      go_roundw
      case rel => exact ⟨d + 1, by omega, by rw [HW.out], HJ.out⟩
      case measure =>
        rw [HW.out]
        simp only [intOf, Int.toNat_natCast]
        rw [HOFF.out d (by omega), HOFF.out (d + 1) (by omega)]
        omega
    · obtain rfl : d = D := by omega
      obtain ⟨fn, tmps, assign, body, hy, hR⟩ := HZ.out _ hj
      clear hj
      gi_wp2
      refine hR.mono ?_
      rintro e w3 ⟨rfl, hF⟩
      have HF := Lib.hid hF
      clear hR hy hF
      gi_wp2
      go_end0
      exact ⟨⟨_, rfl⟩, HF.out⟩
end Go.Proofs.Ythlfmlpdnbeelaa
