/- Ref2D: the document's arena: Alloc, Free. -/
import Derived.Test.YtljcedlmnbofaaaRef2C
namespace Go.Proofs.Ytljcedlmnbofaaa
open Go.ChangeShapes Go.WideShapes Go.ChangeAt Go.RowKit

theorem Ar.take_slots2 (A : Ar) (i : Nat) : (A.take i).slots = A.slots := rfl

theorem bools_set {f f' : Nat → Bool} {n i : Nat} {x : Bool} (h : ∀ j, j < n → f' j = if j = i then x else f j) : bools f' n = (bools f n).set i (.bool x) := by
  apply List.ext_getElem?
  intro j
  by_cases hj : j < n
  · rw [List.getElem?_set]
    simp only [bools, List.getElem?_map, List.getElem?_range hj, Option.map_some, h j hj, List.length_map, List.length_range]
    by_cases e : i = j
    · subst e; simp [hj]
    · simp [e, Ne.symm e]
  · rw [List.getElem?_eq_none (by simp [bools]; omega), List.getElem?_eq_none (by simp [bools]; omega)]
theorem u64s_set {f f' : Nat → Nat} {n i : Nat} {x : Nat} (h : ∀ j, j < n → f' j = if j = i then x else f j) : u64s f' n = (u64s f n).set i (.int .u64 x) := by
  apply List.ext_getElem?
  intro j
  by_cases hj : j < n
  · rw [List.getElem?_set]
    simp only [u64s, List.getElem?_map, List.getElem?_range hj, Option.map_some, h j hj, List.length_map, List.length_range]
    by_cases e : i = j
    · subst e; simp [hj]
    · simp [e, Ne.symm e]
  · rw [List.getElem?_eq_none (by simp [u64s]; omega), List.getElem?_eq_none (by simp [u64s]; omega)]

theorem owns_set_other {w : World} {B e size n : Nat} {v : Value} {xs : List Value} (h : w.ownsRow B e size v n xs) {a : Addr} (ha : v.ownBlock ≠ some a.block) (u : Value) : (w.setCell a u).ownsRow B e size v n xs :=
  owns_same h fun k hk => Below.heap_setCell _ _ _ _ (fun e => ha (by rw [← e]; exact hk))
theorem owns_shorter {w : World} {B e g n cap : Nat} {xs : List Value} (h : w.ownsRow B e 1 (.slice (some ⟨g, 0, none⟩) (n + 1) cap) (n + 1) xs) : w.ownsRow B e 1 (.slice (some ⟨g, 0, none⟩) n cap) n (xs.take n) := by
  have hl := h.1
  refine ⟨by simp; omega, ?_⟩
  rcases h.2 with ⟨h', _⟩ | ⟨g', cap', cur, h', hg, hh, hn, hm, hsz, ht⟩
  · simp at h'
  · simp only [Value.slice.injEq, Option.some.injEq, Addr.mk.injEq, and_true, true_and] at h'
    obtain ⟨rfl, rfl⟩ := h'
    refine Or.inr ⟨g, cap, cur, rfl, hg, hh, by omega, hm, hsz, ?_⟩
    rw [← ht, List.take_take]
    congr 1
    omega

section
variable {B : Nat} {w : World} {b : Nat} {vi vc vr : Value} {A : Ar}

/-- Behind an allocation. -/
theorem rAlloc_post (h : RefAt B w b vi vc vr A) {i : Nat} (hi : A.next = some i) {gi ci gc cc : Nat} (hvi : vi = .slice (some ⟨gi, 0, none⟩) A.slots ci) (hvc : vc = .slice (some ⟨gc, 0, none⟩) A.slots cc) {vr' : Value}
    (w1 : World) (h1 : ∀ k, k ≠ b → w1.heap[k]? = w.heap[k]?) (hs1 : w1.heap.size = w.heap.size) (hc : ∀ o, w1.cell? ⟨b, o, none⟩ = if o = 4 then some vr' else w.cell? ⟨b, o, none⟩) (hf : ∀ o, w1.frozen? ⟨b, o, none⟩ = false)
    (hx : w.ownsRow B 3 1 vr' A.stack.tail.length (ints A.stack.tail.reverse)) (hxb : vr'.ownBlock = none ∨ vr'.ownBlock = vr.ownBlock) :
    RefAt B ((w1.setCell ⟨gi, i, none⟩ (.bool true)).setCell ⟨gc, i, none⟩ (.int .u64 ((A.times i + 1) % 18446744073709551616 : Nat))) b vi vc vr' (A.take i) := by
  have hin := Ar.next_lt h.ok hi
  have ni := h.ni
  have nc := h.nc
  have nx := h.nx
  have ic := h.ic
  have ix := h.ix
  have cx := h.cx
  rw [hvi] at ni ic ix
  rw [hvc] at nc cx ic
  simp only [Value.ownBlock] at ni nc ic ix cx
  have hgb : gi ≠ b := fun e => ni (by rw [e])
  have hcb : gc ≠ b := fun e => nc (by rw [e])
  have hgc : gi ≠ gc := fun e => ic gi rfl (by rw [e])
  have hxi : vr'.ownBlock ≠ some gi := by
    rcases hxb with e | e <;> rw [e]
    · simp
    · exact ix gi rfl
  have hxc : vr'.ownBlock ≠ some gc := by
    rcases hxb with e | e <;> rw [e]
    · simp
    · exact cx gc rfl
  have hxbb : vr'.ownBlock ≠ some b := by
    rcases hxb with e | e <;> rw [e]
    · simp
    · exact nx
  have oi1 : w1.ownsRow B 4 1 vi A.slots (bools A.used A.slots) := owns_same h.oi fun k hk => h1 k (fun e => by rw [hvi] at hk; simp [Value.ownBlock] at hk; omega)
  have oc1 : w1.ownsRow B 40 1 vc A.slots (u64s A.times A.slots) := owns_same h.oc fun k hk => h1 k (fun e => by rw [hvc] at hk; simp [Value.ownBlock] at hk; omega)
  have ox1 : w1.ownsRow B 3 1 vr' A.stack.tail.length (ints A.stack.tail.reverse) := owns_same hx fun k hk => h1 k (fun e => hxbb (by rw [← e]; exact hk))
  have cell : ∀ o, ((w1.setCell ⟨gi, i, none⟩ (.bool true)).setCell ⟨gc, i, none⟩ (.int .u64 ((A.times i + 1) % 18446744073709551616 : Nat))).cell? ⟨b, o, none⟩ = if o = 4 then some vr' else w.cell? ⟨b, o, none⟩ := fun o => by
    rw [World.cell?_setCell_other _ _ _ _ (by simp [hcb]), World.cell?_setCell_other _ _ _ _ (by simp [hgb]), hc]
  have hu := (Ar.take_used h.ok hi).2
  refine ⟨Ar.take_ok h.ok hi, h.hb, ?_, ?_, ?_, ?_, ?_, ?_, ?_, ?_, ?_, h.ni, h.nc, hxbb, h.ic, ?_, ?_⟩
  · rw [cell]; simpa using h.c0
  · rw [cell, Ar.take_slots2]; simpa using h.c1
  · rw [cell]; simpa using h.c2
  · rw [cell]; simpa using h.c3
  · rw [cell]; simp
  · intro o; rw [frozen_set, frozen_set]; exact hf o
  · refine owns_set_other ?_ (by rw [hvi]; simp [Value.ownBlock, hgc]) _
    rw [hvi] at oi1 ⊢
    rw [show bools (A.take i).used (A.take i).slots = (bools A.used A.slots).set i (.bool true) from bools_set (fun j _ => hu j)]
    exact (World.ownsRow.stored oi1 i (.bool true)).1
  · have oc2 := owns_set_other oc1 (a := ⟨gi, i, none⟩) (by rw [hvc]; simp [Value.ownBlock, Ne.symm hgc]) (.bool true)
    rw [hvc] at oc2 ⊢
    rw [show u64s (A.take i).times (A.take i).slots = (u64s A.times A.slots).set i (.int .u64 ((A.times i + 1) % 18446744073709551616 : Nat)) from u64s_set (fun j _ => rfl)]
    exact (World.ownsRow.stored oc2 i _).1
  · exact owns_set_other (owns_set_other ox1 hxi _) hxc _
  · intro k hk
    rw [hvi] at hk
    simp only [Value.ownBlock, Option.some.injEq] at hk
    rw [← hk]; exact hxi
  · intro k hk
    rw [hvc] at hk
    simp only [Value.ownBlock, Option.some.injEq] at hk
    rw [← hk]; exact hxc

set_option maxHeartbeats 1000000 in
theorem rAlloc_some (h : RefAt B w b vi vc vr A) (ht : A.TimesOk) (i : Nat) (hi : A.next = some i) :
    Calls Try.prog 28 #[.pointer (some ⟨b, 0, none⟩)] w fun e w' => ∃ vr', e = .returned (.tuple #[.int .i64 i, .int .i64 0]) ∧ RefAt B w' b vi vc vr' (A.take i) ∧ Upd (RFoot b vi vc vr) w w' ∧ (vr'.ownBlock = none ∨ vr'.ownBlock = vr.ownBlock) := by
  have HV := Lib.hid (fun n => rValid_any (h.drewN n))
  have HN := Lib.hid (rNext_any h ht)
  rw [hi] at HN
  have hin := Ar.next_lt h.ok hi
  have hslots := h.ok.slots
  have c2 := h.c2
  have c3 := h.c3
  have c4 := h.c4
  have fz := h.fz
  obtain ⟨gi, ci, hvi, di, hni, hmi⟩ := owns_get h.oi hin
  obtain ⟨gc, cc, hvc, dc, hnc, hmc⟩ := owns_get h.oc hin
  have HVI := Lib.hid hvi
  have HVC := Lib.hid hvc
  rw [hvi] at c2
  rw [hvc] at c3
  have d1 : w.cell? ⟨gi, i, none⟩ = some (.bool (A.used i)) := by rw [di]; simp [bools, hin]
  have d2 : w.cell? ⟨gc, i, none⟩ = some (.int .u64 (A.times i)) := by rw [dc]; simp [u64s, hin]
  have oi := h.oi
  have oc := h.oc
  rw [hvi] at oi
  rw [hvc] at oc
  have fi := oi.frozenAt i
  have fc := oc.frozenAt i
  have hgb : gi ≠ b := fun e => h.ni (by rw [hvi, e]; rfl)
  have hcb : gc ≠ b := fun e => h.nc (by rw [hvc, e]; rfl)
  have hgc : gi ≠ gc := fun e => h.ic gi (by rw [hvi]; rfl) (by rw [hvc, e]; rfl)
  have H := Lib.hid h
  have HI := Lib.hid hi
  have hlen := h.ok.len
  have hfs := h.ok.fresh
  have ox := h.ox
  cases hst : A.stack with
  | cons x s =>
    rw [hst] at ox hlen
    obtain ⟨g, c, hvr, _, hnr, hmr⟩ := owns_get ox (i := 0) (by simp)
    rw [hvr] at c4 ox
    simp only [List.length_cons] at c4 ox hnr hlen
    have hsh := owns_shorter ox
    have HSH := Lib.hid hsh
    have HVR := Lib.hid hvr
    have HST := Lib.hid hst
    clear h hi hst ox oi oc hsh di dc hvi hvc hvr ht
    go_enter Try.func28, Try.ntmps28
    go_wp2_with (first | (go_at_call 39; refine (HV.out 0).mono ?_; rintro e w' ⟨rfl, rfl⟩) | (go_at_call 32; refine HN.out.mono ?_; rintro e w' ⟨rfl, n, rfl⟩; simp only [optNat]))
    go_region
    go_wp2
    go_ret2
    have hvr := HVR.out
    have hnx : g ≠ b := fun e => H.out.nx (by rw [hvr, e]; rfl)
    have R := rAlloc_post H.out HI.out HVI.out HVC.out (vr' := .slice (some ⟨g, 0, none⟩) s.length c) (w.setCell ⟨b, 4, none⟩ (.slice (some ⟨g, 0, none⟩) s.length c))
      (fun k hk => Below.heap_setCell _ _ _ _ hk) (by simp) (fun o => by
        rw [cell_set]
        by_cases e : o = 4
        · subst e; simp [c4]
        · simp [e, Ne.symm e]) (fun o => by rw [frozen_set]; exact fz o)
      (by rw [HST.out]; simpa [ints] using HSH.out) (Or.inr (by rw [hvr]; rfl))
    have U : Upd (RFoot b vi vc vr) w (((w.setCell ⟨b, 4, none⟩ (.slice (some ⟨g, 0, none⟩) s.length c)).setCell ⟨gi, i, none⟩ (.bool true)).setCell ⟨gc, i, none⟩ (.int .u64 ((A.times i + 1) % 18446744073709551616 : Nat))) :=
      (((Upd.refl _ w).setCell (fun _ => Or.inl rfl) _).setCell (fun _ => Or.inr (Or.inl (by rw [HVI.out]; rfl))) _).setCell (fun _ => Or.inr (Or.inr (Or.inl (by rw [HVC.out]; rfl)))) _
    refine ⟨.slice (some ⟨g, 0, none⟩) s.length c, by simp, ?_, ?_, Or.inr (by rw [hvr]; rfl)⟩
    · rw [wrap_u64]; exact R.same fun _ _ => rfl
    · rw [wrap_u64]; exact ⟨U.os, U.tape, U.output, U.size, U.keep⟩
  | nil =>
    rw [hst] at ox
    obtain ⟨a, c, hvr, hnr, hmr⟩ := owns_shape ox
    rw [hvr] at c4
    simp only [List.length_nil] at c4
    have HOX := Lib.hid ox
    have HST := Lib.hid hst
    have HC4 := Lib.hid h.c4
    clear h hi hst ox oi oc di dc hvi hvc hvr ht
    go_enter Try.func28, Try.ntmps28
    go_wp2_with (first | (go_at_call 39; refine (HV.out 0).mono ?_; rintro e w' ⟨rfl, rfl⟩) | (go_at_call 32; refine HN.out.mono ?_; rintro e w' ⟨rfl, n, rfl⟩; simp only [optNat]))
    go_ret2
    have R := rAlloc_post H.out HI.out HVI.out HVC.out (vr' := vr) w (fun k hk => rfl) rfl (fun o => by
        by_cases e : o = 4
        · subst e; simp [HC4.out]
        · simp [e]) fz (by rw [HST.out]; exact HOX.out) (Or.inr rfl)
    have U : Upd (RFoot b vi vc vr) w ((w.setCell ⟨gi, i, none⟩ (.bool true)).setCell ⟨gc, i, none⟩ (.int .u64 ((A.times i + 1) % 18446744073709551616 : Nat))) :=
      ((Upd.refl _ w).setCell (fun _ => Or.inr (Or.inl (by rw [HVI.out]; rfl))) _).setCell (fun _ => Or.inr (Or.inr (Or.inl (by rw [HVC.out]; rfl)))) _
    refine ⟨vr, by simp, ?_, ?_, Or.inr rfl⟩
    · rw [wrap_u64]; exact R.same fun _ _ => rfl
    · rw [wrap_u64]; exact ⟨U.os, U.tape, U.output, U.size, U.keep⟩

set_option maxHeartbeats 400000 in
theorem rAlloc_none (h : RefAt B w b vi vc vr A) (ht : A.TimesOk) (hi : A.next = none) :
    Calls Try.prog 28 #[.pointer (some ⟨b, 0, none⟩)] w fun e w' => e = .returned (.tuple #[.int .i64 0, .int .i64 4]) ∧ ∃ n, w' = w.drewN n := by
  have HV := Lib.hid (rValid_any h)
  have HN := Lib.hid (rNext_any h ht)
  rw [hi] at HN
  clear h hi ht
  go_enter Try.func28, Try.ntmps28
  go_wp2_with (first | (go_at_call 39; refine HV.out.mono ?_; rintro e w' ⟨rfl, rfl⟩) | (go_at_call 32; refine HN.out.mono ?_; rintro e w' ⟨rfl, n, rfl⟩; simp only [optNat]))
  go_ret2
  exact ⟨by simp, n, rfl⟩

set_option maxHeartbeats 400000 in
theorem rFree_out (h : RefAt B w b vi vc vr A) (i : Int) (hi : i < 0 ∨ (A.slots : Int) ≤ i) :
    Calls Try.prog 29 #[.pointer (some ⟨b, 0, none⟩), .int .i64 i] w fun e w' => e = .returned (.int .i64 3) ∧ w = w' := by
  have HV := Lib.hid (rValid_any h)
  have HX := Lib.hid (rExists_any h i)
  rw [show decide (0 ≤ i ∧ i < (A.slots : Int)) = false by simp; omega] at HX
  clear h hi
  go_enter Try.func29, Try.ntmps29
  go_wp2_with (first | (go_at_call 39; refine HV.out.mono ?_; rintro e w' ⟨rfl, rfl⟩) | (go_at_call 40; refine HX.out.mono ?_; rintro e w' ⟨rfl, rfl⟩))
  go_ret
  exact ⟨by simp, rfl⟩

set_option maxHeartbeats 400000 in
theorem rFree_unused (h : RefAt B w b vi vc vr A) (i : Nat) (hi : i < A.slots) (hu : A.used i = false) :
    Calls Try.prog 29 #[.pointer (some ⟨b, 0, none⟩), .int .i64 i] w fun e w' => e = .returned (.int .i64 5) ∧ w = w' := by
  have HV := Lib.hid (rValid_any h)
  have HX := Lib.hid (rExists_any h (i : Int))
  rw [show decide (0 ≤ (i : Int) ∧ (i : Int) < (A.slots : Int)) = true by simp; omega] at HX
  have c2 := h.c2
  have hs := h.ok.slots
  obtain ⟨g, c, hvi, d, hn, hm⟩ := owns_get h.oi hi
  rw [hvi] at c2
  have d2 : w.cell? ⟨g, i, none⟩ = some (.bool false) := by rw [d]; simp [bools, hi, hu]
  clear h hvi d hu
  go_enter Try.func29, Try.ntmps29
  go_wp2_with (first | (go_at_call 39; refine HV.out.mono ?_; rintro e w' ⟨rfl, rfl⟩) | (go_at_call 40; refine HX.out.mono ?_; rintro e w' ⟨rfl, rfl⟩))
  go_ret
  exact ⟨by simp, rfl⟩
end
end Go.Proofs.Ytljcedlmnbofaaa
