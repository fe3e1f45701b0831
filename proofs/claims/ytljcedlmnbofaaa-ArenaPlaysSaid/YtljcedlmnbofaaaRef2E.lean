/- Ref2E: the document's arena: Free of a slot in use. -/
import Derived.Test.YtljcedlmnbofaaaRef2D
namespace Go.Proofs.Ytljcedlmnbofaaa
open Go.ChangeShapes Go.WideShapes Go.ChangeAt Go.RowKit

section
variable {B : Nat} {w : World} {b : Nat} {vi vc vr : Value} {A : Ar}

set_option maxHeartbeats 1000000 in
theorem rFree_used (h : RefAt B w b vi vc vr A) (i : Nat) (hu : A.used i = true) :
    Calls Try.prog 29 #[.pointer (some ⟨b, 0, none⟩), .int .i64 i] w fun e w' => ∃ vr', e = .returned (.int .i64 0) ∧ RefAt B w' b vi vc vr' (A.freed i) ∧ Upd (RFoot b vi vc vr) w w' ∧ (∀ k, vr'.ownBlock = some k → vr.ownBlock = some k ∨ w.heap.size ≤ k) := by
  have hu' := hu
  simp only [Ar.used, decide_eq_true_eq] at hu'
  have hfs := h.ok.fresh
  have hin : i < A.slots := by omega
  have HV := Lib.hid (rValid_any h)
  have HX := Lib.hid (rExists_any h (i : Int))
  rw [show decide (0 ≤ (i : Int) ∧ (i : Int) < (A.slots : Int)) = true by simp; omega] at HX
  have c2 := h.c2
  have c4 := h.c4
  have fz := h.fz
  have hs := h.ok.slots
  have hlen := h.ok.len
  obtain ⟨g, c, hvi, d, hn, hm⟩ := owns_get h.oi hin
  rw [hvi] at c2
  have d2 : w.cell? ⟨g, i, none⟩ = some (.bool true) := by rw [d]; simp [bools, hin, hu]
  have oi := h.oi
  rw [hvi] at oi
  have fi := oi.frozenAt i
  have hgb : g ≠ b := fun e => h.ni (by rw [hvi, e]; rfl)
  have hbl := World.block_lt_of_cell? w ⟨b, 0, none⟩ h.c0
  have hB := h.hb
  have ox : (w.setCell ⟨g, i, none⟩ (.bool false)).ownsRow B 3 1 vr A.stack.length (ints A.stack.reverse) := owns_set_other h.ox (fun e => h.ix g (by rw [hvi]; rfl) e) _
  have HVI := Lib.hid hvi
  have H := Lib.hid h
  have HU := Lib.hid hu
  have HOI := Lib.hid oi
  have U0 : Upd (RFoot b vi vc vr) w (w.setCell ⟨g, i, none⟩ (.bool false)) := (Upd.refl _ w).setCell (fun _ => Or.inr (Or.inl (by rw [hvi]; rfl))) _
  have HU0 := Lib.hid U0
  have hxb := h.nx
  have HXB := Lib.hid hxb
  clear h hvi d hu hu' oi U0 hxb
  go_enter Try.func29, Try.ntmps29
  go_wp2_with (first
    | (go_at_call 39; refine HV.out.mono ?_; rintro e w' ⟨rfl, rfl⟩)
    | (go_at_call 40; refine HX.out.mono ?_; rintro e w' ⟨rfl, rfl⟩)
    | (at_builtin; go_loud (refine wpList_append2 _ _ 32 rfl rfl infoInt Try.underlying32 rfl (by decide) rfl rfl (ox.alloc _) rfl (cell_one (u := .int .i64 i) (ad := ⟨w.heap.size, 0, none⟩) (World.cell?_alloc_at _ _ _ _ (by simp))) (one_oneCell rfl) (by unfold maxLen; omega) (by omega) (by simp; omega) ?_); intro v' w1 hown1 hgr1 _ hpl1; obtain ⟨av, cv, rfl, _, _⟩ := owns_shape hown1; have hgr1 : (World.alloc _ _).grownBy w1 vr.ownBlock := hgr1; have hpl1 : (Value.slice av (A.stack.length + 1) cv).ownBlock = vr.ownBlock ∨ (Value.slice av (A.stack.length + 1) cv).ownBlock = some (World.alloc (w.setCell ⟨g, i, none⟩ (.bool false)) (.cells #[.int .i64 i] 3)).heap.size := hpl1;
       have U1 : Upd (fun k => vr.ownBlock = some k) (w.setCell ⟨g, i, none⟩ (.bool false)) w1 := ((Upd.refl _ _).alloc _).grown hgr1 (fun k hk _ => hk);
       have e4 := (U1.cell (p := ⟨b, 4, none⟩) (by simpa using hbl) HXB.out).trans ((World.cell?_setCell_other w ⟨g, i, none⟩ ⟨b, 4, none⟩ (.bool false) (by simp [hgb])).trans c4);
       have f4 := (U1.frozen (p := ⟨b, 4, none⟩) (by simpa using hbl) HXB.out).trans ((frozen_set w ⟨g, i, none⟩ ⟨b, 4, none⟩ (.bool false)).trans (fz 4));
       have HU1 := Lib.hid U1; have HO1 := Lib.hid hown1; have HP1 := Lib.hid hpl1; clear hown1 hgr1 hpl1 U1))
  go_ret
  have h := H.out
  have hvi := HVI.out
  have hu := HU.out
  have U := HU0.out
  have U1 := HU1.out
  have hpl : ∀ k, (Value.slice av (A.stack.length + 1) cv).ownBlock = some k → vr.ownBlock = some k ∨ w.heap.size ≤ k := by
    intro k hk
    rcases HP1.out with e | e
    · left; rw [← e]; exact hk
    · right
      rw [e] at hk
      simp only [World.size_alloc, World.size_setCell, Option.some.injEq] at hk
      omega
  have hil : g < w.heap.size := (HOI.out.lt g rfl).2
  have cell : ∀ o, (w1.setCell ⟨b, 4, none⟩ (.slice av (A.stack.length + 1) cv)).cell? ⟨b, o, none⟩ = if o = 4 then some (.slice av (A.stack.length + 1) cv) else w.cell? ⟨b, o, none⟩ := by
    intro o
    rw [cell_set]
    by_cases e : o = 4
    · subst e; simp [e4]
    · rw [if_neg (by simp [Ne.symm e]), if_neg e, U1.cell (p := ⟨b, o, none⟩) (by simpa using hbl) HXB.out, World.cell?_setCell_other _ _ _ _ (by simp [hgb])]
  have rowi : (w1.setCell ⟨b, 4, none⟩ (.slice av (A.stack.length + 1) cv)).ownsRow B 4 1 vi A.slots (bools (A.freed i).used A.slots) := by
    refine owns_set_other ?_ h.ni _
    refine owns_same (w := w.setCell ⟨g, i, none⟩ (.bool false)) ?_ (fun k hk => U1.keep k (by
      rw [hvi] at hk
      simp only [Value.ownBlock, Option.some.injEq] at hk
      simp; omega) (fun e => h.ix k hk e))
    rw [hvi, bools_set (f := A.used) (fun j _ => Ar.freed_used hu j)]
    exact (World.ownsRow.stored HOI.out i (.bool false)).1
  have rowc : (w1.setCell ⟨b, 4, none⟩ (.slice av (A.stack.length + 1) cv)).ownsRow B 40 1 vc A.slots (u64s A.times A.slots) := by
    refine owns_set_other ?_ h.nc _
    refine owns_same (w := w.setCell ⟨g, i, none⟩ (.bool false)) ?_ (fun k hk => U1.keep k (by
      have := (h.oc.lt k hk).2
      simpa using this) (fun e => h.cx k hk e))
    exact owns_set_other h.oc (by
      intro e
      exact h.ic g (by rw [hvi]; rfl) e) _
  have rowx : (w1.setCell ⟨b, 4, none⟩ (.slice av (A.stack.length + 1) cv)).ownsRow B 3 1 (.slice av (A.stack.length + 1) cv) (A.freed i).stack.length (ints (A.freed i).stack.reverse) := by
    refine owns_set_other ?_ ?_ _
    · simpa [Ar.freed, ints] using HO1.out
    · intro e
      rcases hpl b e with e2 | e2
      · exact h.nx e2
      · omega
  refine ⟨_, by simp, ?_, ?_, hpl⟩
  · refine ⟨A.freed_ok h.ok hu, h.hb, ?_, ?_, ?_, ?_, ?_, ?_, rowi, rowc, rowx, h.ni, h.nc, ?_, h.ic, ?_, ?_⟩
    · rw [cell]; simpa using h.c0
    · rw [cell]; exact h.c1
    · rw [cell]; simpa using h.c2
    · rw [cell]; simpa using h.c3
    · rw [cell]; simp
    · intro o
      rw [frozen_set, U1.frozen (p := ⟨b, o, none⟩) (by simpa using hbl) HXB.out, frozen_set]
      exact fz o
    · intro e
      rcases hpl b e with e2 | e2
      · exact h.nx e2
      · omega
    · intro k hk e
      rcases hpl k e with e2 | e2
      · exact h.ix k hk e2
      · have := (h.oi.lt k hk).2
        omega
    · intro k hk e
      rcases hpl k e with e2 | e2
      · exact h.cx k hk e2
      · have := (h.oc.lt k hk).2
        omega
  · have U2 : Upd (RFoot b vi vc vr) w w1 := U.trans U1 (fun k _ hk => Or.inr (Or.inr (Or.inr hk)))
    exact U2.setCell (fun _ => Or.inl rfl) _
end
end Go.Proofs.Ytljcedlmnbofaaa
