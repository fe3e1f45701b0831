/- ArenaR: layer 2: Copy. -/
import Derived.Test.YthlfmlpdnbeelaaArenaS
set_option linter.unusedSimpArgs false
set_option linter.unusedVariables false
namespace Go.Proofs.Ythlfmlpdnbeelaa
open Go.ChangeShapes Go.WideShapes Go.ChangeAt Go.RowKit

set_option maxHeartbeats 400000 in
theorem aClone_any (lb n cap : Nat) (w : World) (hn : n ≤ 65536) (hc : ∀ j, j < n * 384 → ∃ u, w.cell? ⟨lb, j, none⟩ = some u ∧ u.oneCell' = true) :
    Calls Try.prog 91 #[.slice (some ⟨lb, 0, none⟩) n cap] w fun e w' => ∃ g c, e = .returned (.slice (some ⟨g, 0, none⟩) n c) ∧ n ≤ c ∧ w.heap.size ≤ g ∧ g < w'.heap.size ∧ (∀ j, j < n * 384 → w'.cell? ⟨g, j, none⟩ = w.cell? ⟨lb, j, none⟩) ∧ (∀ o, w'.frozen? ⟨g, o, none⟩ = false) ∧ Below w.heap.size w w' := by
  have HC := Lib.hid hc
  clear hc
  obtain ⟨xs, hxs⟩ : ∃ xs : List Value, xs = (List.range (n * 384)).map fun j => (w.cell? ⟨lb, j, none⟩).getD undef := ⟨_, rfl⟩
  have hl : xs.length = n * 384 := by rw [hxs]; simp
  have hx : ∀ j, j < n * 384 → xs[j]? = w.cell? ⟨lb, j, none⟩ := by
    intro j hj
    obtain ⟨u, hu, _⟩ := HC.out j hj
    rw [hxs]; simp [hj, hu]
  have h1 : ∀ u ∈ xs, u.oneCell' = true := by
    intro u hu
    rw [hxs] at hu
    obtain ⟨j, hj, rfl⟩ := List.mem_map.1 hu
    obtain ⟨v, hv, h2⟩ := HC.out j (List.mem_range.1 hj)
    rw [hv]; exact h2
  have hcell : ∀ (v : World) (_ : Below w.heap.size w v), ∀ j u, xs[j]? = some u → v.cell? ((⟨lb, 0, none⟩ : Addr).add j) = some u := by
    intro v hv j u hju
    have hj : j < n * 384 := by rw [← hl]; exact (List.getElem?_eq_some_iff.1 hju).1
    rw [hx j hj] at hju
    rw [Addr.add_lit, Nat.zero_add]
    exact (hv.cell (p := ⟨lb, j, none⟩) (World.block_lt_of_cell? w _ hju)).trans hju
  have HL := Lib.hid hl
  have HX := Lib.hid hx
  have H1 := Lib.hid h1
  have HCELL := Lib.hid hcell
  clear hl hx h1 hcell hxs
  obtain ⟨i0, hi, hz0, hz1, hz2⟩ := info_parts infoSlots
  have HI := Lib.hid (And.intro hi (And.intro hz0 (And.intro hz1 hz2)))
  clear hi hz0 hz1 hz2
  have hsn := fun (v : World) => Lib.run_eql_slice_nil (P := Try.prog) v 127 142 (some ⟨lb, 0, none⟩) n cap 0 0 Try.underlying127
  go_enter Try.func91, Try.ntmps91
  go_wp2_with (at_builtin; refine wpList_append_own _ rfl _ _ 127 rfl w.heap.size 142 i0 (.agg slotZ) 384 3072 Try.underlying127 HI.out.1 HI.out.2.1 HI.out.2.2.1 HI.out.2.2.2 slotZ_size (by decide) _ _ _ rfl (World.ownsRow_lit w #[] 0 (Nat.le_refl _) (by unfold maxLen; omega) rfl) ⟨lb, 0, none⟩ n cap xs rfl HL.out (HCELL.out _ ((Below.refl _ w).alloc (Nat.le_refl _) _)) H1.out (by unfold maxLen; omega) (by omega) (by simp) ?_; intro v' w1 hown hgr hnil)
  have hb : Below w.heap.size w w1 := ((Below.refl _ w).alloc (Nat.le_refl _) _).grown hgr (by simp) (fun k hk => by have e : some w.heap.size = some k := hk; injection e with e; exact Nat.le_of_eq e)
  have HO := Lib.hid hown
  have HN := Lib.hid hnil
  have HB := Lib.hid hb
  clear hown hnil hb hgr
  go_wp2
  go_ret
  rcases HO.out.2 with ⟨hv, h0⟩ | ⟨g, c, cur, rfl, hg, hh, hnc, hcm, _, _⟩
  · exact absurd (show Value.slice (some ⟨w.heap.size, 0, none⟩) 0 0 = .slice none 0 0 from (HN.out.1 hv).1) (by simp)
  · have hown := HO.out
    rw [Nat.zero_add] at hown
    refine ⟨g, c, by simp, by omega, hg, (hown.lt g rfl).2, ?_, hown.frozenAt, HB.out⟩
    intro j hj
    rw [hown.cellAt j hj]
    simpa using HX.out j hj

theorem ArenaAt.cells {w : World} {b lb : Nat} {A : Ar} (h : ArenaAt w b lb A) : ∀ j, j < (A.slots + 127) / 128 * 384 → ∃ u, w.cell? ⟨lb, j, none⟩ = some u ∧ u.oneCell' = true := by
  intro j hj
  have hq : j / 3 < (A.slots + 127) / 128 * 128 := by omega
  have hr : j % 3 = 0 ∨ j % 3 = 1 ∨ j % 3 = 2 := by omega
  rcases hr with hr | hr | hr
  · have := h.r0 _ hq
    rw [show j / 3 * 3 = j by omega] at this
    exact ⟨_, this, rfl⟩
  · have := h.r1 _ hq
    rw [show j / 3 * 3 + 1 = j by omega] at this
    exact ⟨_, this, rfl⟩
  · obtain ⟨v, hv⟩ := h.r2 _ hq
    rw [show j / 3 * 3 + 2 = j by omega] at hv
    exact ⟨_, hv, rfl⟩

set_option maxHeartbeats 1000000 in
theorem aCopy_any {w : World} {b lb : Nat} {A : Ar} (h : ArenaAt w b lb A) :
    Calls Try.prog 70 #[.pointer (some ⟨b, 0, none⟩)] w fun e w' => ∃ b' lb', e = .returned (.pointer (some ⟨b', 0, none⟩)) ∧ ArenaAt w' b' lb' A ∧ w.heap.size ≤ b' ∧ w.heap.size ≤ lb' ∧ lb' < w'.heap.size ∧ Below w.heap.size w w' := by
  have c0 := h.c0
  have c1 := h.c1
  have c2 := h.c2
  have c3 := h.c3
  have c4 := h.c4
  obtain ⟨n, cap, c5, hnc, hn⟩ := h.c5
  have hs := h.ok.slots
  have hblt := h.b_lt
  have HCL := Lib.hid (fun (v : World) (hv : Below w.heap.size w v) => aClone_any lb n cap v (by omega) (fun j hj => by
    obtain ⟨u, hu, h1⟩ := h.cells j (by rw [← hn]; exact hj)
    exact ⟨u, (hv.cell (p := ⟨lb, j, none⟩) (World.block_lt_of_cell? w _ hu)).trans hu, h1⟩))
  have H := Lib.hid h
  have HN := Lib.hid hn
  clear h hn
  go_enter Try.func70, Try.ntmps70
  go_wp2_with (go_at_call 91; refine (HCL.out _ ((Below.refl _ w).alloc (Nat.le_refl _) _)).mono ?_; rintro e w1 ⟨g, c, rfl, h1, h2, h3, h4, h5, h6⟩; have hf := (h6.frozen (p := ⟨w.heap.size, 5, none⟩) (by simp)).trans (World.frozen?_alloc_at _ _ _ _ rfl); have hc5 := (h6.cell (p := ⟨w.heap.size, 5, none⟩) (by simp)).trans (World.cell?_alloc_at _ _ _ _ rfl); have HX := Lib.hid (And.intro h1 (And.intro h2 (And.intro h3 (And.intro h4 (And.intro h5 h6))))); clear h1 h2 h3 h4 h5 h6)
  go_ret
  obtain ⟨h1, h2, h3, h4, h5, h6⟩ := HX.out
  have h := H.out
  have hn := HN.out
  simp only [World.size_alloc] at h2 h6
  have hlow : ∀ o, (w1.setCell ⟨w.heap.size, 5, none⟩ (Value.slice (some ⟨g, 0, none⟩) n c)).cell? ⟨g, o, none⟩ = w1.cell? ⟨g, o, none⟩ := fun o => World.cell?_setCell_other _ _ _ _ (by simp <;> omega)
  have hold : ∀ o, o < n * 384 → (w1.setCell ⟨w.heap.size, 5, none⟩ (Value.slice (some ⟨g, 0, none⟩) n c)).cell? ⟨g, o, none⟩ = w.cell? ⟨lb, o, none⟩ := by
    intro o ho
    obtain ⟨u, hu, _⟩ := h.cells o (by rw [← hn]; exact ho)
    rw [hlow, h4 o ho, World.cell?_alloc_past _ _ _ (World.block_lt_of_cell? w _ hu)]
  have hnew : ∀ o, (w1.setCell ⟨w.heap.size, 5, none⟩ (Value.slice (some ⟨g, 0, none⟩) n c)).cell? ⟨w.heap.size, o, none⟩ = if o = 5 then some (Value.slice (some ⟨g, 0, none⟩) n c) else
      #[Value.bool true, Value.int IntKind.i64 ↑A.slots, Value.int IntKind.i64 (↑A.fresh - ↑A.stack.length), Value.int IntKind.i64 ↑A.fresh, Value.int IntKind.i64 (topOf A.stack), Value.slice (some { block := lb, off := 0 }) n cap][o]? := by
    intro o
    rw [cell_set]
    have e := (h6.cell (p := ⟨w.heap.size, o, none⟩) (by simp)).trans (World.cell?_alloc_at _ _ _ _ rfl)
    by_cases h5 : o = 5
    · subst h5; rw [if_pos rfl, if_pos rfl, e]; rfl
    · rw [if_neg (by simp <;> omega), if_neg h5, e]
  refine ⟨w.heap.size, g, by simp, ?_, Nat.le_refl _, by omega, by simpa using h3, ((((Below.refl _ w).alloc (Nat.le_refl _) _).trans (h6.mono (by omega))).setCell (Nat.le_refl _) _)⟩
  refine ⟨h.ok, by omega, ?_, ?_, ?_, ?_, ?_, ⟨n, c, by rw [hnew]; rfl, h1, hn⟩, ?_, ?_, ?_, ?_, ?_, ?_⟩
  · rw [hnew]; rfl
  · rw [hnew]; rfl
  · rw [hnew]; rfl
  · rw [hnew]; rfl
  · rw [hnew]; rfl
  · intro o
    rw [frozen_set, h6.frozen (p := ⟨w.heap.size, o, none⟩) (by simp)]
    exact World.frozen?_alloc_at _ _ _ _ rfl
  · intro i hi; rw [hold _ (by omega)]; exact h.r0 i hi
  · intro i hi; rw [hold _ (by omega)]; exact h.r1 i hi
  · intro i hi; rw [hold _ (by omega)]; exact h.r2 i hi
  · intro pre x s hs
    have := h.ok.lt x (by rw [hs]; simp)
    have := h.ok.fresh
    rw [hold _ (by omega)]; exact h.r3 pre x s hs
  · intro o; rw [frozen_set]; exact h5 o
end Go.Proofs.Ythlfmlpdnbeelaa
