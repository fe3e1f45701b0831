/- HeapC: layer 4: Copy. -/
import Derived.Test.YtmlbacbcdjfioaaHeapF
import Derived.Deep.RegionHeld3
set_option linter.unusedSimpArgs false
set_option linter.unusedVariables false
namespace Go.Proofs.Ytmlbacbcdjfioaa
open Go.ChangeShapes Go.WideShapes Go.ChangeAt Go.RowKit

set_option maxHeartbeats 400000 in
theorem hCloneP_any (lb n cap : Nat) (w : World) (hn : n ≤ 65536) (hc : ∀ j, j < n * 256 → ∃ u, w.cell? ⟨lb, j, none⟩ = some u ∧ u.oneCell' = true) :
    Calls Try.prog 83 #[.slice (some ⟨lb, 0, none⟩) n cap] w fun e w' => ∃ g c, e = .returned (.slice (some ⟨g, 0, none⟩) n c) ∧ n ≤ c ∧ w.heap.size ≤ g ∧ g < w'.heap.size ∧ (∀ j, j < n * 256 → w'.cell? ⟨g, j, none⟩ = w.cell? ⟨lb, j, none⟩) ∧ (∀ o, w'.frozen? ⟨g, o, none⟩ = false) ∧ Below w.heap.size w w' := by
  have HC := Lib.hid hc
  clear hc
  obtain ⟨xs, hxs⟩ : ∃ xs : List Value, xs = (List.range (n * 256)).map fun j => (w.cell? ⟨lb, j, none⟩).getD undef := ⟨_, rfl⟩
  have hl : xs.length = n * 256 := by rw [hxs]; simp
  have hx : ∀ j, j < n * 256 → xs[j]? = w.cell? ⟨lb, j, none⟩ := by
    intro j hj
    obtain ⟨u, hu, _⟩ := HC.out j hj
    rw [hxs]; simp [hj, hu]
  have h1 : ∀ u ∈ xs, u.oneCell' = true := by
    intro u hu
    rw [hxs] at hu
    obtain ⟨j, hj, rfl⟩ := List.mem_map.1 hu
    obtain ⟨v, hv, h2⟩ := HC.out j (List.mem_range.1 hj)
    rw [hv]; exact h2
  have hcell : ∀ (v : World) (_ : Below w.heap.size w v), ∀ j u, xs[j]? = some u → v.cell? ((⟨lb, 0, none⟩ : Addr).add j) = some u := by
    intro v hv j u hju
    have hj : j < n * 256 := by rw [← hl]; exact (List.getElem?_eq_some_iff.1 hju).1
    rw [hx j hj] at hju
    rw [Addr.add_lit, Nat.zero_add]
    exact (hv.cell (p := ⟨lb, j, none⟩) (World.block_lt_of_cell? w _ hju)).trans hju
  have HL := Lib.hid hl
  have HX := Lib.hid hx
  have H1 := Lib.hid h1
  have HCELL := Lib.hid hcell
  clear hl hx h1 hcell hxs
  obtain ⟨i0, hi, hz0, hz1, hz2⟩ := info_parts infoPos
  have HI := Lib.hid (And.intro hi (And.intro hz0 (And.intro hz1 hz2)))
  clear hi hz0 hz1 hz2
  have hsn := fun (v : World) => Lib.run_eql_slice_nil (P := Try.prog) v 88 107 (some ⟨lb, 0, none⟩) n cap 0 0 Try.underlying88
  have hzs : (Value.agg arrZ).cells.size = 256 := by simp [Value.cells, arrZ]
  go_enter Try.func83, Try.ntmps83
  go_wp2_with (at_builtin; refine wpList_append_own _ rfl _ _ 88 rfl w.heap.size 107 i0 (.agg arrZ) 256 2048 Try.underlying88 HI.out.1 HI.out.2.1 HI.out.2.2.1 HI.out.2.2.2 hzs (by decide) _ _ _ rfl (World.ownsRow_lit w #[] 0 (Nat.le_refl _) (by unfold maxLen; omega) rfl) ⟨lb, 0, none⟩ n cap xs rfl HL.out (HCELL.out _ ((Below.refl _ w).alloc (Nat.le_refl _) _)) H1.out (by unfold maxLen; omega) (by omega) (by simp) ?_; intro v' w1 hown hgr hnil)
  have hb : Below w.heap.size w w1 := ((Below.refl _ w).alloc (Nat.le_refl _) _).grown hgr (by simp) (fun k hk => by have e : some w.heap.size = some k := hk; injection e with e; exact Nat.le_of_eq e)
  have HO := Lib.hid hown
  have HN := Lib.hid hnil
  have HB := Lib.hid hb
  clear hown hnil hb hgr
  go_wp2
  go_ret
  rcases HO.out.2 with ⟨hv, h0⟩ | ⟨g, c, cur, rfl, hg, hh, hnc, hcm, _, _⟩
  · exact absurd (show Value.slice (some ⟨w.heap.size, 0, none⟩) 0 0 = .slice none 0 0 from (HN.out.1 hv).1) (by simp)
  · have hown := HO.out
    rw [Nat.zero_add] at hown
    refine ⟨g, c, by simp, by omega, hg, (hown.lt g rfl).2, ?_, hown.frozenAt, HB.out⟩
    intro j hj
    rw [hown.cellAt j hj]
    simpa using HX.out j hj

set_option maxHeartbeats 400000 in
theorem hCloneL_any (B : Nat) (v : Value) (n : Nat) (xs : List Value) (w : World) (hn : n ≤ 65536) (hown : w.ownsRow B 28 2 v n xs) (h1 : ∀ u ∈ xs, u.oneCell' = true) :
    Calls Try.prog 72 #[v] w fun e w' => ∃ v', e = .returned v' ∧ w'.ownsRow w.heap.size 28 2 v' n xs ∧ (v' = .slice none 0 0 ↔ v = .slice none 0 0) ∧ Below w.heap.size w w' := by
  rcases hown.2 with ⟨rfl, h0⟩ | ⟨lb, cap, cur, rfl, hg, hh, hnc, hcm, hcs, htk⟩
  · have hsn := fun (v : World) => Lib.run_eql_slice_nil (P := Try.prog) v 68 28 none 0 0 0 0 Try.underlying68
    have H := Lib.hid (And.intro h0 hown)
    clear h0 hown h1
    go_enter Try.func72, Try.ntmps72
    go_wp2
    go_ret
    obtain ⟨rfl, hown⟩ := H.out
    have hx : xs = [] := List.eq_nil_of_length_eq_zero (by simpa using hown.1)
    subst hx
    exact ⟨_, rfl, World.ownsRow_nil _ _ _ _, by simp, Below.refl _ _⟩
  · have hsn := fun (v : World) => Lib.run_eql_slice_nil (P := Try.prog) v 68 28 (some ⟨lb, 0, none⟩) n cap 0 0 Try.underlying68
    have hcell : ∀ (v : World) (_ : Below w.heap.size w v), ∀ j u, xs[j]? = some u → v.cell? ((⟨lb, 0, none⟩ : Addr).add j) = some u := by
      intro v hv j u hju
      have := hown.cells (g := lb) rfl j u hju
      have e : ((⟨lb, 0, none⟩ : Addr).add j) = ⟨lb, j, none⟩ := by rw [Addr.add_lit, Nat.zero_add]
      rw [e] at this ⊢
      exact (hv.cell (p := ⟨lb, j, none⟩) (World.block_lt_of_cell? w _ this)).trans this
    have HL := Lib.hid hown.1
    have HCELL := Lib.hid hcell
    have H1 := Lib.hid h1
    clear hown h1 hcell hh hcs htk
    obtain ⟨i0, hi, hz0, hz1, hz2⟩ := info_parts infoEntry
    have HI := Lib.hid (And.intro hi (And.intro hz0 (And.intro hz1 hz2)))
    clear hi hz0 hz1 hz2
    go_enter Try.func72, Try.ntmps72
    go_wp2_with (at_builtin; refine wpList_append_own _ rfl _ _ 68 rfl w.heap.size 28 i0 (.agg #[.int .i64 0, .int .i64 0]) 2 16 Try.underlying68 HI.out.1 HI.out.2.1 HI.out.2.2.1 HI.out.2.2.2 rfl (by decide) _ _ _ rfl (World.ownsRow_lit w #[] 0 (Nat.le_refl _) (by unfold maxLen; omega) rfl) ⟨lb, 0, none⟩ n cap xs rfl HL.out (HCELL.out _ ((Below.refl _ w).alloc (Nat.le_refl _) _)) H1.out (by unfold maxLen; omega) (by omega) (by simp) ?_; intro v' w1 hown hgr hnil)
    have hb : Below w.heap.size w w1 := ((Below.refl _ w).alloc (Nat.le_refl _) _).grown hgr (by simp) (fun k hk => by have e : some w.heap.size = some k := hk; injection e with e; exact Nat.le_of_eq e)
    have HO := Lib.hid hown
    have HN := Lib.hid hnil
    have HB := Lib.hid hb
    clear hown hnil hb hgr
    go_wp2
    go_ret
    refine ⟨v', by simp, by simpa using HO.out, ?_, HB.out⟩
    have : ¬ v' = .slice none 0 0 := fun h => nomatch ((HN.out.1 h).1)
    simp [this]

theorem ownsRow_base {w : World} {B B' e size n : Nat} {v : Value} {xs : List Value} (h : w.ownsRow B e size v n xs) (hB : B' ≤ B) : w.ownsRow B' e size v n xs := by
  refine ⟨h.1, ?_⟩
  rcases h.2 with hv | ⟨g, cap, cur, hv, hg, r⟩
  · exact Or.inl hv
  · exact Or.inr ⟨g, cap, cur, hv, Nat.le_trans hB hg, r⟩
theorem owns_shape {w : World} {B e size n : Nat} {v : Value} {xs : List Value} (h : w.ownsRow B e size v n xs) : ∃ a c, v = .slice a n c := by
  rcases h.2 with ⟨rfl, rfl⟩ | ⟨g, cap, cur, rfl, _⟩
  · exact ⟨_, _, rfl⟩
  · exact ⟨_, _, rfl⟩
theorem HAt.base {B B' : Nat} {w : World} {b : Nat} {A : Hp} {S : Nat → Prop} (h : HAt B w b A S) (hB : B' ≤ B) : HAt B' w b A S := by
  obtain ⟨pb, v, n, f, hr, ho, hp, hok, rfl, h1, h2⟩ := h
  exact ⟨pb, v, n, f, ⟨hr.hs, hr.lt, hr.inj, hr.ne, hr.c0, hr.c1, hr.c2, hr.c3, hr.fb, hr.pos, hr.zero, hr.fp, ownsRow_base hr.own hB, hr.vb, hr.vp, Nat.le_trans hB hr.bs, hr.pl⟩, ho, hp, hok, rfl, Nat.le_trans hB h1, Nat.le_trans hB h2⟩

theorem flat_oneCell (n : Nat) (f : Nat → Ent) : ∀ u ∈ flat n f, u.oneCell' = true := by
  intro u hu
  obtain ⟨j, _, rfl⟩ := List.mem_map.1 hu
  split <;> rfl

section
variable {B : Nat} {w : World} {b pb : Nat} {v : Value} {slots n : Nat} {f : Nat → Ent}
theorem HeapRaw.posCell (h : HeapRaw B w b pb v slots n f) : ∀ j, j < (slots + 255) / 256 * 256 → ∃ u, w.cell? ⟨pb, j, none⟩ = some u ∧ u.oneCell' = true := by
  intro j hj
  by_cases hz : ∀ k, k < n → (f k).1 ≠ j
  · exact ⟨_, h.zero j hj hz, rfl⟩
  · simp only [Classical.not_forall, Classical.not_not] at hz
    obtain ⟨k, hk, e⟩ := hz
    exact ⟨_, by rw [← e]; exact h.pos k hk, rfl⟩

set_option maxHeartbeats 1000000 in
theorem hCopy_raw (h : HeapRaw B w b pb v slots n f) :
    Calls Try.prog 48 #[.pointer (some ⟨b, 0, none⟩)] w fun e w' => ∃ b' pb' v', e = .returned (.pointer (some ⟨b', 0, none⟩)) ∧ HeapRaw w.heap.size w' b' pb' v' slots n f ∧ w.heap.size ≤ b' ∧ w.heap.size ≤ pb' ∧ Below w.heap.size w w' := by
  have c0 := h.c0
  have c1 := h.c1
  obtain ⟨m, cap, c2, hmc, hm⟩ := h.c2
  have c3 := h.c3
  have hs := h.hs
  have hns := h.n_le
  have hbl := h.b_lt
  have HCP := Lib.hid (fun (w1 : World) (hb : Below w.heap.size w w1) => hCloneP_any pb m cap w1 (by omega) (fun j hj => by
    obtain ⟨u, hu, h1⟩ := h.posCell j (by rw [← hm]; exact hj)
    exact ⟨u, (hb.cell (p := ⟨pb, j, none⟩) (World.block_lt_of_cell? w _ hu)).trans hu, h1⟩))
  have HCL := Lib.hid (fun (w1 : World) (hb : Below w.heap.size w w1) => hCloneL_any B v n (flat n f) w1 (by omega) ((h.below hb).own) (flat_oneCell n f))
  have HH := Lib.hid h
  have HM := Lib.hid hm
  have HB0 := Lib.hid ((Below.refl w.heap.size w).drew)
  clear h hm
  go_enter Try.func48, Try.ntmps48
  go_wp2
  go_region_held3 (fun w' => w'.cell? ⟨b, 1, none⟩ = some (.int .i64 slots) ∧ w'.cell? ⟨b, 2, none⟩ = some (.slice (some ⟨pb, 0, none⟩) m cap) ∧ w'.cell? ⟨b, 3, none⟩ = some v) (go_keep)
    (first
      | (go_at_call 83; refine (HCP.out _ HB0.out).mono ?_; rintro e w1 ⟨g, c, rfl, q⟩; have hb1 := HB0.out.trans q.2.2.2.2.2; have k1 := (hb1.cell (p := ⟨b, 1, none⟩) hbl).trans c1; have k2 := (hb1.cell (p := ⟨b, 2, none⟩) hbl).trans c2; have k3 := (hb1.cell (p := ⟨b, 3, none⟩) hbl).trans c3; have HQ := Lib.hid (And.intro q hb1); clear q hb1)
      | (go_at_call 72; refine (HCL.out _ HQ.out.2).mono ?_; rintro e w2 ⟨v', rfl, q⟩; obtain ⟨a', c', rfl⟩ := owns_shape q.1; have hb2 := HQ.out.2.trans (q.2.2.mono HQ.out.2.size); have k1 := (hb2.cell (p := ⟨b, 1, none⟩) hbl).trans c1; have k2 := (hb2.cell (p := ⟨b, 2, none⟩) hbl).trans c2; have k3 := (hb2.cell (p := ⟨b, 3, none⟩) hbl).trans c3; have HQ2 := Lib.hid (And.intro q hb2); clear q hb2))
  go_wp2
  go_ret
  obtain ⟨⟨q1, q2, q3, q4, q5, q6⟩, hb1⟩ := HQ.out
  obtain ⟨⟨r1, _, r3⟩, hb2⟩ := HQ2.out
  have h := HH.out
  have hm := HM.out
  have hz1 := hb1.size
  have hz2 := r3.size
  have q2' : w.heap.size ≤ g := q2
  have hgc : ∀ j, j < m * 256 → w2.cell? ⟨g, j, none⟩ = w.cell? ⟨pb, j, none⟩ := fun j hj => (r3.cell (p := ⟨g, j, none⟩) q3).trans (q4 j hj)
  have hgf : ∀ o, w2.frozen? ⟨g, o, none⟩ = false := fun o => (r3.frozen (p := ⟨g, o, none⟩) q3).trans (q5 o)
  refine ⟨w2.heap.size, g, _, by simp, ⟨h.hs, h.lt, h.inj, by omega, by simp, by simp, ⟨m, c, by simp, q1, hm⟩, by simp, fun o => by simp, ?_, ?_, ?_, (ownsRow_base r1 hz1).alloc _, ?_, ?_, by simp; omega, by simp; omega⟩, by omega, q2', hb2.alloc (by omega) _⟩
  · intro k hk
    have := h.lt k hk
    rw [World.cell?_alloc_past _ _ _ (show g < w2.heap.size by omega), hgc _ (by omega)]
    exact h.pos k hk
  · intro i hi hz
    have hi' : i < m * 256 := by rw [hm]; exact hi
    rw [World.cell?_alloc_past _ _ _ (show g < w2.heap.size by omega), hgc i hi']
    exact h.zero i hi hz
  · intro o
    rw [World.frozen?_alloc_past _ _ _ (show g < w2.heap.size by omega)]
    exact hgf o
  · intro e
    have := (r1.lt _ e).2; omega
  · intro e
    have := (r1.lt _ e).1; omega

theorem hCopy_at {b : Nat} {A : Hp} {S : Nat → Prop} (h : HAt B w b A S) :
    Calls Try.prog 48 #[.pointer (some ⟨b, 0, none⟩)] w fun e w' => ∃ b' S', e = .returned (.pointer (some ⟨b', 0, none⟩)) ∧ HAt w.heap.size w' b' A S' ∧ Below w.heap.size w w' := by
  obtain ⟨pb, v, n, f, hr, ho, hp, hok, rfl, h1, h2⟩ := h
  refine (hCopy_raw hr).mono ?_
  rintro e w' ⟨b', pb', v', rfl, hr', hb1, hb2, hb⟩
  exact ⟨b', _, rfl, ⟨pb', v', n, f, hr', ho, hp, hok, rfl, hb1, hb2⟩, hb⟩
/-- A copy of a heap that a law has made: in new blocks. -/
theorem HIn.copy {w0 : World} {b : Nat} {A : Hp} {S : Nat → Prop} (h : HIn w0 w b A S) :
    Calls Try.prog 48 #[.pointer (some ⟨b, 0, none⟩)] w fun e w' => ∃ b' S', e = .returned (.pointer (some ⟨b', 0, none⟩)) ∧ HIn w0 w' b' A S' ∧ (∀ k, S' k → w.heap.size ≤ k) ∧ Below w.heap.size w w' :=
  (hCopy_at h.1).mono fun _ _ ⟨b', S', h1, h2, h3⟩ => ⟨b', S', h1, ⟨h2.base h.2.size, h.2.trans (h3.mono h.2.size)⟩, fun k hk => (h2.foot hk).1, h3⟩
end
end Go.Proofs.Ytmlbacbcdjfioaa
