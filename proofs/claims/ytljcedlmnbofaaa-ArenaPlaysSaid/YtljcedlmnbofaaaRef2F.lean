/- Ref2F: the document's arena: Copy. -/
import Derived.Test.YtljcedlmnbofaaaRef2E
namespace Go.Proofs.Ytljcedlmnbofaaa
open Go.ChangeShapes Go.WideShapes Go.ChangeAt Go.RowKit

/-- A row of one-cell elements that is owned, appended to nil in a world in which it still lies. -/
theorem copy_row {P : Program} {B : Nat} {w W : World} (t ty e : TypeId) {z : Value} {bytes : Nat} (hinfo : (P.info? e).map (fun i => (i.zero, i.size, i.bytes)) = some (some z, 1, bytes)) (ht : P.underlying t = some (.slice e)) (hz : z.cells.size = 1)
    {v : Value} {n : Nat} {xs : List Value} (h : w.ownsRow B e 1 v n xs) (hk : ∀ k, v.ownBlock = some k → W.heap[k]? = w.heap[k]?) (h1 : ∀ u ∈ xs, u.oneCell' = true) (hn : n ≤ 65536) (hb : n * bytes ≤ 140737488355328) :
    ∃ a c W', (Builtin.append_ #[t, t] ty #[.slice none 0 0, v]).run P W = .ok (.slice a n c) W' ∧ W'.ownsRow W.heap.size e 1 (.slice a n c) n xs ∧ W.grownBy W' none ∧ ((Value.slice a n c).ownBlock = none ∨ (Value.slice a n c).ownBlock = some W.heap.size) := by
  have h' := owns_same h hk
  have hx : ∃ ao c, v = .slice ao n c ∧ (ao = none → n = 0 ∧ c = 0) ∧ (∀ a, ao = some a → ∀ j u, xs[j]? = some u → W.cell? (a.add j) = some u) := by
    rcases h'.2 with ⟨rfl, rfl⟩ | ⟨g, cap, cur, rfl, _⟩
    · exact ⟨none, 0, rfl, fun _ => ⟨rfl, rfl⟩, fun a ha => by cases ha⟩
    · refine ⟨some ⟨g, 0, none⟩, cap, rfl, (by intro e; cases e), ?_⟩
      intro a ha j u hu
      obtain rfl := Option.some.inj ha
      exact h'.cells rfl j u hu
  obtain ⟨ao, c, rfl, hnone, hcells⟩ := hx
  obtain ⟨v', W', hr, ho, hg, hp⟩ := run_append_any (P := P) W W.heap.size t ty e z 1 bytes ht hinfo hz (by decide) (.slice none 0 0) 0 [] (World.ownsRow_nil W W.heap.size e 1) ao n c hnone xs h.1 hcells h1 (by unfold maxLen; omega) (by rw [Nat.zero_add]; exact hb) (Nat.le_refl _)
  simp only [Nat.zero_add, List.nil_append] at ho
  obtain ⟨a, c', rfl, _, _⟩ := owns_shape ho
  exact ⟨a, c', W', hr, ho, hg, hp⟩

theorem oneCell_bools (f : Nat → Bool) (n : Nat) : ∀ u ∈ bools f n, u.oneCell' = true := by
  intro u hu
  obtain ⟨_, _, rfl⟩ := List.mem_map.1 hu
  rfl
theorem oneCell_u64s (f : Nat → Nat) (n : Nat) : ∀ u ∈ u64s f n, u.oneCell' = true := by
  intro u hu
  obtain ⟨_, _, rfl⟩ := List.mem_map.1 hu
  rfl
theorem oneCell_ints (l : List Nat) : ∀ u ∈ ints l, u.oneCell' = true := by
  intro u hu
  obtain ⟨_, _, rfl⟩ := List.mem_map.1 hu
  rfl

section
variable {B : Nat} {w : World} {b : Nat} {vi vc vr : Value} {A : Ar}

set_option maxHeartbeats 1000000 in
theorem rCopy_any (h : RefAt B w b vi vc vr A) :
    Calls Try.prog 30 #[.pointer (some ⟨b, 0, none⟩)] w fun e w' => ∃ b' vi' vc' vr', e = .returned (.pointer (some ⟨b', 0, none⟩)) ∧ RefAt w.heap.size w' b' vi' vc' vr' A ∧ Below w.heap.size w w' := by
  have HV := Lib.hid (rValid_any h)
  have c1 := h.c1
  have c2 := h.c2
  have c3 := h.c3
  have c4 := h.c4
  have hs := h.ok.slots
  have hlen := h.ok.len
  have hfs := h.ok.fresh
  have hbl : b < w.heap.size := World.block_lt_of_cell? w ⟨b, 0, none⟩ h.c0
  obtain ⟨W0, hW0⟩ : ∃ W0, W0 = w.alloc (.cells #[.bool true, .int .i64 A.slots, .slice none 0 0, .slice none 0 0, .slice none 0 0] 72) := ⟨_, rfl⟩
  have b0 : Below w.heap.size w W0 := by rw [hW0]; exact (Below.refl _ w).alloc (Nat.le_refl _) _
  have s0 : W0.heap.size = w.heap.size + 1 := by rw [hW0]; simp
  obtain ⟨a1, n1, W1, r1, o1, g1, p1⟩ := copy_row (P := Try.prog) (W := W0.drew) 65 65 4 infoBool Try.underlying65 rfl h.oi (fun k hk => b0.block k (h.oi.lt k hk).2) (oneCell_bools _ _) hs (by omega)
  have b1 : Below w.heap.size w (W1.setCell ⟨w.heap.size, 2, none⟩ (.slice a1 A.slots n1)) := ((b0.drew).grown g1 (by simp; omega) (by simp)).setCell (Nat.le_refl _) _
  have s1 := g1.size
  obtain ⟨a2, n2, W2, r2, o2, g2, p2⟩ := copy_row (P := Try.prog) (W := (W1.setCell ⟨w.heap.size, 2, none⟩ (.slice a1 A.slots n1)).drew) 70 70 40 infoU64 Try.underlying70 rfl h.oc (fun k hk => b1.block k (h.oc.lt k hk).2) (oneCell_u64s _ _) hs (by omega)
  have b2 : Below w.heap.size w (W2.setCell ⟨w.heap.size, 3, none⟩ (.slice a2 A.slots n2)) := ((b1.drew).grown g2 (by simp at s1 ⊢; omega) (by simp)).setCell (Nat.le_refl _) _
  have s2 := g2.size
  obtain ⟨a3, n3, W3, r3, o3, g3, p3⟩ := copy_row (P := Try.prog) (W := (W2.setCell ⟨w.heap.size, 3, none⟩ (.slice a2 A.slots n2)).drew) 32 32 3 infoInt Try.underlying32 rfl h.ox (fun k hk => b2.block k (h.ox.lt k hk).2) (oneCell_ints _) (by omega) (by omega)
  have s3 := g3.size
  obtain ⟨b', hb'⟩ : ∃ b', b' = w.heap.size := ⟨_, rfl⟩
  have hne : b ≠ b' := by omega
  have cb : ∀ o, W0.cell? ⟨b', o, none⟩ = #[.bool true, .int .i64 (A.slots : Int), .slice none 0 0, .slice none 0 0, .slice none 0 0][o]? := fun o => by rw [hW0, hb']; exact World.cell?_alloc_at _ _ _ _ rfl
  have fb : ∀ o, W0.frozen? ⟨b', o, none⟩ = false := fun o => by rw [hW0, hb']; exact World.frozen?_alloc_at _ _ _ _ rfl
  rw [← hb'] at r2 o2 g2 p2 s2 b1 b2 r3 o3 g3 p3 s3
  have k1 : ∀ k, k < W0.heap.size → W1.heap[k]? = W0.heap[k]? := fun k hk => g1.block k hk (by simp)
  have k2 : ∀ k, k < W1.heap.size → k ≠ b' → W2.heap[k]? = W1.heap[k]? := fun k hk e => (g2.block k (by simpa using hk) (by simp)).trans (Below.heap_setCell _ _ _ _ e)
  have k3 : ∀ k, k < W2.heap.size → k ≠ b' → W3.heap[k]? = W2.heap[k]? := fun k hk e => (g3.block k (by simpa using hk) (by simp)).trans (Below.heap_setCell _ _ _ _ e)
  simp only [World.size_drew, World.size_setCell] at s1 s2 s3 o1 o2 o3 p1 p2 p3
  have cb1 : ∀ o, W1.cell? ⟨b', o, none⟩ = W0.cell? ⟨b', o, none⟩ := fun o => World.cell?_of_block (w := W0) (k1 b' (by omega))
  have fb1 : ∀ o, W1.frozen? ⟨b', o, none⟩ = false := fun o => (World.frozen?_of_block (w := W0) (a := ⟨b', o, none⟩) (k1 b' (by omega))).trans (fb o)
  have cb2 : ∀ o, W2.cell? ⟨b', o, none⟩ = (W1.setCell ⟨b', 2, none⟩ (.slice a1 A.slots n1)).cell? ⟨b', o, none⟩ := fun o => World.cell?_of_block (w := (W1.setCell ⟨b', 2, none⟩ (.slice a1 A.slots n1)).drew) (g2.block b' (by simp; omega) (by simp))
  have fb2 : ∀ o, W2.frozen? ⟨b', o, none⟩ = false := fun o => (World.frozen?_of_block (w := (W1.setCell ⟨b', 2, none⟩ (.slice a1 A.slots n1)).drew) (a := ⟨b', o, none⟩) (g2.block b' (by simp; omega) (by simp))).trans ((frozen_set _ _ _ _).trans (fb1 o))
  have cb3 : ∀ o, W3.cell? ⟨b', o, none⟩ = (W2.setCell ⟨b', 3, none⟩ (.slice a2 A.slots n2)).cell? ⟨b', o, none⟩ := fun o => World.cell?_of_block (w := (W2.setCell ⟨b', 3, none⟩ (.slice a2 A.slots n2)).drew) (g3.block b' (by simp; omega) (by simp))
  have fb3 : ∀ o, W3.frozen? ⟨b', o, none⟩ = false := fun o => (World.frozen?_of_block (w := (W2.setCell ⟨b', 3, none⟩ (.slice a2 A.slots n2)).drew) (a := ⟨b', o, none⟩) (g3.block b' (by simp; omega) (by simp))).trans ((frozen_set _ _ _ _).trans (fb2 o))
  have e12 : W1.cell? ⟨b', 2, none⟩ = some (.slice none 0 0) := by rw [cb1, cb]; rfl
  have e13 : W1.cell? ⟨b', 3, none⟩ = some (.slice none 0 0) := by rw [cb1, cb]; rfl
  have e14 : W1.cell? ⟨b', 4, none⟩ = some (.slice none 0 0) := by rw [cb1, cb]; rfl
  have e23 : W2.cell? ⟨b', 3, none⟩ = some (.slice none 0 0) := by rw [cb2, World.cell?_setCell_other _ _ _ _ (by simp)]; exact e13
  have e24 : W2.cell? ⟨b', 4, none⟩ = some (.slice none 0 0) := by rw [cb2, World.cell?_setCell_other _ _ _ _ (by simp)]; exact e14
  have e34 : W3.cell? ⟨b', 4, none⟩ = some (.slice none 0 0) := by rw [cb3, World.cell?_setCell_other _ _ _ _ (by simp)]; exact e24
  have a02 : W0.cell? ⟨b, 2, none⟩ = some vi := (b0.cell (p := ⟨b, 2, none⟩) hbl).trans c2
  have a13 : W1.cell? ⟨b, 3, none⟩ = some vc := (World.cell?_of_block (w := W0) (a := ⟨b, 3, none⟩) (k1 b (by omega))).trans ((b0.cell (p := ⟨b, 3, none⟩) hbl).trans c3)
  have a24 : W2.cell? ⟨b, 4, none⟩ = some vr := (World.cell?_of_block (w := W1) (a := ⟨b, 4, none⟩) (k2 b (by omega) hne)).trans ((World.cell?_of_block (w := W0) (a := ⟨b, 4, none⟩) (k1 b (by omega))).trans ((b0.cell (p := ⟨b, 4, none⟩) hbl).trans c4))
  have e02 : W0.cell? ⟨b', 2, none⟩ = some (.slice none 0 0) := by rw [cb]; rfl
  have f12 := fb1 2
  have f23 := fb2 3
  have f34 := fb3 4
  obtain ⟨_, _, rfl, _, _⟩ := owns_shape h.oi
  obtain ⟨_, _, rfl, _, _⟩ := owns_shape h.oc
  obtain ⟨_, _, rfl, _, _⟩ := owns_shape h.ox
  have HK := Lib.hid (And.intro k1 (And.intro k2 k3))
  have HO := Lib.hid (And.intro o1 (And.intro o2 o3))
  have HP := Lib.hid (And.intro p1 (And.intro p2 p3))
  have HC := Lib.hid (And.intro cb (And.intro cb1 (And.intro cb2 (And.intro cb3 fb3))))
  have HB := Lib.hid (And.intro b2 g3)
  have HS := Lib.hid (And.intro s0 (And.intro s1 (And.intro s2 (And.intro s3 hb'))))
  have HOK := Lib.hid h.ok
  clear h k1 k2 k3 o1 o2 o3 p1 p2 p3 cb fb cb1 fb1 cb2 fb2 cb3 fb3 b0 b1 b2 g1 g2 g3 s0 s1 s2 s3
  go_enter Try.func30, Try.ntmps30
  go_wp2_with (go_at_call 39; refine HV.out.mono ?_; rintro e w' ⟨rfl, rfl⟩)
  rw [← hW0, ← hb']
  clear hW0 hb'
  go_region_law (refine step_append_eq rfl (.tmp 17) (.tmp 21) 65 rfl rfl rfl r1 ?_)
  go_wp2
  all_goals go_region_law (refine step_append_eq rfl (.tmp 29) (.tmp 33) 70 rfl rfl rfl r2 ?_)
  all_goals go_wp2
  all_goals go_region_law (refine step_append_eq rfl (.tmp 41) (.tmp 45) 32 rfl rfl rfl r3 ?_)
  all_goals go_wp2
  all_goals go_ret
  all_goals
    obtain ⟨k1, k2, k3⟩ := HK.out
    obtain ⟨o1, o2, o3⟩ := HO.out
    obtain ⟨p1, p2, p3⟩ := HP.out
    obtain ⟨cb, cb1, cb2, cb3, fb3⟩ := HC.out
    obtain ⟨b2, g3⟩ := HB.out
    obtain ⟨s0, s1, s2, s3, hb'⟩ := HS.out
    have q1 : ∀ k, (Value.slice a1 A.slots n1).ownBlock = some k → k = W0.heap.size ∧ k < W1.heap.size := fun k hk => by
      have h1 := (o1.lt k hk).2
      rcases p1 with e | e
      · rw [e] at hk; cases hk
      · rw [e] at hk; simp only [Option.some.injEq] at hk; omega
    have q2 : ∀ k, (Value.slice a2 A.slots n2).ownBlock = some k → k = W1.heap.size ∧ k < W2.heap.size := fun k hk => by
      have h1 := (o2.lt k hk).2
      rcases p2 with e | e
      · rw [e] at hk; cases hk
      · rw [e] at hk; simp only [Option.some.injEq] at hk; omega
    have q3 : ∀ k, (Value.slice a3 A.stack.length n3).ownBlock = some k → k = W2.heap.size ∧ k < W3.heap.size := fun k hk => by
      have h1 := (o3.lt k hk).2
      rcases p3 with e | e
      · rw [e] at hk; cases hk
      · rw [e] at hk; simp only [Option.some.injEq] at hk; omega
    have base : ∀ {e n : Nat} {v : Value} {xs : List Value} {W : World} {B' : Nat}, w.heap.size ≤ B' → W.ownsRow B' e 1 v n xs → W.ownsRow w.heap.size e 1 v n xs := fun hB h => ⟨h.1, by
      rcases h.2 with hv | ⟨g, cap, cur, hv, hg, r⟩
      · exact Or.inl hv
      · exact Or.inr ⟨g, cap, cur, hv, by omega, r⟩⟩
    have R : RefAt w.heap.size (W3.setCell ⟨b', 4, none⟩ (.slice a3 A.stack.length n3)) b' (.slice a1 A.slots n1) (.slice a2 A.slots n2) (.slice a3 A.stack.length n3) A := by
      refine ⟨HOK.out, by omega, ?_, ?_, ?_, ?_, ?_, ?_, ?_, ?_, ?_, ?_, ?_, ?_, ?_, ?_, ?_⟩
      · simp [cell_set, cb3, cb2, cb1, cb]
      · simp [cell_set, cb3, cb2, cb1, cb]
      · simp [cell_set, cb3, cb2, cb1, cb]
      · simp [cell_set, cb3, cb2, cb1, cb]
      · simp [cell_set, cb3, cb2, cb1, cb]
      · intro o; rw [frozen_set]; exact fb3 o
      · refine owns_set_other (owns_same (base (by omega) o1) fun k hk => ?_) (fun e => by have := q1 b' e; omega) _
        have := q1 k hk
        rw [k3 k (by omega) (by omega), k2 k (by omega) (by omega)]
      · refine owns_set_other (owns_same (base (by omega) o2) fun k hk => ?_) (fun e => by have := q2 b' e; omega) _
        have := q2 k hk
        rw [k3 k (by omega) (by omega)]
      · exact owns_set_other (base (by omega) o3) (fun e => by have := q3 b' e; omega) _
      · intro e; have := q1 b' e; omega
      · intro e; have := q2 b' e; omega
      · intro e; have := q3 b' e; omega
      · intro k hk e; have := q1 k hk; have := q2 k e; omega
      · intro k hk e; have := q1 k hk; have := q3 k e; omega
      · intro k hk e; have := q2 k hk; have := q3 k e; omega
    have BB : Below w.heap.size w (W3.setCell ⟨b', 4, none⟩ (.slice a3 A.stack.length n3)) := ((((by rw [← hb'] ; exact b2 : Below w.heap.size w (W2.setCell ⟨b', 3, none⟩ (.slice a2 A.slots n2)))).drew).grown g3 (by simp; omega) (by simp)).setCell (Nat.le_of_eq hb'.symm) _
    exact ⟨b', _, _, _, by simp, R.same fun _ _ => rfl, ⟨BB.os, BB.tape, BB.output, BB.size, BB.block⟩⟩
end
end Go.Proofs.Ytljcedlmnbofaaa
