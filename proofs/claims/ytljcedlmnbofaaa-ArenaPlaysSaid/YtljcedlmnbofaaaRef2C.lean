/- Ref2C: the document's arena: New. -/
import Derived.Test.YtljcedlmnbofaaaRef2B
import Derived.Test.YtljcedlmnbofaaaL2Play
namespace Go.Proofs.Ytljcedlmnbofaaa
open Go.ChangeShapes Go.WideShapes Go.ChangeAt Go.RowKit

/-- A make of n one-cell elements, as an equation for the walk. -/
theorem make_eq {P : Program} (t e : TypeId) {z : Value} {bytes : Nat} (hinfo : (P.info? e).map (fun i => (i.zero, i.size, i.bytes)) = some (some z, 1, bytes)) (ht : P.underlying t = some (.slice e)) (hz : z.cells = #[z])
    (n : Nat) (hb : bytes * n ≤ 281474976710656) (hm : n ≤ 9223372036854775807) (w : World) :
    (Instr.makeSlice t (.int .i64 n) (.int .i64 n)).run P w = .ok (.slice (some ⟨w.heap.size, 0, none⟩) n n) (w.alloc (.cells (madeCells #[z] n) e)) := by
  obtain ⟨i0, hi, hz0, hz1, hz2⟩ := info_parts hinfo
  have := run_make (P := P) w t e i0 z ht hi hz0 .i64 .i64 n n (by omega) (by omega) (by rw [hz2]; omega) (by omega)
  rw [hz1, hz] at this
  simpa using this

theorem rNew_bad (n : Int) (w : World) (h : n < 0 ∨ 65536 < n) :
    Calls Try.prog 22 #[.int .i64 n] w fun e w' => e = .returned (.tuple #[.pointer none, .int .i64 2]) ∧ w = w' := by
  go_enter Try.func22, Try.ntmps22
  go_wp2
  all_goals go_ret2
  all_goals exact ⟨by simp, rfl⟩

theorem rNew_post {w : World} (n : Nat) (h : n ≤ 65536) (w2 : World) (gi gc : Nat) (hgi : w.heap.size ≤ gi) (hgc : w.heap.size ≤ gc) (hne : gi ≠ gc)
    (hi : w2.heap[gi]? = some (.cells (madeCells #[.bool false] n) 4)) (hc : w2.heap[gc]? = some (.cells (madeCells #[.int .u64 0] n) 40)) (hb : Below w.heap.size w w2) :
    let w3 := w2.alloc (.cells #[.bool true, .int .i64 n, .slice (some ⟨gi, 0, none⟩) n n, .slice (some ⟨gc, 0, none⟩) n n, .slice none 0 0] 72)
    RefAt w.heap.size w3 w2.heap.size (.slice (some ⟨gi, 0, none⟩) n n) (.slice (some ⟨gc, 0, none⟩) n n) (.slice none 0 0) (Ar.new n) ∧ Below w.heap.size w w3 := by
  intro w3
  have hil := (Array.getElem?_eq_some_iff.1 hi).1
  have hcl := (Array.getElem?_eq_some_iff.1 hc).1
  have row : ∀ (g : Nat) (e : TypeId) (z : Value) (xs : List Value), w.heap.size ≤ g → g < w2.heap.size → w2.heap[g]? = some (.cells (madeCells #[z] n) e) → xs = List.replicate n z →
      w3.ownsRow w.heap.size e 1 (.slice (some ⟨g, 0, none⟩) n n) n xs := by
    intro g e z xs h1 h2 h3 h5
    refine ⟨by rw [h5]; simp, Or.inr ⟨g, n, _, rfl, h1, by rw [show w3.heap[g]? = w2.heap[g]? from Below.heap_alloc _ _ _ h2]; exact h3, Nat.le_refl _, by unfold maxLen; omega, by rw [size_madeCells, Nat.mul_one], ?_⟩⟩
    rw [toList_madeCells_one, h5]
    simp
  refine ⟨⟨⟨Nat.zero_le _, h, by simp [Ar.new], by simp [Ar.new]⟩, hb.size, by simp [w3], by simp [w3, Ar.new], by simp [w3], by simp [w3], by simp [w3], fun o => by simp [w3],
    row gi _ _ _ hgi hil hi ?_, row gc _ _ _ hgc hcl hc ?_, by simpa [Ar.new, ints] using World.ownsRow_nil w3 w.heap.size 3 1, by simp [Value.ownBlock]; omega, by simp [Value.ownBlock]; omega, by simp [Value.ownBlock], ?_, by simp [Value.ownBlock], by simp [Value.ownBlock]⟩, hb.alloc hb.size _⟩
  · apply List.ext_getElem?
    intro i
    by_cases hi : i < n
    · simp [bools, Ar.new, Ar.used, hi]
    · simp [bools, Ar.new, hi]
  · apply List.ext_getElem?
    intro i
    by_cases hi : i < n
    · simp [u64s, Ar.new, hi]
    · simp [u64s, Ar.new, hi]
  · intro k hk
    simp [Value.ownBlock] at hk ⊢
    omega

set_option maxHeartbeats 1000000 in
theorem rNew_ok (n : Nat) (w : World) (h : n ≤ 65536) :
    Calls Try.prog 22 #[.int .i64 n] w fun e w' => ∃ b vi vc vr, e = .returned (.tuple #[.pointer (some ⟨b, 0, none⟩), .int .i64 0]) ∧ RefAt w.heap.size w' b vi vc vr (Ar.new n) ∧ Below w.heap.size w w' := by
  have hm1 := make_eq 65 4 infoBool Try.underlying65 rfl n (by omega) (by omega)
  have hm2 := make_eq 70 40 infoU64 Try.underlying70 rfl n (by omega) (by omega)
  go_enter Try.func22, Try.ntmps22
  go_wp2
  go_region
  all_goals
    clear hm1 hm2
    go_wp2
    go_ret2
  · obtain ⟨h1, h2⟩ := rNew_post n h ((w.alloc (.cells (madeCells #[.bool false] n) 4)).alloc (.cells (madeCells #[.int .u64 0] n) 40)) w.heap.size (w.heap.size + 1) (Nat.le_refl _) (by omega) (by omega)
      (by rw [Below.heap_alloc _ _ _ (by simp)]; exact heap_alloc_new w _) (by simpa using heap_alloc_new (w.alloc _) _) (((Below.refl _ w).alloc (Nat.le_refl _) _).alloc (by simp) _)
    exact ⟨_, _, _, _, by simp, h1.same fun _ _ => rfl, h2.drew⟩
  · obtain ⟨h1, h2⟩ := rNew_post n h ((w.alloc (.cells (madeCells #[.int .u64 0] n) 40)).alloc (.cells (madeCells #[.bool false] n) 4)) (w.heap.size + 1) w.heap.size (by omega) (Nat.le_refl _) (by omega)
      (by simpa using heap_alloc_new (w.alloc _) _) (by rw [Below.heap_alloc _ _ _ (by simp)]; exact heap_alloc_new w _) (((Below.refl _ w).alloc (Nat.le_refl _) _).alloc (by simp) _)
    exact ⟨_, _, _, _, by simp, h1.same fun _ _ => rfl, h2.drew⟩
end Go.Proofs.Ytljcedlmnbofaaa
