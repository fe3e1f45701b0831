/- HeapN: layer 4: heaps that are nil, or were not made by New. -/
import Derived.Test.YtmlbacbcdjfioaaHeapF
import Derived.Test.YtmlbacbcdjfioaaRes
set_option linter.unusedSimpArgs false
set_option linter.unusedVariables false
namespace Go.Proofs.Ytmlbacbcdjfioaa
open Go.ChangeShapes Go.WideShapes Go.ChangeAt Go.RowKit

/-- A heap that is nil, or was not made by New. -/
def NoHeap (w : World) (p : Option Addr) : Prop := p = none ∨ ∃ b, p = some ⟨b, 0, none⟩ ∧ w.heap[b]? = some (.cells #[.bool false, .int .i64 0, .slice none 0 0, .slice none 0 0] 90 (0, 0))
theorem row_four {w : World} {g : Nat} {a b c d : Value} {t : TypeId} (h : w.heap[g]? = some (.cells #[a, b, c, d] t (0, 0))) :
    w.cell? ⟨g, 0, none⟩ = some a ∧ w.cell? ⟨g, 1, none⟩ = some b ∧ w.cell? ⟨g, 2, none⟩ = some c ∧ w.cell? ⟨g, 3, none⟩ = some d ∧ g < w.heap.size :=
  ⟨by rw [cell_of_row w g 0 _ _ _ h]; rfl, by rw [cell_of_row w g 1 _ _ _ h]; rfl, by rw [cell_of_row w g 2 _ _ _ h]; rfl, by rw [cell_of_row w g 3 _ _ _ h]; rfl, (Array.getElem?_eq_some_iff.1 h).1⟩
theorem NoHeap.below {w w' : World} {p : Option Addr} (h : NoHeap w p) (hb : Below w.heap.size w w') : NoHeap w' p := by
  rcases h with h | ⟨b, h0, h1⟩
  · exact Or.inl h
  · exact Or.inr ⟨b, h0, (hb.block b (Array.getElem?_eq_some_iff.1 h1).1).trans h1⟩

set_option maxHeartbeats 1000000
section
variable {w : World} {p : Option Addr}
theorem xhLen (h : NoHeap w p) : Calls Try.prog 24 #[.pointer p] w fun r w' => r = .returned (.int .i64 0) ∧ w = w' := by
  rcases h with rfl | ⟨b, rfl, hr⟩
  · go_enter Try.func24, Try.ntmps24
    go_wp2
    go_ret
    exact ⟨by simp, rfl⟩
  · obtain ⟨c0, c1, c2, c3, hg⟩ := row_four hr
    clear hr
    go_enter Try.func24, Try.ntmps24
    go_wp2
    go_ret
    exact ⟨by simp, rfl⟩
theorem xhCheck (h : NoHeap w p) (i : Int) : Calls Try.prog 76 #[.pointer p, .int .i64 i] w fun r w' => r = .returned (.tuple #[.int .i64 0, .int .i64 1]) ∧ w = w' := by
  rcases h with rfl | ⟨b, rfl, hr⟩
  · go_enter Try.func76, Try.ntmps76
    go_wp2
    go_ret2
    exact ⟨by simp, rfl⟩
  · obtain ⟨c0, c1, c2, c3, hg⟩ := row_four hr
    clear hr
    go_enter Try.func76, Try.ntmps76
    go_wp2
    go_ret2
    exact ⟨by simp, rfl⟩
theorem xhCopy (h : NoHeap w p) : Calls Try.prog 48 #[.pointer p] w fun r w' => r = .returned (.pointer none) ∧ w = w' := by
  rcases h with rfl | ⟨b, rfl, hr⟩
  · go_enter Try.func48, Try.ntmps48
    go_wp2
    go_ret
    exact ⟨by simp, rfl⟩
  · obtain ⟨c0, c1, c2, c3, hg⟩ := row_four hr
    clear hr
    go_enter Try.func48, Try.ntmps48
    go_wp2
    go_ret
    exact ⟨by simp, rfl⟩
theorem xhPush (h : NoHeap w p) (i x : Int) : Calls Try.prog 50 #[.pointer p, .int .i64 i, .int .i64 x] w fun r w' => r = .returned (.int .i64 1) ∧ w = w' := by
  have HC := Lib.hid (xhCheck h i)
  clear h
  go_enter Try.func50, Try.ntmps50
  go_wp2_with (go_at_call 76; refine HC.out.mono ?_; rintro r wz ⟨rfl, rfl⟩)
  go_ret
  exact ⟨by simp, rfl⟩
theorem xhChange (h : NoHeap w p) (i x : Int) : Calls Try.prog 49 #[.pointer p, .int .i64 i, .int .i64 x] w fun r w' => r = .returned (.int .i64 1) ∧ w = w' := by
  have HC := Lib.hid (xhCheck h i)
  clear h
  go_enter Try.func49, Try.ntmps49
  go_wp2_with (go_at_call 76; refine HC.out.mono ?_; rintro r wz ⟨rfl, rfl⟩)
  go_ret
  exact ⟨by simp, rfl⟩
theorem xhRemove (h : NoHeap w p) (i : Int) : Calls Try.prog 44 #[.pointer p, .int .i64 i] w fun r w' => r = .returned (.int .i64 1) ∧ w = w' := by
  have HC := Lib.hid (xhCheck h i)
  clear h
  go_enter Try.func44, Try.ntmps44
  go_wp2_with (go_at_call 76; refine HC.out.mono ?_; rintro r wz ⟨rfl, rfl⟩)
  go_ret
  exact ⟨by simp, rfl⟩
theorem xhKey (h : NoHeap w p) (i : Int) : Calls Try.prog 51 #[.pointer p, .int .i64 i] w fun r w' => r = .returned (.tuple #[.int .i64 0, .bool false]) ∧ w = w' := by
  have HC := Lib.hid (xhCheck h i)
  clear h
  go_enter Try.func51, Try.ntmps51
  go_wp2_with (go_at_call 76; refine HC.out.mono ?_; rintro r wz ⟨rfl, rfl⟩)
  go_ret2
  exact ⟨by simp, rfl⟩
theorem xhMin (h : NoHeap w p) : Calls Try.prog 57 #[.pointer p] w fun r w' => r = .returned (.tuple #[.agg #[.int .i64 0, .int .i64 0], .bool false]) ∧ Below w.heap.size w w' := by
  have HC := Lib.hid (fun o => xhLen (h.below ((Below.refl _ _).alloc (Nat.le_refl _) o)))
  clear h
  go_enter Try.func57, Try.ntmps57
  go_wp2_with (go_at_call 24; refine (HC.out _).mono ?_; rintro r wz ⟨rfl, rfl⟩)
  refine bodyPost_ret (results_2 rfl (.row (by rfl) (heap_alloc_new _ _) Try.underlying28 rfl (by kernel_rfl)) (.tmp 3 rfl)) rfl ?_
  exact ⟨rfl, (Below.refl _ _).alloc (Nat.le_refl _) _⟩
theorem xhPop (h : NoHeap w p) : Calls Try.prog 23 #[.pointer p] w fun r w' => r = .returned (.tuple #[.agg #[.int .i64 0, .int .i64 0], .bool false]) ∧ Below w.heap.size w w' := by
  have HC := Lib.hid (fun o => xhMin (h.below ((Below.refl _ _).alloc (Nat.le_refl _) o)))
  clear h
  go_enter Try.func23, Try.ntmps23
  go_wp2_with (go_at_call 57; refine (HC.out _).mono ?_; rintro r w1 ⟨rfl, hb⟩; have k0 := (hb.block w.heap.size (by simp)).trans (heap_alloc_new _ _); obtain ⟨q0, q1, qf, hq⟩ := row_two k0; have HB := Lib.hid (And.intro hb k0); clear hb k0)
  obtain ⟨hb, k0⟩ := HB.out
  have n1 := row_two_set k0 (.int .i64 0) (.int .i64 0)
  have hb2 : Below w.heap.size w w1 := ((Below.refl _ w).alloc (Nat.le_refl _) _).trans (hb.mono (by simp))
  have hb3 := ((hb2.setCell (p := ⟨w.heap.size, 0, none⟩) (Nat.le_refl _) (.int .i64 0)).setCell (p := ⟨w.heap.size, 1, none⟩) (Nat.le_refl _) (.int .i64 0))
  refine bodyPost_ret (results_2 rfl (.row (by rfl) ((heap_alloc_old _ _ (by simpa using hq)).trans n1) Try.underlying28 rfl (by kernel_rfl)) (.tmp 3 rfl)) rfl ?_
  exact ⟨rfl, hb3.alloc hb3.size _⟩
theorem xhList (h : NoHeap w p) : Calls Try.prog 42 #[.pointer p] w fun r w' => r = .returned (.slice none 0 0) ∧ w = w' := by
  have HL := Lib.hid (xhLen h)
  clear h
  go_enter Try.func42, Try.ntmps42
  go_wp2_with (go_at_call 24; refine HL.out.mono ?_; rintro r wz ⟨rfl, rfl⟩)
  go_ret
  exact ⟨by simp, rfl⟩
end
end Go.Proofs.Ytmlbacbcdjfioaa
