/- IntX: layer 3: tables that are nil, or were not made by New. -/
import Derived.Test.YthlfmlpdnbeelaaIntD
import Derived.WalkMore
set_option linter.unusedSimpArgs false
set_option linter.unusedVariables false
namespace Go.Proofs.Ythlfmlpdnbeelaa
open Go.ChangeShapes Go.WideShapes Go.ChangeAt Go.RowKit

/-- A table that is nil, or was not made by New. -/
def NoTable (w : World) (p : Option Addr) : Prop := p = none ∨ ∃ b, p = some ⟨b, 0, none⟩ ∧ w.heap[b]? = some (.cells #[.pointer none, .int .i64 0, .slice none 0 0, .slice none 0 0] 64 (0, 0))
theorem NoTable.below {w w' : World} {p : Option Addr} (h : NoTable w p) (hb : Below w.heap.size w w') : NoTable w' p := by
  rcases h with h | ⟨b, h0, h1⟩
  · exact Or.inl h
  · exact Or.inr ⟨b, h0, (hb.block b (Array.getElem?_eq_some_iff.1 h1).1).trans h1⟩

set_option maxHeartbeats 1000000
section
variable {w : World} {p : Option Addr}
theorem xiValid (h : NoTable w p) : Calls Try.prog 56 #[.pointer p] w fun r w' => r = .returned (.bool false) ∧ w = w' := by
  rcases h with rfl | ⟨b, rfl, hr⟩
  · go_enter Try.func56, Try.ntmps56
    go_wp2
    go_ret
    exact ⟨by simp, rfl⟩
  · obtain ⟨c0, c1, c2, c3, hg⟩ := row4 hr
    clear hr
    go_enter Try.func56, Try.ntmps56
    go_wp2
    go_ret
    exact ⟨by simp, rfl⟩
theorem xiPut (h : NoTable w p) (x : Int) : Calls Try.prog 22 #[.pointer p, .int .u64 x] w fun r w' => r = .returned (.tuple #[.int .i64 0, .bool false, .int .i64 1]) ∧ w = w' := by
  have HC := Lib.hid (xiValid h)
  clear h
  go_enter Try.func22, Try.ntmps22
  go_wp2_with (go_at_call 56; refine HC.out.mono ?_; rintro r wz ⟨rfl, rfl⟩)
  go_ret3
  exact ⟨by simp, rfl⟩
theorem xiGet (h : NoTable w p) (x : Int) : Calls Try.prog 27 #[.pointer p, .int .u64 x] w fun r w' => r = .returned (.tuple #[.int .i64 0, .bool false]) ∧ w = w' := by
  have HC := Lib.hid (xiValid h)
  clear h
  go_enter Try.func27, Try.ntmps27
  go_wp2_with (go_at_call 56; refine HC.out.mono ?_; rintro r wz ⟨rfl, rfl⟩)
  go_ret2
  exact ⟨by simp, rfl⟩
theorem xiID (h : NoTable w p) (x : Int) : Calls Try.prog 28 #[.pointer p, .int .i64 x] w fun r w' => r = .returned (.tuple #[.int .u64 0, .bool false]) ∧ w = w' := by
  have HC := Lib.hid (xiValid h)
  clear h
  go_enter Try.func28, Try.ntmps28
  go_wp2_with (go_at_call 56; refine HC.out.mono ?_; rintro r wz ⟨rfl, rfl⟩)
  go_ret2
  exact ⟨by simp, rfl⟩
theorem xiDel (h : NoTable w p) (x : Int) : Calls Try.prog 21 #[.pointer p, .int .u64 x] w fun r w' => r = .returned (.int .i64 1) ∧ w = w' := by
  have HC := Lib.hid (xiValid h)
  clear h
  go_enter Try.func21, Try.ntmps21
  go_wp2
  go_step3
  go_wp2_with (go_at_call 56; refine HC.out.mono ?_; rintro r wz ⟨rfl, rfl⟩)
  rw [Exit.noGoto_ret]
  go_ret
  exact ⟨by simp, rfl⟩
theorem xiLen (h : NoTable w p) : Calls Try.prog 23 #[.pointer p] w fun r w' => r = .returned (.int .i64 0) ∧ w = w' := by
  have HC := Lib.hid (xiValid h)
  clear h
  go_enter Try.func23, Try.ntmps23
  go_wp2_with (go_at_call 56; refine HC.out.mono ?_; rintro r wz ⟨rfl, rfl⟩)
  go_ret
  exact ⟨by simp, rfl⟩
theorem xiList (h : NoTable w p) : Calls Try.prog 31 #[.pointer p] w fun r w' => r = .returned (.slice none 0 0) ∧ w = w' := by
  have HC := Lib.hid (xiValid h)
  have HL := Lib.hid (xiLen h)
  clear h
  go_enter Try.func31, Try.ntmps31
  go_wp2_with (first | (go_at_call 56; refine HC.out.mono ?_; rintro r wz ⟨rfl, rfl⟩) | (go_at_call 23; refine HL.out.mono ?_; rintro r wz ⟨rfl, rfl⟩))
  go_ret
  exact ⟨by simp, rfl⟩
theorem xiCopy (h : NoTable w p) : Calls Try.prog 32 #[.pointer p] w fun r w' => r = .returned (.pointer none) ∧ w = w' := by
  have HC := Lib.hid (xiValid h)
  clear h
  go_enter Try.func32, Try.ntmps32
  go_wp2_with (go_at_call 56; refine HC.out.mono ?_; rintro r wz ⟨rfl, rfl⟩)
  go_ret
  exact ⟨by simp, rfl⟩
end
end Go.Proofs.Ythlfmlpdnbeelaa
