/- R4N: layer 4: the document's heap, nil. -/
import Derived.Test.YtmlbacbcdjfioaaR4E
set_option linter.unusedSimpArgs false
set_option linter.unusedVariables false
namespace Go.Proofs.Ytmlbacbcdjfioaa
open Go.ChangeShapes Go.WideShapes Go.ChangeAt Go.RowKit
set_option maxHeartbeats 1000000
section
variable (w : World)
theorem xr4Valid : Calls Try.prog 84 #[.pointer none] w fun r w' => r = .returned (.bool false) ∧ w = w' := by
  go_enter Try.func84, Try.ntmps84
  go_wp2
  go_ret
  exact ⟨by simp, rfl⟩
theorem xr4Len : Calls Try.prog 81 #[.pointer none] w fun r w' => r = .returned (.int .i64 0) ∧ w = w' := by
  go_enter Try.func81, Try.ntmps81
  go_wp2_with (go_at_call 84; refine (xr4Valid _).mono ?_; rintro r wz ⟨rfl, rfl⟩)
  go_ret
  exact ⟨by simp, rfl⟩
theorem xr4Key (i : Int) : Calls Try.prog 80 #[.pointer none, .int .i64 i] w fun r w' => r = .returned (.tuple #[.int .i64 0, .bool false]) ∧ w = w' := by
  go_enter Try.func80, Try.ntmps80
  go_wp2_with (go_at_call 84; refine (xr4Valid _).mono ?_; rintro r wz ⟨rfl, rfl⟩)
  go_ret2
  exact ⟨by simp, rfl⟩
theorem xr4Push (i x : Int) : Calls Try.prog 52 #[.pointer none, .int .i64 i, .int .i64 x] w fun r w' => r = .returned (.int .i64 1) ∧ w = w' := by
  go_enter Try.func52, Try.ntmps52
  go_wp2_with (go_at_call 84; refine (xr4Valid _).mono ?_; rintro r wz ⟨rfl, rfl⟩)
  go_ret
  exact ⟨by simp, rfl⟩
theorem xr4Remove (i : Int) : Calls Try.prog 54 #[.pointer none, .int .i64 i] w fun r w' => r = .returned (.int .i64 1) ∧ w = w' := by
  go_enter Try.func54, Try.ntmps54
  go_wp2_with (go_at_call 84; refine (xr4Valid _).mono ?_; rintro r wz ⟨rfl, rfl⟩)
  go_ret
  exact ⟨by simp, rfl⟩
theorem xr4Change (i x : Int) : Calls Try.prog 53 #[.pointer none, .int .i64 i, .int .i64 x] w fun r w' => r = .returned (.int .i64 1) ∧ w = w' := by
  go_enter Try.func53, Try.ntmps53
  go_wp2_with (go_at_call 54; refine (xr4Remove _ _).mono ?_; rintro r wz ⟨rfl, rfl⟩)
  go_ret
  exact ⟨by simp, rfl⟩
theorem xr4Copy : Calls Try.prog 56 #[.pointer none] w fun r w' => r = .returned (.pointer none) ∧ w = w' := by
  go_enter Try.func56, Try.ntmps56
  go_wp2_with (go_at_call 84; refine (xr4Valid _).mono ?_; rintro r wz ⟨rfl, rfl⟩)
  go_ret
  exact ⟨by simp, rfl⟩
theorem xr4List : Calls Try.prog 82 #[.pointer none] w fun r w' => r = .returned (.slice none 0 0) ∧ w = w' := by
  go_enter Try.func82, Try.ntmps82
  go_wp2_with (go_at_call 84; refine (xr4Valid _).mono ?_; rintro r wz ⟨rfl, rfl⟩)
  go_ret
  exact ⟨by simp, rfl⟩
theorem xr4Min : Calls Try.prog 79 #[.pointer none] w fun r w' => r = .returned (.tuple #[.agg #[.int .i64 0, .int .i64 0], .bool false]) ∧ Below w.heap.size w w' := by
  go_enter Try.func79, Try.ntmps79
  go_wp2_with (go_at_call 82; refine (xr4List _).mono ?_; rintro r wz ⟨rfl, rfl⟩)
  refine bodyPost_ret (results_2 rfl (.row (by rfl) (heap_alloc_new _ _) Try.underlying28 rfl (by kernel_rfl)) (.tmp 3 rfl)) rfl ?_
  exact ⟨rfl, (Below.refl _ _).alloc (Nat.le_refl _) _⟩
theorem xr4Pop : Calls Try.prog 55 #[.pointer none] w fun r w' => r = .returned (.tuple #[.agg #[.int .i64 0, .int .i64 0], .bool false]) ∧ Below w.heap.size w w' := by
  go_enter Try.func55, Try.ntmps55
  go_wp2_with (go_at_call 79; refine (xr4Min _).mono ?_; rintro r w1 ⟨rfl, hb⟩; have k0 := (hb.block w.heap.size (by simp)).trans (heap_alloc_new _ _); obtain ⟨q0, q1, qf, hq⟩ := row_two k0; have HB := Lib.hid (And.intro hb k0); clear hb k0)
  obtain ⟨hb, k0⟩ := HB.out
  have n1 := row_two_set k0 (.int .i64 0) (.int .i64 0)
  have hb2 : Below w.heap.size w w1 := ((Below.refl _ w).alloc (Nat.le_refl _) _).trans (hb.mono (by simp))
  have hb3 := ((hb2.setCell (p := ⟨w.heap.size, 0, none⟩) (Nat.le_refl _) (.int .i64 0)).setCell (p := ⟨w.heap.size, 1, none⟩) (Nat.le_refl _) (.int .i64 0))
  refine bodyPost_ret (results_2 rfl (.row (by rfl) ((heap_alloc_old _ _ (by simpa using hq)).trans n1) Try.underlying28 rfl (by kernel_rfl)) (.tmp 3 rfl)) rfl ?_
  exact ⟨rfl, hb3.alloc hb3.size _⟩
end
end Go.Proofs.Ytmlbacbcdjfioaa
