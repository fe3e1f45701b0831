/- ArenaN: layer 2: arenas that are nil or zero. -/
import Derived.Test.YthlfmlpdnbeelaaArenaR
set_option linter.unusedSimpArgs false
set_option linter.unusedVariables false
namespace Go.Proofs.Ythlfmlpdnbeelaa
open Go.ChangeShapes Go.WideShapes Go.ChangeAt Go.RowKit

/-- An arena that is nil, or was not made by New. -/
def NoArena (w : World) (p : Option Addr) : Prop :=
  p = none ∨ ∃ b, p = some ⟨b, 0, none⟩ ∧ w.cell? ⟨b, 0, none⟩ = some (.bool false) ∧ w.cell? ⟨b, 1, none⟩ = some (.int .i64 0) ∧ w.cell? ⟨b, 2, none⟩ = some (.int .i64 0)

theorem NoArena.below {w w' : World} {p : Option Addr} (h : NoArena w p) (hb : Below w.heap.size w w') : NoArena w' p := by
  rcases h with h | ⟨b, h0, h1, h2, h3⟩
  · exact Or.inl h
  · have hlt := World.block_lt_of_cell? w _ h1
    exact Or.inr ⟨b, h0, (hb.cell (p := ⟨b, 0, none⟩) hlt).trans h1, (hb.cell (p := ⟨b, 1, none⟩) hlt).trans h2, (hb.cell (p := ⟨b, 2, none⟩) hlt).trans h3⟩

theorem xAt {w : World} {p : Option Addr} (h : NoArena w p) (i : Int) :
    Calls Try.prog 87 #[.pointer p, .int .i64 i] w fun e w' => e = .returned (.pointer none) ∧ w = w' := by
  rcases h with rfl | ⟨b, rfl, h0, h1, h2⟩
  · go_enter Try.func87, Try.ntmps87
    go_wp2
    all_goals go_ret
    all_goals exact ⟨by simp, rfl⟩
  · by_cases hi : i < 0
    all_goals
      go_enter Try.func87, Try.ntmps87
      go_wp2
      all_goals go_ret
      all_goals exact ⟨by simp, rfl⟩
theorem xNext {w : World} {p : Option Addr} (h : NoArena w p) :
    Calls Try.prog 88 #[.pointer p] w fun e w' => e = .returned (.tuple #[.int .i64 0, .bool false]) ∧ w = w' := by
  rcases h with rfl | ⟨b, rfl, h0, h1, h2⟩
  all_goals
    go_enter Try.func88, Try.ntmps88
    go_wp2
    go_ret2
    exact ⟨by simp, rfl⟩
theorem xAlloc {w : World} {p : Option Addr} (h : NoArena w p) :
    Calls Try.prog 62 #[.pointer p] w fun e w' => e = .returned (.tuple #[.int .i64 0, .int .i64 1]) ∧ w = w' := by
  rcases h with rfl | ⟨b, rfl, h0, h1, h2⟩
  all_goals
    go_enter Try.func62, Try.ntmps62
    go_wp2
    go_ret2
    exact ⟨by simp, rfl⟩
theorem xFree {w : World} {p : Option Addr} (h : NoArena w p) (i : Int) :
    Calls Try.prog 58 #[.pointer p, .int .i64 i] w fun e w' => e = .returned (.int .i64 1) ∧ w = w' := by
  rcases h with rfl | ⟨b, rfl, h0, h1, h2⟩
  all_goals
    go_enter Try.func58, Try.ntmps58
    go_wp2
    go_ret
    exact ⟨by simp, rfl⟩
theorem xUsed {w : World} {p : Option Addr} (h : NoArena w p) (i : Int) :
    Calls Try.prog 63 #[.pointer p, .int .i64 i] w fun e w' => e = .returned (.bool false) ∧ w = w' := by
  have HA := Lib.hid (xAt h i)
  clear h
  go_enter Try.func63, Try.ntmps63
  go_wp2_with (go_at_call 87; refine HA.out.mono ?_; rintro e w' ⟨rfl, rfl⟩)
  go_ret
  exact ⟨by simp, rfl⟩

theorem xLen {w : World} {p : Option Addr} (h : NoArena w p) :
    Calls Try.prog 60 #[.pointer p] w fun e w' => e = .returned (.int .i64 0) ∧ w = w' := by
  rcases h with rfl | ⟨b, rfl, h0, h1, h2⟩
  all_goals
    go_enter Try.func60, Try.ntmps60
    go_wp2
    go_ret
    exact ⟨by simp, rfl⟩
theorem xCap {w : World} {p : Option Addr} (h : NoArena w p) :
    Calls Try.prog 80 #[.pointer p] w fun e w' => e = .returned (.int .i64 0) ∧ w = w' := by
  rcases h with rfl | ⟨b, rfl, h0, h1, h2⟩
  all_goals
    go_enter Try.func80, Try.ntmps80
    go_wp2
    go_ret
    exact ⟨by simp, rfl⟩
theorem xList {w : World} {p : Option Addr} (h : NoArena w p) :
    Calls Try.prog 68 #[.pointer p] w fun e w' => e = .returned (.slice none 0 0) ∧ w = w' := by
  have HC := Lib.hid (xCap h)
  clear h
  go_enter Try.func68, Try.ntmps68
  go_wp2_with (go_at_call 80; refine HC.out.mono ?_; rintro e w' ⟨rfl, rfl⟩)
  refine wp_loop_rounds 1 ?_
  rw [rounds_succ]
  go_wp2
  go_ret
  exact ⟨by simp, rfl⟩
theorem xCopy {w : World} {p : Option Addr} (h : NoArena w p) :
    Calls Try.prog 70 #[.pointer p] w fun e w' => e = .returned (.pointer none) ∧ w = w' := by
  rcases h with rfl | ⟨b, rfl, h0, h1, h2⟩
  all_goals
    go_enter Try.func70, Try.ntmps70
    go_wp2
    go_ret
    exact ⟨by simp, rfl⟩
end Go.Proofs.Ythlfmlpdnbeelaa
