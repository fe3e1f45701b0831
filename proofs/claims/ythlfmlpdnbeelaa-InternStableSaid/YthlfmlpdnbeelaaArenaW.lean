/- ArenaW: layer 2, the arena: what its functions do. -/
import Derived.Test.YthlfmlpdnbeelaaBase
set_option linter.unusedSimpArgs false
set_option linter.unusedVariables false
namespace Go.Proofs.Ythlfmlpdnbeelaa
open Go.ChangeShapes Go.WideShapes Go.ChangeAt Go.RowKit

/-- An arena as the document has it: how many slots, the lowest fresh one, the returned ones (the last one first), how often each was allocated. -/
structure Ar where
  slots : Nat
  fresh : Nat
  stack : List Nat
  times : Nat → Nat

def topOf : List Nat → Int
  | [] => -1
  | x :: _ => (x : Int)

namespace Ar
def state (A : Ar) (i : Nat) : Int := if A.fresh ≤ i then 0 else if i ∈ A.stack then 2 else 1
def used (A : Ar) (i : Nat) : Bool := decide (i < A.fresh ∧ i ∉ A.stack)
structure Ok (A : Ar) : Prop where
  fresh : A.fresh ≤ A.slots
  slots : A.slots ≤ 65536
  lt : ∀ x ∈ A.stack, x < A.fresh
  nodup : A.stack.Nodup
theorem Ok.len {A : Ar} (h : A.Ok) : A.stack.length ≤ A.fresh := by
  have := h.nodup.length_le_of_subset (l₂ := List.range A.fresh) (fun y hy => List.mem_range.2 (h.lt y hy))
  simpa using this
end Ar

/-- The arena at block b, its records in block lb. -/
structure ArenaAt (w : World) (b lb : Nat) (A : Ar) : Prop where
  ok : A.Ok
  ne : b ≠ lb
  c0 : w.cell? ⟨b, 0, none⟩ = some (.bool true)
  c1 : w.cell? ⟨b, 1, none⟩ = some (.int .i64 A.slots)
  c2 : w.cell? ⟨b, 2, none⟩ = some (.int .i64 ((A.fresh : Int) - A.stack.length))
  c3 : w.cell? ⟨b, 3, none⟩ = some (.int .i64 A.fresh)
  c4 : w.cell? ⟨b, 4, none⟩ = some (.int .i64 (topOf A.stack))
  c5 : ∃ n cap, w.cell? ⟨b, 5, none⟩ = some (.slice (some ⟨lb, 0, none⟩) n cap) ∧ n ≤ cap ∧ n = (A.slots + 127) / 128
  fz : ∀ o, w.frozen? ⟨b, o, none⟩ = false
  r0 : ∀ i, i < (A.slots + 127) / 128 * 128 → w.cell? ⟨lb, i * 3, none⟩ = some (.int .i64 (A.state i))
  r1 : ∀ i, i < (A.slots + 127) / 128 * 128 → w.cell? ⟨lb, i * 3 + 1, none⟩ = some (.int .u64 (A.times i))
  r2 : ∀ i, i < (A.slots + 127) / 128 * 128 → ∃ v, w.cell? ⟨lb, i * 3 + 2, none⟩ = some (.int .i64 v)
  r3 : ∀ pre x s, A.stack = pre ++ x :: s → w.cell? ⟨lb, x * 3 + 2, none⟩ = some (.int .i64 (topOf s))
  rz : ∀ o, w.frozen? ⟨lb, o, none⟩ = false

theorem ArenaAt.of_blocks {w w' : World} {b lb : Nat} {A : Ar} (h : ArenaAt w b lb A) (hb : w'.heap[b]? = w.heap[b]?) (hl : w'.heap[lb]? = w.heap[lb]?) : ArenaAt w' b lb A := by
  have e : ∀ o, w'.cell? ⟨b, o, none⟩ = w.cell? ⟨b, o, none⟩ := fun o => World.cell?_of_block (w := w) hb
  have f : ∀ o, w'.cell? ⟨lb, o, none⟩ = w.cell? ⟨lb, o, none⟩ := fun o => World.cell?_of_block (w := w) hl
  have g : ∀ o, w'.frozen? ⟨b, o, none⟩ = w.frozen? ⟨b, o, none⟩ := fun o => World.frozen?_of_block (w := w) hb
  have k : ∀ o, w'.frozen? ⟨lb, o, none⟩ = w.frozen? ⟨lb, o, none⟩ := fun o => World.frozen?_of_block (w := w) hl
  refine ⟨h.ok, h.ne, ?_, ?_, ?_, ?_, ?_, ?_, ?_, ?_, ?_, ?_, ?_, ?_⟩
  · rw [e]; exact h.c0
  · rw [e]; exact h.c1
  · rw [e]; exact h.c2
  · rw [e]; exact h.c3
  · rw [e]; exact h.c4
  · simp only [e]; exact h.c5
  · intro o; rw [g]; exact h.fz o
  · intro i hi; rw [f]; exact h.r0 i hi
  · intro i hi; rw [f]; exact h.r1 i hi
  · intro i hi; simp only [f]; exact h.r2 i hi
  · intro pre x s hs; rw [f]; exact h.r3 pre x s hs
  · intro o; rw [k]; exact h.rz o

theorem ArenaAt.b_lt {w : World} {b lb : Nat} {A : Ar} (h : ArenaAt w b lb A) : b < w.heap.size := World.block_lt_of_cell? w ⟨b, 0, none⟩ h.c0
theorem ArenaAt.lb_lt {w : World} {b lb : Nat} {A : Ar} (h : ArenaAt w b lb A) (hs : 0 < A.slots) : lb < w.heap.size := by
  have := h.r0 0 (by omega)
  exact World.block_lt_of_cell? w ⟨lb, 0 * 3, none⟩ this
theorem ArenaAt.drew {w : World} {b lb : Nat} {A : Ar} (h : ArenaAt w b lb A) : ArenaAt w.drew b lb A := h.of_blocks rfl rfl
theorem ArenaAt.drewN {w : World} {b lb : Nat} {A : Ar} (h : ArenaAt w b lb A) (n : Nat) : ArenaAt (w.drewN n) b lb A := h.of_blocks rfl rfl

/-! ### at -/
set_option maxHeartbeats 400000 in
theorem aAt_in {w : World} {b lb : Nat} {A : Ar} (h : ArenaAt w b lb A) (i : Int) (h0 : 0 ≤ i) (h1 : i < A.slots) :
    Calls Try.prog 87 #[.pointer (some ⟨b, 0, none⟩), .int .i64 i] w fun e w' => e = .returned (.pointer (some ⟨lb, i.toNat * 3, none⟩)) ∧ w = w' := by
  have c1 := h.c1
  obtain ⟨n, cap, c5, _, hn⟩ := h.c5
  have hs := h.ok.slots
  have hn' : i / 128 < n := by omega
  have hn2 : n ≤ 65536 := by omega
  have HF := Lib.hid (show (i / 128).toNat * 384 + (i % 128).toNat * 3 = i.toNat * 3 by omega)
  clear h hn
  go_enter Try.func87, Try.ntmps87
  go_wp2
  all_goals go_ret
  all_goals exact ⟨by simp [HF.out], rfl⟩

theorem aAt_nat {w : World} {b lb : Nat} {A : Ar} (h : ArenaAt w b lb A) (i : Nat) (h1 : i < A.slots) :
    Calls Try.prog 87 #[.pointer (some ⟨b, 0, none⟩), .int .i64 i] w fun e w' => e = .returned (.pointer (some ⟨lb, i * 3, none⟩)) ∧ w = w' := by
  simpa using aAt_in h (i : Int) (by omega) (by omega)

set_option maxHeartbeats 400000 in
theorem aAt_out {w : World} {b lb : Nat} {A : Ar} (h : ArenaAt w b lb A) (i : Int) (h1 : i < 0 ∨ (A.slots : Int) ≤ i) :
    Calls Try.prog 87 #[.pointer (some ⟨b, 0, none⟩), .int .i64 i] w fun e w' => e = .returned (.pointer none) ∧ w = w' := by
  have c1 := h.c1
  clear h
  go_enter Try.func87, Try.ntmps87
  go_wp2
  all_goals go_ret
  all_goals exact ⟨by simp, rfl⟩

/-! ### Next -/
def Ar.next (A : Ar) : Option Nat := match A.stack with
  | x :: _ => some x
  | [] => if A.fresh < A.slots then some A.fresh else none
def optNat : Option Nat → Value
  | some i => .tuple #[.int .i64 i, .bool true]
  | none => .tuple #[.int .i64 0, .bool false]

set_option maxHeartbeats 400000 in
theorem aNext_any {w : World} {b lb : Nat} {A : Ar} (h : ArenaAt w b lb A) :
    Calls Try.prog 88 #[.pointer (some ⟨b, 0, none⟩)] w fun e w' => e = .returned (optNat A.next) ∧ ∃ n, w' = w.drewN n := by
  have c0 := h.c0
  have c1 := h.c1
  have c3 := h.c3
  have c4 := h.c4
  have HN := Lib.hid (show A.next = match A.stack with | x :: _ => some x | [] => if A.fresh < A.slots then some A.fresh else none from rfl)
  clear h
  cases hst : A.stack with
  | cons x s =>
    rw [hst] at c4 HN
    simp only [topOf] at c4 HN
    clear hst
    go_enter Try.func88, Try.ntmps88
    go_wp2
    all_goals go_ret2
    all_goals exact ⟨by simp [HN.out, optNat], 0, rfl⟩
  | nil =>
    rw [hst] at c4 HN
    simp only [topOf] at c4 HN
    clear hst
    by_cases hf : A.fresh < A.slots
    · go_enter Try.func88, Try.ntmps88
      go_wp2
      go_quiet (fail)
      go_wp2
      all_goals go_ret2
      all_goals exact ⟨by simp [HN.out, optNat, hf], _, rfl⟩
    · go_enter Try.func88, Try.ntmps88
      go_wp2
      go_quiet (fail)
      go_wp2
      all_goals go_ret2
      all_goals exact ⟨by simp [HN.out, optNat, hf], _, rfl⟩
end Go.Proofs.Ythlfmlpdnbeelaa
