/- ExpB: layer 35: Next, Left. -/
import Derived.Test.YtmlbacbcdjfioaaExpA
import Derived.Test.YtmlbacbcdjfioaaRes
set_option linter.unusedSimpArgs false
set_option linter.unusedVariables false
namespace Go.Proofs.Ytmlbacbcdjfioaa
open Go.ChangeShapes Go.WideShapes Go.ChangeAt Go.RowKit

/-- Two results' cells set, in two blocks. -/
def set3 (w : World) (g : Nat) (p q r : Value) : World := ((w.setCell ⟨g, 0, none⟩ p).setCell ⟨g, 1, none⟩ q).setCell ⟨g + 1, 0, none⟩ r
theorem set3_rows {w : World} {g : Nat} {a c d : Value} {t1 t2 : TypeId} (h1 : w.heap[g]? = some (.cells #[a, c] t1 (0, 0))) (h2 : w.heap[g + 1]? = some (.cells #[d] t2 (0, 0))) (p q r : Value) :
    (set3 w g p q r).heap[g]? = some (.cells #[p, q] t1 (0, 0)) ∧ (set3 w g p q r).heap[g + 1]? = some (.cells #[r] t2 (0, 0)) := by
  have a1 := row_two_set h1 p q
  obtain ⟨w2, hw2⟩ : ∃ w2, (w.setCell ⟨g, 0, none⟩ p) = w2 := ⟨_, rfl⟩
  obtain ⟨w3, hw3⟩ : ∃ w3, (w2.setCell ⟨g, 1, none⟩ q) = w3 := ⟨_, rfl⟩
  have hs : set3 w g p q r = w3.setCell ⟨g + 1, 0, none⟩ r := by unfold set3; rw [hw2, hw3]
  rw [hw2, hw3] at a1
  have b2 : w2.heap[g + 1]? = w.heap[g + 1]? := by rw [← hw2]; exact Below.heap_setCell _ _ _ _ (by simp)
  have b3 : w3.heap[g + 1]? = w2.heap[g + 1]? := by rw [← hw3]; exact Below.heap_setCell _ _ _ _ (by simp)
  rw [hs]
  refine ⟨?_, row_one_set (b3.trans (b2.trans h2)) r⟩
  rw [Below.heap_setCell _ _ _ _ (by simp)]; exact a1
theorem set3_below {B : Nat} {w w1 : World} {g : Nat} (h : Below B w w1) (hg : B ≤ g) (p q r : Value) : Below B w (set3 w1 g p q r) :=
  ((h.setCell (p := ⟨g, 0, none⟩) hg _).setCell (p := ⟨g, 1, none⟩) hg _).setCell (p := ⟨g + 1, 0, none⟩) (by simp; omega) _

section
variable {w0 w : World} {e b : Nat} {A : Hp} {S : Nat → Prop}
set_option maxHeartbeats 1000000
theorem eNext_any (h : EIn w0 w e b A S) :
    Calls Try.prog 31 #[.pointer (some ⟨e, 0, none⟩)] w fun r w' => r = .returned (minV A.first) ∧ Below w.heap.size w w' := by
  have c0 := h.cell
  have hlt := h.lt
  have HB := Lib.hid (fun (o1 o2 : Obj) => ((Below.refl w.heap.size w).alloc (Nat.le_refl _) o1).alloc (by simp) o2)
  have HP := Lib.hid (fun (o1 o2 : Obj) => hMin_at (h.below (HB.out o1 o2)).hin.1)
  clear h
  obtain ⟨x0, x1, x2, hx⟩ : ∃ x0 x1 x2, minV A.first = .tuple #[.agg #[.int .i64 x0, .int .i64 x1], .bool x2] := by
    cases A.first with
    | none => exact ⟨0, 0, false, rfl⟩
    | some x => exact ⟨_, _, true, rfl⟩
  rw [hx] at HP ⊢
  clear hx
  go_enter Try.func31, Try.ntmps31
  go_wp2_with (first
    | (go_at_call 57; refine (HP.out _ _).mono ?_; rintro r w1 ⟨rfl, h1⟩; obtain ⟨k1, k2, hz⟩ := two_new h1; obtain ⟨q1, q2, q3, _⟩ := row_two k1; obtain ⟨p1, p2, _⟩ := row_one k2; have H1 := Lib.hid (And.intro h1 (And.intro k1 k2)); clear h1 k1 k2)
    | (go_at_call 61; go_in)
    | (go_at_call 62; go_in))
  go_region
  go_wp2
  obtain ⟨h1, k1, k2⟩ := H1.out
  have n1 := set3_rows k1 k2 (.int .i64 x0) (.int .i64 x1) (.bool x2)
  have n2 := set3_rows n1.1 n1.2 (.int .i64 x0) (.int .i64 x1) (.bool x2)
  have n3 := set3_below (set3_below ((HB.out _ _).trans (h1.mono (by simp; omega))) (Nat.le_refl _) (.int .i64 x0) (.int .i64 x1) (.bool x2)) (Nat.le_refl _) (.int .i64 x0) (.int .i64 x1) (.bool x2)
  unfold set3 at n2 n3
  have m1 := (heap_drew_at _ _).trans n2.1
  have m2 := (row_one ((heap_drew_at _ _).trans n2.2)).1
  have m3 := n3.drew
  clear n1 n2 n3 h1 k1 k2
  refine bodyPost_ret (results_2 rfl (.row (by rfl) m1 Try.underlying28 rfl (by kernel_rfl)) (.cell (by rfl) Try.underlying4 rfl m2)) rfl ?_
  exact ⟨rfl, m3⟩
end
end Go.Proofs.Ytmlbacbcdjfioaa
