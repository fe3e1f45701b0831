/- HeapI: layer 4: small facts for the laws. -/
import Derived.Test.YtmlbacbcdjfioaaHeapJ
import Derived.Test.YtmlbacbcdjfioaaHpT
set_option linter.unusedSimpArgs false
set_option linter.unusedVariables false
namespace Go.Proofs.Ytmlbacbcdjfioaa
open Go.ChangeShapes Go.WideShapes Go.ChangeAt Go.RowKit

theorem minV_shape (o : Option Ent) : ∃ x0 x1 x2, minV o = .tuple #[.agg #[.int .i64 x0, .int .i64 x1], .bool x2] := by
  cases o with
  | none => exact ⟨0, 0, false, rfl⟩
  | some x => exact ⟨_, _, true, rfl⟩
theorem keyV_shape (o : Option Int) : ∃ x0 x1, keyV o = .tuple #[.int .i64 x0, .bool x1] := by
  cases o with
  | none => exact ⟨0, false, rfl⟩
  | some x => exact ⟨_, true, rfl⟩
namespace Hp
theorem rem_cases (A : Hp) (i : Int) : ((A.remE i = 3 ∨ A.remE i = 5) ∧ A.remA i = A ∧ (∀ x, A.chgA i x = A) ∧ (A.Ok → A.keyAt i = none)) ∨ ∃ (j : Nat) (v : Int), i = j ∧ j < A.slots ∧ A.keys j = some v ∧ A.remE i = 0 ∧ A.remA i = A.del j ∧ (∀ x, A.chgA i x = A.put j x) := by
  by_cases h1 : 0 ≤ i ∧ i < A.slots
  · obtain ⟨j, rfl⟩ := Int.eq_ofNat_of_zero_le h1.1
    cases hk : A.keys j with
    | none =>
      left
      refine ⟨?_, ?_, fun x => ?_, fun _ => ?_⟩
      · right; unfold remE; rw [if_pos h1]; simp [hk]
      · unfold remA; rw [if_neg (by simp [hk])]
      · unfold chgA; rw [if_neg (by simp [hk])]
      · unfold keyAt; simp [hk]
    | some v =>
      right
      refine ⟨j, v, rfl, by omega, hk, ?_, ?_, fun x => ?_⟩
      · unfold remE; rw [if_pos h1]; simp [hk]
      · unfold remA; rw [if_pos ⟨h1.1, h1.2, by simp [hk]⟩]; simp
      · unfold chgA; rw [if_pos ⟨h1.1, h1.2, by simp [hk]⟩]; simp
  · left
    refine ⟨?_, ?_, fun x => ?_, fun ho => ?_⟩
    · left; unfold remE; rw [if_neg h1]
    · unfold remA; rw [if_neg (fun h => h1 ⟨h.1, h.2.1⟩)]
    · unfold chgA; rw [if_neg (fun h => h1 ⟨h.1, h.2.1⟩)]
    · unfold keyAt
      split
      · rename_i h0
        cases hk : A.keys i.toNat with
        | none => rfl
        | some v => exact absurd (ho.lt _ _ hk) (by omega)
      · rfl
theorem push_cases (A : Hp) (i : Int) : (A.pushE i ≠ 0 ∧ ∀ x, A.pushA i x = A) ∨ ∃ (j : Nat), i = j ∧ j < A.slots ∧ A.keys j = none ∧ A.pushE i = 0 ∧ ∀ x, A.pushA i x = A.put j x := by
  by_cases h1 : 0 ≤ i ∧ i < A.slots
  · obtain ⟨j, rfl⟩ := Int.eq_ofNat_of_zero_le h1.1
    cases hk : A.keys j with
    | some v =>
      left
      refine ⟨?_, fun x => ?_⟩
      · unfold pushE; rw [if_pos h1]; simp [hk]
      · unfold pushA; rw [if_neg (by simp [hk])]
    | none =>
      right
      refine ⟨j, rfl, by omega, hk, ?_, fun x => ?_⟩
      · unfold pushE; rw [if_pos h1]; simp [hk]
      · unfold pushA; rw [if_pos ⟨h1.1, h1.2, by simp [hk]⟩]; simp
  · left
    refine ⟨?_, fun x => ?_⟩
    · unfold pushE; rw [if_neg h1]; decide
    · unfold pushA; rw [if_neg (fun h => h1 ⟨h.1, h.2.1⟩)]
theorem upto_key {zs : List Int} {len : Nat} {j : Nat} {v : Int} (h : (Hp.upto zs len).keys j = some v) : j < len := by
  simp only [Hp.upto] at h
  split at h
  · assumption
  · simp at h
end Hp
end Go.Proofs.Ytmlbacbcdjfioaa
