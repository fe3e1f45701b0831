/- Ls: lists of entries: where one is, all but one; a block of three cells. No program here. -/
import Derived.Test.YtmlbacbcdjfioaaEntsIn
set_option linter.unusedSimpArgs false
set_option linter.unusedVariables false
namespace Go.Proofs.Ytmlbacbcdjfioaa
open Go.ChangeShapes Go.WideShapes Go.ChangeAt Go.RowKit

theorem row_three {w : World} {g : Nat} {a b c : Value} {t : TypeId} (h : w.heap[g]? = some (.cells #[a, b, c] t (0, 0))) :
    w.cell? ⟨g, 0, none⟩ = some a ∧ w.cell? ⟨g, 1, none⟩ = some b ∧ w.cell? ⟨g, 2, none⟩ = some c ∧ (∀ o, w.frozen? ⟨g, o, none⟩ = false) ∧ g < w.heap.size :=
  ⟨by rw [cell_of_row w g 0 _ _ _ h]; rfl, by rw [cell_of_row w g 1 _ _ _ h]; rfl, by rw [cell_of_row w g 2 _ _ _ h]; rfl, fun o => frozen_of_row w g o _ _ h, (Array.getElem?_eq_some_iff.1 h).1⟩

theorem row_three_set {w : World} {g : Nat} {a b c : Value} {t : TypeId} (h : w.heap[g]? = some (.cells #[a, b, c] t (0, 0))) (p : Value) : (w.setCell ⟨g, 2, none⟩ p).heap[g]? = some (.cells #[a, b, p] t (0, 0)) := by
  have h1 := heap_setCell_same w g 2 _ _ p h
  rw [h1]; rfl
/-- Where a slot is in the list. -/
def FindR (L : List Ent) (i k : Int) : Prop := (k = -1 ∧ ∀ j, j < L.length → ((entAt L j).1 : Int) ≠ i) ∨ ∃ j : Nat, k = j ∧ j < L.length ∧ ((entAt L j).1 : Int) = i

/-- The entries but the k-th. -/
def dropAt (L : List Ent) (k : Int) : List Ent := if 0 ≤ k then L.eraseIdx k.toNat else L
theorem dropAt_succ {L : List Ent} {j : Nat} (hj : j < L.length) (k : Int) : dropAt (L.take (j + 1)) k = if (j : Int) = k then dropAt (L.take j) k else dropAt (L.take j) k ++ [entAt L j] := by
  rw [List.take_succ_eq_append_getElem hj, entAt_eq hj]
  have hlen : (L.take j).length = j := by simp; omega
  unfold dropAt
  by_cases h0 : 0 ≤ k
  · obtain ⟨m, rfl⟩ := Int.eq_ofNat_of_zero_le h0
    simp only [h0, if_true, Int.toNat_natCast, Int.ofNat_eq_natCast]
    by_cases h1 : j = m
    · subst h1
      rw [if_pos rfl, List.eraseIdx_append_of_length_le (by omega), List.eraseIdx_of_length_le (l := L.take j) (by omega), hlen, Nat.sub_self]
      simp
    · rw [if_neg (by omega)]
      by_cases h2 : m < j
      · rw [List.eraseIdx_append_of_lt_length (by omega)]
      · rw [List.eraseIdx_append_of_length_le (by omega), List.eraseIdx_of_length_le (l := L.take j) (by omega), List.eraseIdx_of_length_le (l := [entAt L j]) (by simp; omega)]
  · rw [if_neg h0, if_neg h0, if_neg (by omega)]
theorem dropAt_len (L : List Ent) (k : Int) : (dropAt L k).length ≤ L.length := by
  unfold dropAt
  split
  · exact List.length_eraseIdx_le ..
  · exact Nat.le_refl _
theorem dropAt_mem {L : List Ent} {k : Int} {x : Ent} (h : x ∈ dropAt L k) : x ∈ L := by
  unfold dropAt at h
  split at h
  · exact List.mem_of_mem_eraseIdx h
  · exact h
end Go.Proofs.Ytmlbacbcdjfioaa
