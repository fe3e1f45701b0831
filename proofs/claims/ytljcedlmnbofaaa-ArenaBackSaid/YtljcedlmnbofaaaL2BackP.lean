/- L2BackP: plain facts for ArenaBack. -/
import Derived.Test.YtljcedlmnbofaaaL2Plain
namespace Go.Proofs.Ytljcedlmnbofaaa
open Go.ChangeShapes Go.WideShapes Go.ChangeAt Go.RowKit

/-- n slots, the first m were allocated once, and of these f was freed, in this order; those behind place j are allocated again. -/
def Ar.back (n m : Nat) (f : List Nat) (j : Nat) : Ar :=
  { slots := n, fresh := m, stack := (f.take j).reverse, times := fun i => if i ∈ f.drop j then 2 else if i < m then 1 else 0 }

theorem Ar.back_start (n m : Nat) : Ar.filled n m = Ar.back n m [] 0 := by simp [Ar.filled, Ar.back]
theorem Ar.back_full (n m : Nat) (f : List Nat) : (Ar.back n m f f.length).stack = f.reverse := by simp [Ar.back]
theorem Ar.back_freed (n m : Nat) (f : List Nat) (i : Nat) : (Ar.back n m f f.length).freed i = Ar.back n m (f ++ [i]) (f ++ [i]).length := by
  have h : (f ++ [i]).take (f.length + 1) = f ++ [i] := List.take_of_length_le (by simp)
  simp [Ar.freed, Ar.back, h]
theorem Ar.back_used (n m : Nat) (f : List Nat) (i : Nat) (hi : i < m) : (Ar.back n m f f.length).used i = !decide (i ∈ f) := by
  simp [Ar.used, Ar.back, hi]

theorem take_reverse (f : List Nat) {j : Nat} (h : j < f.length) : (f.take (j + 1)).reverse = f.getD j 0 :: (f.take j).reverse := by
  rw [List.take_succ_eq_append_getElem h, List.reverse_append]
  simp [List.getD, List.getElem?_eq_getElem h]
theorem Ar.back_next (n m : Nat) (f : List Nat) {j : Nat} (h : j < f.length) : (Ar.back n m f (j + 1)).next = some (f.getD j 0) := by
  simp only [Ar.next, Ar.back, take_reverse f h]
theorem Ar.back_take (n m : Nat) (f : List Nat) (hn : f.Nodup) (hm : ∀ x ∈ f, x < m) {j : Nat} (h : j < f.length) : (Ar.back n m f (j + 1)).take (f.getD j 0) = Ar.back n m f j ∧ (Ar.back n m f j).times (f.getD j 0) = 2 := by
  have hd : f.drop j = f.getD j 0 :: f.drop (j + 1) := by
    rw [List.drop_eq_getElem_cons h]
    simp [List.getD, List.getElem?_eq_getElem h]
  have hnd : (f.drop j).Nodup := hn.sublist (List.drop_sublist _ _)
  rw [hd] at hnd
  have hnot := (List.nodup_cons.1 hnd).1
  have hmem : f.getD j 0 < m := hm _ (by simp only [List.getD, List.getElem?_eq_getElem h, Option.getD_some]; exact List.getElem_mem h)
  refine ⟨?_, by simp [Ar.back, hd]⟩
  simp only [Ar.take, Ar.back, take_reverse f h, List.tail_cons]
  congr 1
  funext i
  rw [hd]
  by_cases e : i = f.getD j 0
  · subst e
    simp only [List.mem_cons, true_or, if_true]
    rw [if_neg hnot, if_pos hmem]
  · simp only [List.mem_cons, e, false_or, if_false]

/-- Behind that the fresh ones up to k. -/
def Ar.more (n m : Nat) (f : List Nat) (k : Nat) : Ar :=
  { slots := n, fresh := k, stack := [], times := fun i => if i ∈ f then 2 else if i < k then 1 else 0 }
theorem Ar.more_start (n m : Nat) (f : List Nat) : Ar.back n m f 0 = Ar.more n m f m := by simp [Ar.back, Ar.more]
theorem Ar.more_next (n m : Nat) (f : List Nat) {k : Nat} (h : k < n) : (Ar.more n m f k).next = some k := by simp [Ar.more, Ar.next, h]
theorem Ar.more_take (n m : Nat) (f : List Nat) (hm : ∀ x ∈ f, x < m) {k : Nat} (hk : m ≤ k) : (Ar.more n m f k).take k = Ar.more n m f (k + 1) ∧ (Ar.more n m f (k + 1)).times k = 1 := by
  have hnot : k ∉ f := fun h => by have := hm k h; omega
  refine ⟨?_, by simp [Ar.more, hnot]⟩
  simp only [Ar.take, Ar.more, if_true, List.tail_nil]
  congr 1
  funext i
  by_cases e : i = k
  · subst e; simp [hnot]
  · simp only [e, if_false]
    by_cases h : i < k
    · rw [if_pos h, if_pos (show i < k + 1 by omega)]
    · rw [if_neg h, if_neg (show ¬ i < k + 1 by omega)]
end Go.Proofs.Ytljcedlmnbofaaa
