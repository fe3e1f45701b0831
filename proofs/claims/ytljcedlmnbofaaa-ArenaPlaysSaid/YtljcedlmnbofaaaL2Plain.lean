/- L2Plain: plain facts about scripts on arenas. No program here. -/
import Derived.Test.YtljcedlmnbofaaaL2Made
import Derived.Test.YtljcedlmnbofaaaL2Play
namespace Go.Proofs.Ytljcedlmnbofaaa
open Go.ChangeShapes Go.WideShapes Go.ChangeAt Go.RowKit

def sumTo (f : Nat → Nat) : Nat → Nat
  | 0 => 0
  | k + 1 => sumTo f k + f k

theorem sumTo_le (f : Nat → Nat) {i k : Nat} (h : i < k) : f i ≤ sumTo f k := by
  induction k with
  | zero => omega
  | succ k ih =>
    simp only [sumTo]
    by_cases e : i = k
    · subst e; omega
    · have := ih (by omega); omega
theorem sumTo_mono (f : Nat → Nat) {i k : Nat} (h : i ≤ k) : sumTo f i ≤ sumTo f k := by
  induction k with
  | zero => have : i = 0 := by omega
            subst this; exact Nat.le_refl _
  | succ k ih =>
    by_cases e : i = k + 1
    · subst e; exact Nat.le_refl _
    · have := ih (by omega); simp only [sumTo]; omega
theorem sumTo_congr {f g : Nat → Nat} {k : Nat} (h : ∀ j, j < k → f j = g j) : sumTo f k = sumTo g k := by
  induction k with
  | zero => rfl
  | succ k ih => simp only [sumTo]; rw [ih (fun j hj => h j (by omega)), h k (by omega)]
theorem sumTo_bump (f : Nat → Nat) {i k : Nat} (h : i < k) : sumTo (fun j => if j = i then f i + 1 else f j) k = sumTo f k + 1 := by
  induction k with
  | zero => omega
  | succ k ih =>
    simp only [sumTo]
    by_cases e : i = k
    · subst e
      rw [if_pos rfl, sumTo_congr (g := f) (fun j hj => by rw [if_neg (by omega)])]
      omega
    · rw [ih (by omega), if_neg (by omega)]; omega

theorem Ar.list_len {A : Ar} (h : A.Ok) : A.list.length + A.stack.length = A.fresh := by
  have hn : (A.list ++ A.stack).Nodup := by
    rw [List.nodup_append]
    refine ⟨List.Pairwise.filter _ List.nodup_range, h.nodup, ?_⟩
    intro a ha b hb e
    subst e
    have := (List.mem_filter.1 ha).2
    simp only [Ar.used, decide_eq_true_eq] at this
    exact this.2 hb
  have h1 := hn.length_le_of_subset (l₂ := List.range A.fresh) (by
    intro x hx
    rcases List.mem_append.1 hx with hx | hx
    · have := (List.mem_filter.1 hx).2
      simp only [Ar.used, decide_eq_true_eq] at this
      exact List.mem_range.2 this.1
    · exact List.mem_range.2 (h.lt x hx))
  have h2 := (List.nodup_range (n := A.fresh)).length_le_of_subset (l₂ := A.list ++ A.stack) (by
    intro x hx
    have hx := List.mem_range.1 hx
    by_cases hs : x ∈ A.stack
    · exact List.mem_append_right _ hs
    · refine List.mem_append_left _ (List.mem_filter.2 ⟨List.mem_range.2 ?_, ?_⟩)
      · have := h.fresh; omega
      · simp only [Ar.used, decide_eq_true_eq]; exact ⟨hx, hs⟩)
  simp only [List.length_append, List.length_range] at h1 h2
  omega

theorem Ar.list_used {A : Ar} {x : Nat} (h : x ∈ A.list) : A.used x = true := (List.mem_filter.1 h).2
theorem Ar.list_sorted (A : Ar) : A.list.Pairwise (· < ·) := List.Pairwise.filter _ List.pairwise_lt_range

structure PInv (n : Nat) (s : PSt) (k : Nat) : Prop where
  slots : s.A.slots = n
  ok : s.A.Ok
  count : s.A.fresh + s.frees = s.allocs + s.A.stack.length
  sum : sumTo s.A.times n = s.allocs
  most : s.allocs ≤ k

theorem PInv.step {n : Nat} {s : PSt} {k : Nat} (h : PInv n s k) (hk : k ≤ 500) (x : Int) : PInv n (pstep n s x) (k + 1) := by
  unfold pstep
  split
  · split
    · rename_i i hi
      have hin : i < n := by have := Ar.next_lt h.ok hi; have := h.slots; omega
      have ht : s.A.times i ≤ s.allocs := by rw [← h.sum]; exact sumTo_le _ hin
      have hm := h.most
      refine ⟨h.slots, Ar.take_ok h.ok hi, ?_, ?_, by simp; exact h.most⟩
      · have hc := h.count
        unfold Ar.next at hi
        simp only [Ar.take]
        split at hi
        · rename_i y t hst
          rw [hst] at hc ⊢
          simp at hc ⊢
          omega
        · rename_i hst
          rw [hst] at hc ⊢
          simp at hc ⊢
          omega
      · simp only [Ar.take]
        rw [sumTo_congr (g := fun j => if j = i then s.A.times i + 1 else s.A.times j) (fun j _ => by
          by_cases e : j = i
          · rw [if_pos e, if_pos e, Nat.mod_eq_of_lt (by omega)]
          · rw [if_neg e, if_neg e])]
        rw [sumTo_bump _ hin, h.sum]
    · exact ⟨h.slots, h.ok, h.count, h.sum, Nat.le_succ_of_le h.most⟩
  · split
    · rename_i hu
      refine ⟨h.slots, Ar.freed_ok h.ok hu, ?_, h.sum, Nat.le_succ_of_le h.most⟩
      have := h.count
      simp only [Ar.freed, List.length_cons]
      omega
    · exact ⟨h.slots, h.ok, h.count, h.sum, Nat.le_succ_of_le h.most⟩

theorem sumTo_zero (k : Nat) : sumTo (fun _ => 0) k = 0 := by
  induction k with
  | zero => rfl
  | succ k ih => simp only [sumTo, ih]

theorem prun_inv (n : Nat) (hn : n ≤ 65536) (zs : List Int) (k : Nat) (hk : k ≤ 500) : PInv n (prun n zs k) k := by
  induction k with
  | zero => exact ⟨rfl, ⟨Nat.zero_le _, hn, by simp [prun, Ar.new], by simp [prun, Ar.new]⟩, rfl, sumTo_zero n, Nat.le_refl _⟩
  | succ k ih =>
    by_cases hlt : k < zs.length
    · rw [prun_succ n zs k hlt]
      exact (ih (by omega)).step (by omega) _
    · have h := ih (by omega)
      have e : prun n zs (k + 1) = prun n zs k := by
        unfold prun
        rw [List.take_of_length_le (by omega), List.take_of_length_le (by omega)]
      rw [e]
      exact ⟨h.slots, h.ok, h.count, h.sum, Nat.le_succ_of_le h.most⟩
end Go.Proofs.Ytljcedlmnbofaaa
