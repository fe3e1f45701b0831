/- ArP: layer 2: plain facts about arenas. No program here. -/
import Derived.Test.YthlfmlpdnbeelaaArenaS
set_option linter.unusedSimpArgs false
set_option linter.unusedVariables false
namespace Go.Proofs.Ythlfmlpdnbeelaa

namespace Ar
theorem p_list_len {A : Ar} (h : A.Ok) : A.list.length + A.stack.length = A.fresh := by
  have hn : (A.list ++ A.stack).Nodup := by
    rw [List.nodup_append]
    refine ⟨List.Pairwise.filter _ List.nodup_range, h.nodup, ?_⟩
    intro a ha b hb e
    subst e
    have := (List.mem_filter.1 ha).2
    simp only [Ar.used, decide_eq_true_eq] at this
    exact this.2 hb
  have h1 := hn.length_le_of_subset (l₂ := List.range A.fresh) (by
    intro x hx
    rcases List.mem_append.1 hx with hx | hx
    · have := (List.mem_filter.1 hx).2
      simp only [Ar.used, decide_eq_true_eq] at this
      exact List.mem_range.2 this.1
    · exact List.mem_range.2 (h.lt x hx))
  have h2 := (List.nodup_range (n := A.fresh)).length_le_of_subset (l₂ := A.list ++ A.stack) (by
    intro x hx
    have hx := List.mem_range.1 hx
    by_cases hs : x ∈ A.stack
    · exact List.mem_append_right _ hs
    · refine List.mem_append_left _ (List.mem_filter.2 ⟨List.mem_range.2 ?_, ?_⟩)
      · have := h.fresh; omega
      · simp only [Ar.used, decide_eq_true_eq]; exact ⟨hx, hs⟩)
  simp only [List.length_append, List.length_range] at h1 h2
  omega
theorem used_lt {A : Ar} {i : Nat} (h : A.used i = true) : i < A.fresh := by
  simp only [used, decide_eq_true_eq] at h; exact h.1
theorem p_mem_list {A : Ar} (h : A.Ok) (i : Nat) : i ∈ A.list ↔ A.used i = true := by
  unfold list listTo
  rw [List.mem_filter, List.mem_range]
  exact ⟨fun h => h.2, fun hu => ⟨by have := used_lt hu; have := h.fresh; omega, hu⟩⟩
theorem p_nodup_list (A : Ar) : A.list.Nodup := List.Pairwise.filter _ List.nodup_range
theorem p_sorted_list (A : Ar) : A.list.Pairwise (· < ·) := List.Pairwise.filter _ List.pairwise_lt_range
theorem p_next {A : Ar} (h : A.Ok) (hl : A.list.length < A.slots) : ∃ i, A.next = some i ∧ i < A.slots ∧ A.used i = false ∧ ((i = A.fresh ∧ A.stack = []) ∨ (i < A.fresh ∧ A.stack ≠ [])) := by
  have h1 := p_list_len h
  have h2 := h.fresh
  unfold next
  cases hs : A.stack with
  | nil =>
    rw [hs] at h1
    simp only [List.length_nil, Nat.add_zero] at h1
    refine ⟨A.fresh, by simp; omega, by omega, ?_, Or.inl ⟨rfl, rfl⟩⟩
    simp [used]
  | cons x s =>
    have hx := h.lt x (by rw [hs]; simp)
    refine ⟨x, rfl, by omega, ?_, Or.inr ⟨hx, by simp⟩⟩
    simp [used, hs]
theorem p_next_none {A : Ar} (h : A.Ok) (hl : A.list.length = A.slots) : A.next = none := by
  have h1 := p_list_len h
  have h2 := h.fresh
  unfold next
  cases hs : A.stack with
  | nil =>
    rw [hs] at h1
    simp only [List.length_nil, Nat.add_zero] at h1
    simp; omega
  | cons x s =>
    rw [hs] at h1
    simp only [List.length_cons] at h1
    omega
theorem p_next_inv {A : Ar} (h : A.Ok) {i : Nat} (hi : A.next = some i) : i < A.slots ∧ A.used i = false ∧ ((i = A.fresh ∧ A.stack = []) ∨ (i < A.fresh ∧ ∃ s, A.stack = i :: s)) := by
  unfold next at hi
  have h2 := h.fresh
  split at hi
  · rename_i x s hs
    simp only [Option.some.injEq] at hi
    subst hi
    have hx := h.lt x (by rw [hs]; simp)
    exact ⟨by omega, by simp [used, hs], Or.inr ⟨hx, s, hs⟩⟩
  · rename_i hs
    split at hi
    · simp only [Option.some.injEq] at hi
      subst hi
      exact ⟨by omega, by simp [used], Or.inl ⟨rfl, hs⟩⟩
    · simp at hi
theorem take_used {A : Ar} (h : A.Ok) {i : Nat} (hi : A.next = some i) (j : Nat) : (A.take i).used j = true ↔ j = i ∨ A.used j = true := by
  obtain ⟨_, _, h3⟩ := p_next_inv h hi
  rcases h3 with ⟨h3, h4⟩ | ⟨h3, s, h4⟩
  · subst h3
    simp only [used, take, h4, if_true, List.tail_nil, List.not_mem_nil, not_false_eq_true, and_true, decide_eq_true_eq]
    omega
  · have hn := h.nodup
    rw [h4] at hn
    have hni := (List.nodup_cons.1 hn).1
    simp only [used, take, h4, List.tail_cons, List.mem_cons, decide_eq_true_eq]
    rw [if_neg (by simp)]
    by_cases e : j = i
    · subst e; simp [h3, hni]
    · simp [e]
theorem take_fresh {A : Ar} (h : A.Ok) {i : Nat} (hi : A.next = some i) : (A.take i).fresh = if i = A.fresh then A.fresh + 1 else A.fresh := by
  obtain ⟨_, _, h3⟩ := p_next_inv h hi
  rcases h3 with ⟨h3, h4⟩ | ⟨h3, s, h4⟩
  · rw [if_pos h3]; simp [take, h4]
  · rw [if_neg (by omega)]; simp [take, h4]
theorem p_take_len {A : Ar} (h : A.Ok) {i : Nat} (hi : A.next = some i) : (A.take i).list.length = A.list.length + 1 := by
  have h1 := p_list_len h
  have h2 := p_list_len (take_ok h hi)
  obtain ⟨_, _, h3⟩ := p_next_inv h hi
  rcases h3 with ⟨h3, h4⟩ | ⟨h3, s, h4⟩
  · simp only [take, h4] at h2 ⊢
    rw [h4] at h1
    simp at h1 h2 ⊢
    omega
  · simp only [take, h4] at h2 ⊢
    rw [h4] at h1
    simp at h1 h2 ⊢
    omega
theorem take_slots' (A : Ar) (i : Nat) : (A.take i).slots = A.slots := rfl
theorem freed_used {A : Ar} (i j : Nat) : (A.freed i).used j = true ↔ A.used j = true ∧ j ≠ i := by
  simp only [used, freed, List.mem_cons, decide_eq_true_eq]
  constructor
  · rintro ⟨h1, h2⟩; exact ⟨⟨h1, fun h => h2 (Or.inr h)⟩, fun h => h2 (Or.inl h)⟩
  · rintro ⟨⟨h1, h2⟩, h3⟩; exact ⟨h1, fun h => h.elim h3 h2⟩
theorem p_freed_len {A : Ar} (h : A.Ok) {i : Nat} (hu : A.used i = true) : (A.freed i).list.length + 1 = A.list.length := by
  have h1 := p_list_len h
  have h2 := p_list_len (freed_ok h hu)
  simp only [freed, List.length_cons] at h2
  simp only [freed]
  omega
/-- A slot that is freed is the next one. -/
theorem freed_next (A : Ar) (i : Nat) : (A.freed i).next = some i := rfl
theorem p_len_le {A : Ar} (h : A.Ok) : A.list.length ≤ A.slots := by
  have := p_list_len h; have := h.fresh; omega
theorem new_ok' {n : Nat} (h : n ≤ 65536) : (Ar.new n).Ok := ⟨Nat.zero_le _, h, by simp [Ar.new], by simp [Ar.new]⟩
theorem new_used (n i : Nat) : (Ar.new n).used i = false := by simp [used, Ar.new]
theorem new_len (n : Nat) : (Ar.new n).list.length = 0 := by
  by_cases h : n ≤ 65536
  · have := p_list_len (new_ok' h); simp [Ar.new] at this ⊢; exact this
  · rw [List.length_eq_zero_iff]
    unfold list listTo
    rw [List.filter_eq_nil_iff]
    intro a _; simp [new_used]
end Ar
end Go.Proofs.Ythlfmlpdnbeelaa
