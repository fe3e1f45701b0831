/- R4M: layer 4: the document's heap, as a list; no program here. -/
import Derived.Test.YtmlbacbcdjfioaaHpS
import Derived.Test.YtmlbacbcdjfioaaLs
set_option linter.unusedSimpArgs false
set_option linter.unusedVariables false
namespace Go.Proofs.Ytmlbacbcdjfioaa

/-- L: the entries of A, each once. -/
structure Lst (A : Hp) (L : List Ent) : Prop where
  mem : ∀ i v, A.keys i = some v ↔ (i, v) ∈ L
  nd : (L.map Prod.fst).Nodup

theorem entAt_mem {L : List Ent} {j : Nat} (h : j < L.length) : entAt L j ∈ L := by rw [← entAt_eq h]; exact List.getElem_mem h
theorem mem_entAt {L : List Ent} {x : Ent} (h : x ∈ L) : ∃ j, j < L.length ∧ entAt L j = x := by
  obtain ⟨j, hj, e⟩ := List.getElem_of_mem h
  exact ⟨j, hj, by rw [← entAt_eq hj]; exact e⟩
namespace Lst
variable {A : Hp} {L : List Ent}
theorem inj (h : Lst A L) {x y : Ent} (hx : x ∈ L) (hy : y ∈ L) (e : x.1 = y.1) : x = y := by
  have h1 := (h.mem x.1 x.2).2 hx
  have h2 := (h.mem y.1 y.2).2 hy
  rw [e, h2] at h1
  simp at h1
  exact Prod.ext e h1.symm
theorem idx (h : Lst A L) {j k : Nat} (hj : j < L.length) (hk : k < L.length) (e : (entAt L j).1 = (entAt L k).1) : j = k := by
  have hn := h.nd
  rw [List.nodup_iff_pairwise_ne, List.pairwise_map, List.pairwise_iff_getElem] at hn
  rw [← entAt_eq hj, ← entAt_eq hk] at e
  rcases Nat.lt_trichotomy j k with h1 | h1 | h1
  · exact absurd e (hn j k hj hk h1)
  · exact h1
  · exact absurd e.symm (hn k j hk hj h1)
theorem at_ (h : Lst A L) {j : Nat} (hj : j < L.length) : A.keys (entAt L j).1 = some (entAt L j).2 := (h.mem _ _).2 (entAt_mem hj)
theorem none_of (h : Lst A L) {i : Nat} (hno : ∀ j, j < L.length → ((entAt L j).1 : Int) ≠ (i : Int)) : A.keys i = none := by
  cases hk : A.keys i with
  | none => rfl
  | some u =>
    obtain ⟨j, hj, e⟩ := mem_entAt ((h.mem _ _).1 hk)
    exact absurd (by rw [e]) (hno j hj)
theorem len_le (h : Lst A L) (ho : A.Ok) : L.length ≤ A.slots := by
  have := h.nd.length_le_of_subset (l₂ := List.range A.slots) (fun y hy => by
    obtain ⟨x, hx, rfl⟩ := List.mem_map.1 hy
    exact List.mem_range.2 (ho.lt _ _ ((h.mem x.1 x.2).2 hx)))
  simpa using this
theorem len (h : Lst A L) {M : List Ent} (hs : Srt A M) : L.length = M.length := by
  have h1 := h.nd.length_le_of_subset (l₂ := M.map Prod.fst) (fun y hy => by
    obtain ⟨x, hx, rfl⟩ := List.mem_map.1 hy
    exact List.mem_map.2 ⟨x, (hs.mem x.1 x.2).1 ((h.mem x.1 x.2).2 hx), rfl⟩)
  have h2 := hs.nodup.length_le_of_subset (l₂ := L.map Prod.fst) (fun y hy => by
    obtain ⟨x, hx, rfl⟩ := List.mem_map.1 hy
    exact List.mem_map.2 ⟨x, (h.mem x.1 x.2).1 ((hs.mem x.1 x.2).2 hx), rfl⟩)
  simp only [List.length_map] at h1 h2
  omega
theorem new (n : Nat) : Lst (Hp.new n) [] := ⟨fun i v => by simp [Hp.new], by simp⟩
theorem push (h : Lst A L) {i : Nat} (x : Int) (hk : A.keys i = none) : Lst (A.put i x) (L ++ [(i, x)]) := by
  refine ⟨fun j v => ?_, ?_⟩
  · simp only [Hp.put, List.mem_append, List.mem_singleton, Prod.mk.injEq]
    by_cases e : j = i
    · subst e
      rw [if_pos rfl]
      constructor
      · intro h; simp at h; simp [h]
      · rintro (h1 | h1)
        · rw [← h.mem, hk] at h1; simp at h1
        · simp [h1]
    · rw [if_neg e, h.mem]; simp [e]
  · rw [List.map_append, List.nodup_append]
    refine ⟨h.nd, by simp, ?_⟩
    intro a ha b hb e
    simp at hb
    subst e hb
    obtain ⟨x, hx, rfl⟩ := List.mem_map.1 ha
    have := (h.mem x.1 x.2).2 hx
    rw [hk] at this
    simp at this
theorem del (h : Lst A L) {j : Nat} (hj : j < L.length) : Lst (A.del (entAt L j).1) (dropAt L (j : Int)) := by
  have e : dropAt L (j : Int) = L.eraseIdx j := by unfold dropAt; rw [if_pos (by omega)]; simp
  rw [e]
  refine ⟨fun i v => ?_, ?_⟩
  · rw [List.mem_eraseIdx_iff_getElem]
    simp only [Hp.del]
    constructor
    · intro hi
      split at hi
      · simp at hi
      · rename_i hne
        obtain ⟨k, hk, e2⟩ := mem_entAt ((h.mem _ _).1 hi)
        refine ⟨k, hk, ?_, by rw [entAt_eq hk]; exact e2⟩
        intro e3
        subst e3
        rw [e2] at hne
        exact hne rfl
    · rintro ⟨k, hk, hne, e2⟩
      rw [entAt_eq hk] at e2
      rw [if_neg]
      · rw [h.mem, ← e2]; exact entAt_mem hk
      · intro e3
        exact hne (h.idx hk hj (by rw [e2]; exact e3))
  · exact h.nd.sublist ((List.eraseIdx_sublist L j).map _)
theorem slots_irrel {s : Nat} (h : Lst A L) : Lst { A with slots := s } L := ⟨h.mem, h.nd⟩
/-- The least of the list is the first in order. -/
theorem least (h : Lst A L) {M : List Ent} (hs : Srt A M) {f : Nat} (hf : f < L.length) (hmin : ∀ j, j < L.length → before (entAt L j) (entAt L f) = false) : ∃ N, M = entAt L f :: N := by
  have h1 : A.first = some (entAt L f) := by
    refine Hp.first_eq ⟨h.at_ hf, ?_⟩
    intro i v hi
    obtain ⟨j, hj, e⟩ := mem_entAt ((h.mem _ _).1 hi)
    rw [← e]
    exact hmin j hj
  rw [hs.first_eq] at h1
  cases M with
  | nil => simp at h1
  | cons y N => simp only [List.head?_cons, Option.some.injEq] at h1; exact ⟨N, by rw [h1]⟩
theorem empty (h : Lst A []) {M : List Ent} (hs : Srt A M) : M = [] := by
  have := h.len hs
  simp at this
  exact List.length_eq_zero_iff.1 this.symm
end Lst
theorem dropAt_neg (L : List Ent) : dropAt L (-1) = L := by unfold dropAt; rw [if_neg (by omega)]
theorem dropAt_length {L : List Ent} {j : Nat} (h : j < L.length) : (dropAt L (j : Int)).length + 1 = L.length := by
  unfold dropAt; rw [if_pos (by omega), Int.toNat_natCast, List.length_eraseIdx, if_pos h]; omega
end Go.Proofs.Ytmlbacbcdjfioaa
