/- HeapA: layer 4, the heap as the document has it: which index has which key; no program here. -/
import Derived.Test.YtmlbacbcdjfioaaHeapM
set_option linter.unusedSimpArgs false
set_option linter.unusedVariables false
namespace Go.Proofs.Ytmlbacbcdjfioaa

/-- A heap as the document has it: how many indexes there are, and the keys of those that are in it. -/
structure Hp where
  slots : Nat
  keys : Nat → Option Int

namespace Hp
structure Ok (A : Hp) : Prop where
  slots : A.slots ≤ 65536
  lt : ∀ i v, A.keys i = some v → i < A.slots
  wf : ∀ i v, A.keys i = some v → -9223372036854775808 ≤ v ∧ v ≤ 9223372036854775807
def put (A : Hp) (i : Nat) (v : Int) : Hp := { A with keys := fun j => if j = i then some v else A.keys j }
def del (A : Hp) (i : Nat) : Hp := { A with keys := fun j => if j = i then none else A.keys j }
def new (n : Nat) : Hp := { slots := n, keys := fun _ => none }
structure IsMin (A : Hp) (e : Ent) : Prop where
  there : A.keys e.1 = some e.2
  least : ∀ i v, A.keys i = some v → before (i, v) e = false
theorem IsMin.uniq {A : Hp} {x y : Ent} (h : A.IsMin x) (k : A.IsMin y) : x = y :=
  before_total (k.least _ _ h.there) (h.least _ _ k.there)
open Classical in
noncomputable def first (A : Hp) : Option Ent := if h : ∃ e, A.IsMin e then some h.choose else none
theorem first_eq {A : Hp} {e : Ent} (h : A.IsMin e) : A.first = some e := by
  have hx : ∃ e, A.IsMin e := ⟨e, h⟩
  unfold first
  rw [dif_pos hx]
  exact congrArg some (hx.choose_spec.uniq h)
theorem first_min {A : Hp} {e : Ent} (h : A.first = some e) : A.IsMin e := by
  unfold first at h
  split at h
  · rename_i hx
    simp only [Option.some.injEq] at h
    rw [← h]; exact hx.choose_spec
  · simp at h
theorem first_empty {A : Hp} (h : ∀ i, A.keys i = none) : A.first = none := by
  unfold first
  rw [dif_neg]
  rintro ⟨e, he⟩
  have := he.there
  rw [h] at this
  simp at this
def list (A : Hp) : List Nat := (List.range A.slots).filter fun i => (A.keys i).isSome
def len (A : Hp) : Nat := A.list.length
theorem mem_list {A : Hp} (h : A.Ok) (i : Nat) : i ∈ A.list ↔ ∃ v, A.keys i = some v := by
  simp only [list, List.mem_filter, List.mem_range, Option.isSome_iff_exists]
  exact ⟨fun h => h.2, fun ⟨v, hv⟩ => ⟨h.lt i v hv, v, hv⟩⟩
theorem nodup_list (A : Hp) : A.list.Nodup := List.nodup_range.filter _
theorem len_le {A : Hp} : A.len ≤ A.slots := by
  have := List.length_filter_le (fun i => (A.keys i).isSome) (List.range A.slots)
  simpa [len, list] using this
theorem put_ok {A : Hp} (h : A.Ok) {i : Nat} {v : Int} (hi : i < A.slots) (hv : -9223372036854775808 ≤ v ∧ v ≤ 9223372036854775807) : (A.put i v).Ok := by
  refine ⟨h.slots, ?_, ?_⟩
  · intro j u hj
    simp only [put] at hj
    split at hj
    · rename_i e; rw [e]; exact hi
    · exact h.lt j u hj
  · intro j u hj
    simp only [put] at hj
    split at hj
    · simp at hj; omega
    · exact h.wf j u hj
theorem del_ok {A : Hp} (h : A.Ok) (i : Nat) : (A.del i).Ok := by
  refine ⟨h.slots, ?_, ?_⟩
  · intro j u hj
    simp only [del] at hj
    split at hj
    · simp at hj
    · exact h.lt j u hj
  · intro j u hj
    simp only [del] at hj
    split at hj
    · simp at hj
    · exact h.wf j u hj
theorem new_ok {n : Nat} (h : n ≤ 65536) : (new n).Ok := ⟨h, fun i v h => by simp [new] at h, fun i v h => by simp [new] at h⟩
end Hp

/-- A table of entries holds a heap's. -/
structure Rep (A : Hp) (n : Nat) (f : Nat → Ent) : Prop where
  inj : ∀ j k, j < n → k < n → (f j).1 = (f k).1 → j = k
  to : ∀ k, k < n → A.keys (f k).1 = some (f k).2
  back : ∀ i v, A.keys i = some v → ∃ k, k < n ∧ f k = (i, v)

theorem Rep.same {A : Hp} {n : Nat} {f g : Nat → Ent} (h : Rep A n f) (s : SameEnts n f g) : Rep A n g := by
  refine ⟨s.inj h.inj, ?_, ?_⟩
  · intro k hk
    obtain ⟨j, hj, e⟩ := s.back k hk
    rw [← e]; exact h.to j hj
  · intro i v hi
    obtain ⟨k, hk, e⟩ := h.back i v hi
    obtain ⟨j, hj, e2⟩ := s.to k hk
    exact ⟨j, hj, e2.trans e⟩
theorem Rep.none_ne {A : Hp} {n : Nat} {f : Nat → Ent} (h : Rep A n f) {i : Nat} (hi : A.keys i = none) : ∀ k, k < n → (f k).1 ≠ i := by
  intro k hk e
  have := h.to k hk
  rw [e, hi] at this
  simp at this
theorem Rep.push {A : Hp} {n : Nat} {f : Nat → Ent} (h : Rep A n f) {i : Nat} (v : Int) (hi : A.keys i = none) : Rep (A.put i v) (n + 1) (fun k => if k = n then (i, v) else f k) := by
  have hne := h.none_ne hi
  refine ⟨?_, ?_, ?_⟩
  · intro j k hj hk e
    by_cases h1 : j = n
    · by_cases h2 : k = n
      · omega
      · simp only [h1, h2, if_true, if_false] at e
        exact absurd e.symm (hne k (by omega))
    · by_cases h2 : k = n
      · simp only [h1, h2, if_true, if_false] at e
        exact absurd e (hne j (by omega))
      · simp only [h1, h2, if_false] at e
        exact h.inj j k (by omega) (by omega) e
  · intro k hk
    by_cases h1 : k = n
    · simp [h1, Hp.put]
    · simp only [h1, if_false, Hp.put, hne k (by omega)]
      exact h.to k (by omega)
  · intro j u hj
    simp only [Hp.put] at hj
    by_cases h1 : j = i
    · refine ⟨n, by omega, ?_⟩
      rw [if_pos h1] at hj
      simp at hj
      simp [h1, hj]
    · rw [if_neg h1] at hj
      obtain ⟨k, hk, e⟩ := h.back j u hj
      exact ⟨k, by omega, by rw [if_neg (by omega)]; exact e⟩
theorem Rep.change {A : Hp} {n : Nat} {f : Nat → Ent} (h : Rep A n f) {i k : Nat} (v : Int) (hk : k < n) (hi : (f k).1 = i) : Rep (A.put i v) n (fun j => if j = k then (i, v) else f j) := by
  have hf : ∀ j, ((if j = k then (i, v) else f j : Ent)).1 = (f j).1 := by
    intro j
    by_cases h1 : j = k
    · simp [h1, hi]
    · simp [h1]
  refine ⟨?_, ?_, ?_⟩
  · intro a b ha hb e
    simp only [hf] at e
    exact h.inj a b ha hb e
  · intro a ha
    rw [hf]
    by_cases h1 : a = k
    · simp [h1, hi, Hp.put]
    · have : (f a).1 ≠ i := fun e => h1 (h.inj a k ha hk (e.trans hi.symm))
      simp only [Hp.put, this, if_false, h1]
      exact h.to a ha
  · intro j u hj
    simp only [Hp.put] at hj
    by_cases h1 : j = i
    · rw [if_pos h1] at hj
      simp at hj
      exact ⟨k, hk, by simp [h1, hj]⟩
    · rw [if_neg h1] at hj
      obtain ⟨a, ha, e⟩ := h.back j u hj
      refine ⟨a, ha, ?_⟩
      rw [if_neg]
      · exact e
      · intro e2
        rw [e2] at e
        rw [e] at hi
        exact h1 hi
theorem Rep.del {A : Hp} {n : Nat} {f : Nat → Ent} (h : Rep A n f) {i k : Nat} (hk : k < n) (hi : (f k).1 = i) : Rep (A.del i) (n - 1) (fun j => if j = k then f (n - 1) else f j) := by
  have key : ∀ j, j < n - 1 → ∃ m, m < n ∧ m ≠ k ∧ (if j = k then f (n - 1) else f j) = f m ∧ (j = k → m = n - 1) ∧ (j ≠ k → m = j) := by
    intro j hj
    by_cases h1 : j = k
    · exact ⟨n - 1, by omega, by omega, by simp [h1], fun _ => rfl, fun h => absurd h1 h⟩
    · exact ⟨j, by omega, h1, by simp [h1], fun h => absurd h h1, fun _ => rfl⟩
  refine ⟨?_, ?_, ?_⟩
  · intro a b ha hb e
    obtain ⟨p, hp, p1, p2, p3, p4⟩ := key a ha
    obtain ⟨q, hq, q1, q2, q3, q4⟩ := key b hb
    simp only [p2, q2] at e
    have := h.inj p q hp hq e
    omega
  · intro a ha
    obtain ⟨p, hp, p1, p2, p3, p4⟩ := key a ha
    simp only [p2]
    have : (f p).1 ≠ i := fun e => p1 (h.inj p k hp hk (e.trans hi.symm))
    simp only [Hp.del, this, if_false]
    exact h.to p hp
  · intro j u hj
    simp only [Hp.del] at hj
    by_cases h1 : j = i
    · rw [if_pos h1] at hj; simp at hj
    · rw [if_neg h1] at hj
      obtain ⟨a, ha, e⟩ := h.back j u hj
      have hak : a ≠ k := by
        intro e2
        rw [e2] at e
        rw [e] at hi
        exact h1 hi
      by_cases h2 : a = n - 1
      · exact ⟨k, by omega, by simp only [if_true]; rw [← h2]; exact e⟩
      · exact ⟨a, by omega, by rw [if_neg hak]; exact e⟩
theorem Rep.len {A : Hp} {n : Nat} {f : Nat → Ent} (h : Rep A n f) (ho : A.Ok) : n = A.len := by
  have hm : ∀ i, i ∈ (List.range n).map (fun k => (f k).1) ↔ i ∈ A.list := by
    intro i
    rw [Hp.mem_list ho, List.mem_map]
    constructor
    · rintro ⟨k, hk, rfl⟩
      exact ⟨_, h.to k (List.mem_range.1 hk)⟩
    · rintro ⟨v, hv⟩
      obtain ⟨k, hk, e⟩ := h.back i v hv
      exact ⟨k, List.mem_range.2 hk, by rw [e]⟩
  have hn : ((List.range n).map (fun k => (f k).1)).Nodup := by
    rw [List.nodup_iff_pairwise_ne, List.pairwise_map]
    have := List.nodup_range (n := n)
    rw [List.nodup_iff_pairwise_ne] at this
    refine this.imp_of_mem ?_
    intro a b ha hb hab e
    exact hab (h.inj a b (List.mem_range.1 ha) (List.mem_range.1 hb) e)
  have h1 := hn.length_le_of_subset (l₂ := A.list) (fun y hy => (hm y).1 hy)
  have h2 := (A.nodup_list).length_le_of_subset (l₂ := (List.range n).map (fun k => (f k).1)) (fun y hy => (hm y).2 hy)
  simp only [List.length_map, List.length_range] at h1 h2
  unfold Hp.len
  omega
theorem Rep.first {A : Hp} {n : Nat} {f : Nat → Ent} (h : Rep A n f) (ho : HeapOrd n f) (hn : 0 < n) : A.first = some (f 0) := by
  refine Hp.first_eq ⟨h.to 0 hn, ?_⟩
  intro i v hi
  obtain ⟨k, hk, e⟩ := h.back i v hi
  rw [← e]
  exact ho.root k hk
theorem Rep.empty {A : Hp} {f : Nat → Ent} (h : Rep A 0 f) (i : Nat) : A.keys i = none := by
  cases hk : A.keys i with
  | none => rfl
  | some v =>
    obtain ⟨k, hk, _⟩ := h.back i v hk
    omega
theorem Rep.first_none {A : Hp} {f : Nat → Ent} (h : Rep A 0 f) : A.first = none := Hp.first_empty h.empty
theorem Rep.new (m : Nat) (f : Nat → Ent) : Rep (Hp.new m) 0 f := ⟨fun _ _ h => by omega, fun _ h => by omega, fun i v h => by simp [Hp.new] at h⟩

/-! What the calls do. -/
def Hp.pushE (A : Hp) (i : Int) : Int := if 0 ≤ i ∧ i < A.slots then (if A.keys i.toNat = none then 0 else 6) else 3
def Hp.pushA (A : Hp) (i v : Int) : Hp := if 0 ≤ i ∧ i < A.slots ∧ A.keys i.toNat = none then A.put i.toNat v else A
def Hp.remE (A : Hp) (i : Int) : Int := if 0 ≤ i ∧ i < A.slots then (if A.keys i.toNat = none then 5 else 0) else 3
def Hp.remA (A : Hp) (i : Int) : Hp := if 0 ≤ i ∧ i < A.slots ∧ A.keys i.toNat ≠ none then A.del i.toNat else A
def Hp.chgA (A : Hp) (i v : Int) : Hp := if 0 ≤ i ∧ i < A.slots ∧ A.keys i.toNat ≠ none then A.put i.toNat v else A
noncomputable def Hp.popA (A : Hp) : Hp := match A.first with
  | some e => A.del e.1
  | none => A
def Hp.keyAt (A : Hp) (i : Int) : Option Int := if 0 ≤ i then A.keys i.toNat else none
end Go.Proofs.Ytmlbacbcdjfioaa
