/- HpS: layer 4: the entries of a heap, in order; no program here. -/
import Derived.Test.YtmlbacbcdjfioaaHeapA
set_option linter.unusedSimpArgs false
set_option linter.unusedVariables false
namespace Go.Proofs.Ytmlbacbcdjfioaa

def entAt (L : List Ent) (k : Nat) : Ent := L.getD k (0, 0)
theorem entAt_eq {L : List Ent} {k : Nat} (h : k < L.length) : L[k] = entAt L k := by simp [entAt, List.getD, h]

/-- L: the entries of A, in order. -/
structure Srt (A : Hp) (L : List Ent) : Prop where
  mem : ∀ i v, A.keys i = some v ↔ (i, v) ∈ L
  ord : L.Pairwise (fun x y => before x y = true)

theorem srt_ext : ∀ {L M : List Ent}, L.Pairwise (fun x y => before x y = true) → M.Pairwise (fun x y => before x y = true) → (∀ x, x ∈ L ↔ x ∈ M) → L = M
  | [], [], _, _, _ => rfl
  | [], y :: M, _, _, h => by have := (h y).2 (by simp); simp at this
  | x :: L, [], _, _, h => by have := (h x).1 (by simp); simp at this
  | x :: L, y :: M, hl, hm, h => by
    rw [List.pairwise_cons] at hl hm
    have hxy : x = y := by
      have h1 := (h x).1 (by simp)
      have h2 := (h y).2 (by simp)
      rw [List.mem_cons] at h1 h2
      rcases h1 with h1 | h1
      · exact h1
      · rcases h2 with h2 | h2
        · exact h2.symm
        · have a := hl.1 y h2
          have b := hm.1 x h1
          rw [before_asymm a] at b
          simp at b
    subst hxy
    congr 1
    refine srt_ext hl.2 hm.2 fun z => ?_
    have hz := h z
    simp only [List.mem_cons] at hz
    constructor
    · intro hzl
      rcases hz.1 (Or.inr hzl) with e | e
      · have := hl.1 z hzl
        rw [e, before_irrefl] at this
        simp at this
      · exact e
    · intro hzm
      rcases hz.2 (Or.inr hzm) with e | e
      · have := hm.1 z hzm
        rw [e, before_irrefl] at this
        simp at this
      · exact e

theorem Srt.uniq {A : Hp} {L M : List Ent} (h : Srt A L) (k : Srt A M) : L = M :=
  srt_ext h.ord k.ord fun x => by rw [← h.mem x.1 x.2, ← k.mem x.1 x.2]

/-- An entry is added in its place. -/
def ins (x : Ent) : List Ent → List Ent
  | [] => [x]
  | y :: l => if before x y = true then x :: y :: l else y :: ins x l
theorem mem_ins (x z : Ent) : ∀ l, z ∈ ins x l ↔ z = x ∨ z ∈ l
  | [] => by simp [ins]
  | y :: l => by
    unfold ins
    split
    · simp
    · have := mem_ins x z l
      simp only [List.mem_cons, this]
      constructor
      · rintro (h | h | h) <;> simp [h]
      · rintro (h | h | h) <;> simp [h]
theorem ord_ins {x : Ent} : ∀ {l : List Ent}, l.Pairwise (fun x y => before x y = true) → (∀ y ∈ l, y.1 ≠ x.1) → (ins x l).Pairwise (fun x y => before x y = true)
  | [], _, _ => by simp [ins]
  | y :: l, h, hn => by
    rw [List.pairwise_cons] at h
    unfold ins
    split
    · rename_i hb
      rw [List.pairwise_cons, List.pairwise_cons]
      refine ⟨?_, h⟩
      intro z hz
      rcases List.mem_cons.1 hz with rfl | hz
      · exact hb
      · exact before_trans hb (h.1 z hz)
    · rename_i hb
      rw [List.pairwise_cons]
      refine ⟨?_, ord_ins h.2 (fun z hz => hn z (by simp [hz]))⟩
      intro z hz
      rcases (mem_ins x z l).1 hz with rfl | hz
      · have h1 : before z y = false := by simpa using hb
        have h2 := hn y (by simp)
        cases hb2 : before y z with
        | true => rfl
        | false => exact absurd (congrArg Prod.fst (before_total h1 hb2)) (fun e => h2 e.symm)
      · exact h.1 z hz
theorem len_ins (x : Ent) : ∀ l, (ins x l).length = l.length + 1
  | [] => rfl
  | y :: l => by unfold ins; split <;> simp [len_ins x l]

namespace Hp
def sortedN (A : Hp) : Nat → List Ent
  | 0 => []
  | k + 1 => match A.keys k with
    | some v => ins (k, v) (A.sortedN k)
    | none => A.sortedN k
def sorted (A : Hp) : List Ent := A.sortedN A.slots
theorem sortedN_spec (A : Hp) : ∀ k, (∀ i v, (i, v) ∈ A.sortedN k ↔ i < k ∧ A.keys i = some v) ∧ (A.sortedN k).Pairwise (fun x y => before x y = true)
  | 0 => by simp [sortedN]
  | k + 1 => by
    obtain ⟨h1, h2⟩ := sortedN_spec A k
    unfold sortedN
    split
    · rename_i v hv
      refine ⟨?_, ord_ins h2 ?_⟩
      · intro i u
        rw [mem_ins, h1]
        constructor
        · rintro (h | ⟨h, h'⟩)
          · simp at h; rw [h.1, h.2]; exact ⟨by omega, hv⟩
          · exact ⟨by omega, h'⟩
        · rintro ⟨h, h'⟩
          by_cases e : i = k
          · subst e
            rw [hv] at h'
            simp at h'
            left; simp [h']
          · right; exact ⟨by omega, h'⟩
      · rintro ⟨i, u⟩ hm
        have := (h1 i u).1 hm
        simp only
        omega
    · rename_i hv
      refine ⟨?_, h2⟩
      intro i u
      rw [h1]
      constructor
      · rintro ⟨h, h'⟩; exact ⟨by omega, h'⟩
      · rintro ⟨h, h'⟩
        refine ⟨?_, h'⟩
        by_cases e : i = k
        · subst e; rw [hv] at h'; simp at h'
        · omega
theorem sorted_srt {A : Hp} (h : A.Ok) : Srt A A.sorted := by
  obtain ⟨h1, h2⟩ := sortedN_spec A A.slots
  refine ⟨fun i v => ?_, h2⟩
  unfold sorted
  rw [h1]
  exact ⟨fun hk => ⟨h.lt i v hk, hk⟩, fun hk => hk.2⟩
end Hp

namespace Srt
variable {A : Hp} {L : List Ent}
theorem fst_inj (h : Srt A L) {x y : Ent} (hx : x ∈ L) (hy : y ∈ L) (e : x.1 = y.1) : x = y := by
  have h1 := (h.mem x.1 x.2).2 hx
  have h2 := (h.mem y.1 y.2).2 hy
  rw [e, h2] at h1
  simp at h1
  exact Prod.ext e h1.symm
theorem first_cons {x : Ent} (h : Srt A (x :: L)) : A.first = some x := by
  refine Hp.first_eq ⟨(h.mem x.1 x.2).2 (by simp), ?_⟩
  intro i v hi
  have hm := (h.mem i v).1 hi
  have ho := List.pairwise_cons.1 h.ord
  rcases List.mem_cons.1 hm with e | e
  · rw [e]; exact before_irrefl _
  · exact before_asymm (ho.1 _ e)
theorem first_nil (h : Srt A []) : A.first = none := by
  refine Hp.first_empty fun i => ?_
  cases hk : A.keys i with
  | none => rfl
  | some v => have := (h.mem i v).1 hk; simp at this
theorem first_eq (h : Srt A L) : A.first = L.head? := by
  cases L with
  | nil => exact h.first_nil
  | cons x L => exact h.first_cons
theorem del (h : Srt A L) (i : Nat) : Srt (A.del i) (L.filter fun x => x.1 != i) := by
  refine ⟨?_, h.ord.filter _⟩
  intro j v
  simp only [Hp.del, List.mem_filter, bne_iff_ne, ne_eq]
  by_cases e : j = i
  · simp [e]
  · simp only [e, if_false, not_false_eq_true, and_true]; exact h.mem j v
theorem del_cons {x : Ent} (h : Srt A (x :: L)) : Srt (A.del x.1) L := by
  have hd := h.del x.1
  have ho := List.pairwise_cons.1 h.ord
  have : (x :: L).filter (fun y => y.1 != x.1) = L := by
    rw [List.filter_cons]
    simp only [bne_self_eq_false, Bool.false_eq_true, if_false]
    rw [List.filter_eq_self]
    intro y hy
    simp only [bne_iff_ne, ne_eq]
    intro e
    have he := h.fst_inj (x := y) (y := x) (by simp [hy]) (by simp) e
    have := ho.1 y hy
    rw [he, before_irrefl] at this
    simp at this
  rw [this] at hd
  exact hd
theorem put (h : Srt A L) {i : Nat} (v : Int) : Srt (A.put i v) (ins (i, v) (L.filter fun x => x.1 != i)) := by
  refine ⟨?_, ord_ins (h.ord.filter _) ?_⟩
  · intro j u
    rw [mem_ins]
    simp only [Hp.put, List.mem_filter, bne_iff_ne, ne_eq, Prod.mk.injEq]
    by_cases e : j = i
    · subst e
      constructor
      · intro h; simp at h; simp [h]
      · rintro (h | h)
        · simp [h]
        · exact absurd rfl h.2
    · simp only [e, if_false, false_and, false_or, not_false_eq_true, and_true]
      exact h.mem j u
  · intro y hy
    simp only [List.mem_filter, bne_iff_ne, ne_eq] at hy
    exact hy.2
theorem put_new (h : Srt A L) {i : Nat} (v : Int) (hi : A.keys i = none) : Srt (A.put i v) (ins (i, v) L) := by
  have := h.put (i := i) v
  rwa [show L.filter (fun x => x.1 != i) = L by
    rw [List.filter_eq_self]
    intro y hy
    simp only [bne_iff_ne, ne_eq]
    intro e
    have := (h.mem y.1 y.2).2 hy
    rw [e, hi] at this
    simp at this] at this
theorem new (n : Nat) : Srt (Hp.new n) [] := ⟨fun i v => by simp [Hp.new], List.Pairwise.nil⟩
theorem popA_cons {x : Ent} (h : Srt A (x :: L)) : A.popA = A.del x.1 := by
  unfold Hp.popA; rw [h.first_cons]
theorem popA_nil (h : Srt A []) : A.popA = A := by
  unfold Hp.popA; rw [h.first_nil]
theorem pop_tail (h : Srt A L) : Srt A.popA L.tail := by
  cases L with
  | nil => rw [h.popA_nil]; exact h
  | cons x L => rw [h.popA_cons]; exact h.del_cons
theorem nodup (h : Srt A L) : (L.map Prod.fst).Nodup := by
  rw [List.nodup_iff_pairwise_ne, List.pairwise_map]
  refine h.ord.imp_of_mem ?_
  intro x y hx hy hb e
  rw [h.fst_inj hx hy e, before_irrefl] at hb
  simp at hb
theorem len (h : Srt A L) (ho : A.Ok) : A.len = L.length := by
  have hm : ∀ i, i ∈ L.map Prod.fst ↔ i ∈ A.list := by
    intro i
    rw [Hp.mem_list ho, List.mem_map]
    constructor
    · rintro ⟨x, hx, rfl⟩
      exact ⟨_, (h.mem x.1 x.2).2 hx⟩
    · rintro ⟨v, hv⟩
      exact ⟨(i, v), (h.mem i v).1 hv, rfl⟩
  have h1 := h.nodup.length_le_of_subset (l₂ := A.list) (fun y hy => (hm y).1 hy)
  have h2 := (A.nodup_list).length_le_of_subset (l₂ := L.map Prod.fst) (fun y hy => (hm y).2 hy)
  simp only [List.length_map] at h1 h2
  unfold Hp.len
  omega
end Srt

/-- What is due: as in order, so the first ones. -/
theorem due_split {L : List Ent} (now : Int) (k : Nat) (h1 : ∀ x ∈ L.take k, x.2 ≤ now) (h2 : ∀ x ∈ L.drop k, now < x.2) :
    L.take k = L.filter (fun x => decide (x.2 ≤ now)) ∧ L.drop k = L.filter (fun x => decide (now < x.2)) := by
  have a1 : (L.take k).filter (fun x => decide (x.2 ≤ now)) = L.take k := by
    rw [List.filter_eq_self]; intro x hx; simpa using h1 x hx
  have a2 : (L.drop k).filter (fun x => decide (x.2 ≤ now)) = [] := by
    rw [List.filter_eq_nil_iff]; intro x hx; have := h2 x hx; simp; omega
  have b1 : (L.drop k).filter (fun x => decide (now < x.2)) = L.drop k := by
    rw [List.filter_eq_self]; intro x hx; simpa using h2 x hx
  have b2 : (L.take k).filter (fun x => decide (now < x.2)) = [] := by
    rw [List.filter_eq_nil_iff]; intro x hx; have := h1 x hx; simp; omega
  have e := List.take_append_drop k L
  constructor
  · conv => rhs; rw [← e, List.filter_append, a1, a2, List.append_nil]
  · conv => rhs; rw [← e, List.filter_append, b1, b2, List.nil_append]
theorem head_late {L : List Ent} {x : Ent} {now : Int} (h : (x :: L).Pairwise (fun x y => before x y = true)) (hx : now < x.2) : ∀ y ∈ x :: L, now < y.2 := by
  intro y hy
  rcases List.mem_cons.1 hy with e | e
  · rw [e]; exact hx
  · have := (List.pairwise_cons.1 h).1 y e
    rw [before_iff] at this
    omega
end Go.Proofs.Ytmlbacbcdjfioaa
