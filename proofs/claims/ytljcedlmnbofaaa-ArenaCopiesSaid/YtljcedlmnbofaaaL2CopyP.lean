/- L2CopyP: facts for ArenaCopies: two arenas beside each other, and an arena that is used up. -/
import Derived.Test.YtljcedlmnbofaaaLArenaCounts
namespace Go.Proofs.Ytljcedlmnbofaaa
open Go.ChangeShapes Go.WideShapes Go.ChangeAt Go.RowKit

theorem AIn.copy {w0 w : World} {b lb : Nat} {A : Ar} (h : AIn w0 w b lb A) :
    Calls Try.prog 27 #[.pointer (some ⟨b, 0, none⟩)] w fun e w' => ∃ b2 lb2, e = .returned (.pointer (some ⟨b2, 0, none⟩)) ∧ AIn w0 w' b2 lb2 A ∧ w.heap.size ≤ b2 ∧ w.heap.size ≤ lb2 ∧ AIn w0 w' b lb A ∧ Below w.heap.size w w' :=
  (aCopy_any h.ar).mono fun e w' ⟨b2, lb2, he, ha, h1, h2, hl, hb⟩ => by
    have h3 := h.below hb
    have hs := h.bel.size
    exact ⟨b2, lb2, he, ⟨ha, by omega, by omega, hl, h3.bel⟩, h1, h2, h3, hb⟩

/-- An arena after k allocations, and what they returned. -/
def Ar.drain (A : Ar) : Nat → Ar × List Nat
  | 0 => (A, [])
  | k + 1 => match (A.drain k).1.next with
    | some i => ((A.drain k).1.take i, (A.drain k).2 ++ [i])
    | none => A.drain k

theorem Ar.next_none {A : Ar} (h : A.Ok) : A.next = none ↔ A.list.length = A.slots := by
  have hl := Ar.list_len h
  have hf := h.fresh
  unfold Ar.next
  cases hs : A.stack with
  | nil =>
    rw [hs] at hl
    simp only [List.length_nil] at hl
    by_cases h1 : A.fresh < A.slots
    · simp [h1]; omega
    · simp [h1]; omega
  | cons x s =>
    rw [hs] at hl
    simp only [List.length_cons] at hl
    simp; omega
theorem Ar.take_list {A : Ar} (h : A.Ok) {i : Nat} (hi : A.next = some i) : (A.take i).list.length = A.list.length + 1 := by
  have h1 := Ar.list_len h
  have h2 := Ar.list_len (Ar.take_ok h hi)
  unfold Ar.next at hi
  simp only [Ar.take] at h2 ⊢
  split at hi
  · rename_i y t hst
    rw [hst] at h1 h2 ⊢
    simp at h1 h2 ⊢
    omega
  · rename_i hst
    rw [hst] at h1 h2 ⊢
    simp at h1 h2 ⊢
    omega
theorem Ar.take_slots (A : Ar) (i : Nat) : (A.take i).slots = A.slots := rfl

theorem Ar.drain_inv {A : Ar} (h : A.Ok) : ∀ k, k ≤ A.slots - A.list.length → (A.drain k).1.Ok ∧ (A.drain k).1.slots = A.slots ∧ (A.drain k).1.list.length = A.list.length + k ∧ (A.drain k).2.length = k
  | 0, _ => ⟨h, rfl, rfl, rfl⟩
  | k + 1, hk => by
    obtain ⟨h1, h2, h3, h4⟩ := Ar.drain_inv h k (by omega)
    have hne : (A.drain k).1.next ≠ none := by
      intro e
      have := (Ar.next_none h1).1 e
      omega
    cases hn : (A.drain k).1.next with
    | none => exact absurd hn hne
    | some i =>
      simp only [Ar.drain, hn]
      exact ⟨Ar.take_ok h1 hn, by rw [Ar.take_slots, h2], by rw [Ar.take_list h1 hn]; omega, by simp [h4]⟩
theorem Ar.drain_next {A : Ar} (h : A.Ok) {k : Nat} (hk : k < A.slots - A.list.length) : ∃ i, (A.drain k).1.next = some i ∧ i < A.slots ∧ A.drain (k + 1) = ((A.drain k).1.take i, (A.drain k).2 ++ [i]) := by
  obtain ⟨h1, h2, h3, h4⟩ := Ar.drain_inv h k (by omega)
  cases hn : (A.drain k).1.next with
  | none => have := (Ar.next_none h1).1 hn; omega
  | some i => exact ⟨i, rfl, by have := Ar.next_lt h1 hn; omega, by simp only [Ar.drain, hn]⟩
theorem Ar.drain_end {A : Ar} (h : A.Ok) : (A.drain (A.slots - A.list.length)).1.next = none := by
  obtain ⟨h1, h2, h3, h4⟩ := Ar.drain_inv h (A.slots - A.list.length) (Nat.le_refl _)
  rw [Ar.next_none h1]
  have : A.list.length ≤ A.slots := by have := Ar.list_len h; have := h.fresh; omega
  omega
/-- What the k-th allocation returns, seen in the list of all. -/
theorem Ar.drain_prefix {A : Ar} (h : A.Ok) (r : Nat) (hr : r ≤ A.slots - A.list.length) : ∀ k, k < r → ∃ i, (A.drain k).1.next = some i ∧ (A.drain r).2.getD k 0 = i ∧ A.drain (k + 1) = ((A.drain k).1.take i, (A.drain k).2 ++ [i]) := by
  induction r with
  | zero => intro k hk; omega
  | succ r ih =>
    intro k hk
    obtain ⟨j, hj, _, hd⟩ := Ar.drain_next h (show r < A.slots - A.list.length by omega)
    have hlen := (Ar.drain_inv h r (by omega)).2.2.2
    by_cases e : k = r
    · subst e
      refine ⟨j, hj, ?_, hd⟩
      rw [hd]
      simp [List.getD, hlen]
    · obtain ⟨i, h1, h2, h3⟩ := ih (by omega) k (by omega)
      refine ⟨i, h1, ?_, h3⟩
      rw [hd, ← h2]
      simp only [List.getD]
      rw [List.getElem?_append_left (by omega)]

theorem Ar.drain_lt {A : Ar} (h : A.Ok) : ∀ k, k ≤ A.slots - A.list.length → ∀ x ∈ (A.drain k).2, x < A.slots
  | 0, _ => by simp [Ar.drain]
  | k + 1, hk => by
    obtain ⟨i, _, h2, h3⟩ := Ar.drain_next h (show k < A.slots - A.list.length by omega)
    rw [h3]
    intro x hx
    rcases List.mem_append.1 hx with hx | hx
    · exact Ar.drain_lt h k (by omega) x hx
    · simp at hx; omega
/-- All the slots of a list freed, one after the other. -/
def Ar.freeAll (A : Ar) (l : List Nat) : Ar := { A with stack := l.reverse ++ A.stack }
theorem Ar.freeAll_succ (A : Ar) (l : List Nat) {k : Nat} (hk : k < l.length) : (A.freeAll (l.take k)).freed (l.getD k 0) = A.freeAll (l.take (k + 1)) := by
  have e : l.take (k + 1) = l.take k ++ [l.getD k 0] := by
    rw [List.take_succ_eq_append_getElem hk]
    simp [List.getD, List.getElem?_eq_getElem hk]
  rw [e]
  simp only [Ar.freeAll, Ar.freed, List.reverse_append, List.reverse_cons, List.reverse_nil, List.nil_append, List.cons_append]
theorem Ar.freeAll_list {A : Ar} (h : A.Ok) (hfull : A.next = none) {l : List Nat} (hok : (A.freeAll l).Ok) : (A.freeAll l).list.length + l.length = A.slots := by
  have h1 := Ar.list_len hok
  have h2 := (Ar.next_none h).1 hfull
  have h3 := Ar.list_len h
  have h4 := h.fresh
  simp only [Ar.freeAll, List.length_append, List.length_reverse] at h1
  simp only [Ar.freeAll]
  omega

theorem Ar.freeAll_used {A : Ar} (h : A.Ok) (hfull : A.next = none) {l : List Nat} (hl : ∀ x ∈ l, x < A.slots) (hnd : l.Nodup) {k : Nat} (hk : k < l.length) : (A.freeAll (l.take k)).used (l.getD k 0) = true := by
  have hs : A.stack = [] ∧ A.fresh = A.slots := by
    unfold Ar.next at hfull
    split at hfull
    · simp at hfull
    · rename_i he
      split at hfull
      · simp at hfull
      · have := h.fresh; exact ⟨he, by omega⟩
  have hx : l.getD k 0 = l[k] := by simp [List.getD, List.getElem?_eq_getElem hk]
  rw [hx]
  simp only [Ar.freeAll, Ar.used, hs.1, List.append_nil, List.mem_reverse, decide_eq_true_eq]
  refine ⟨by rw [hs.2]; exact hl _ (List.getElem_mem hk), ?_⟩
  intro hm
  obtain ⟨j, hj, e⟩ := List.mem_take_iff_getElem.1 hm
  have := (List.getElem_inj hnd).1 e
  omega
/-- Two arenas, a list that can be read, and a list that is being built. -/
structure CRel (w w3 wr : World) (b lb b2 lb2 : Nat) (A C : Ar) (la : Option Addr) (lc : Nat) (l : List Nat) (v : Value) (g : List Nat) : Prop where
  a1 : AIn w wr b lb A
  a2 : AIn w wr b2 lb2 C
  li : IntsIn wr .i64 la l.length lc (l.map fun (x : Nat) => (x : Int))
  la : ∀ ad, la = some ad → ad.block ≠ b ∧ ad.block ≠ lb ∧ ad.block ≠ b2 ∧ ad.block ≠ lb2 ∧ ad.block < w3.heap.size
  own : wr.ownsRow w3.heap.size 3 1 v g.length (ints g)
  n1 : b ≠ b2 ∧ b ≠ lb2 ∧ lb ≠ b2 ∧ lb ≠ lb2
  lt : b < w3.heap.size ∧ lb < w3.heap.size ∧ b2 < w3.heap.size ∧ lb2 < w3.heap.size
  sz : w3.heap.size ≤ wr.heap.size

section
variable {w w3 wr w' : World} {b lb b2 lb2 : Nat} {A C : Ar} {la : Option Addr} {lc : Nat} {l : List Nat} {v : Value} {g : List Nat}
theorem CRel.upd2 (h : CRel w w3 wr b lb b2 lb2 A C la lc l v g) {C' : Ar} (ha : AIn w w' b2 lb2 C') (hu : Upd (fun k => k = b2 ∨ k = lb2) wr w') : CRel w w3 w' b lb b2 lb2 A C' la lc l v g := by
  have hn := h.n1
  have hl := h.lt
  have h2 := h.a2.hb
  have h3 := h.a2.hl
  exact ⟨h.a1.upd hu (fun k hk => by omega), ha, h.li.of_upd hu (fun ad had e => by have := h.la ad had; omega), h.la, owns_upd h.own hu (fun k hk => by omega), hn, hl, Nat.le_trans h.sz hu.size⟩
theorem CRel.upd1 (h : CRel w w3 wr b lb b2 lb2 A C la lc l v g) {A' : Ar} (ha : AIn w w' b lb A') (hu : Upd (fun k => k = b ∨ k = lb) wr w') : CRel w w3 w' b lb b2 lb2 A' C la lc l v g := by
  have hn := h.n1
  have hl := h.lt
  have h2 := h.a1.hb
  have h3 := h.a1.hl
  exact ⟨ha, h.a2.upd hu (fun k hk => by omega), h.li.of_upd hu (fun ad had e => by have := h.la ad had; omega), h.la, owns_upd h.own hu (fun k hk => by omega), hn, hl, Nat.le_trans h.sz hu.size⟩
theorem CRel.below (h : CRel w w3 wr b lb b2 lb2 A C la lc l v g) (hb : Below wr.heap.size wr w') : CRel w w3 w' b lb b2 lb2 A C la lc l v g :=
  ⟨h.a1.below hb, h.a2.below hb, h.li.of_below hb, h.la, by
    refine ⟨h.own.1, ?_⟩
    rcases h.own.2 with hv | ⟨k, cap, cur, hv, hg, hh, r⟩
    · exact Or.inl hv
    · exact Or.inr ⟨k, cap, cur, hv, hg, by rw [hb.block k (Array.getElem?_eq_some_iff.1 hh).1]; exact hh, r⟩, h.n1, h.lt, Nat.le_trans h.sz hb.size⟩
theorem CRel.drewN (h : CRel w w3 wr b lb b2 lb2 A C la lc l v g) (n : Nat) : CRel w w3 (wr.drewN n) b lb b2 lb2 A C la lc l v g :=
  ⟨h.a1.drewN n, h.a2.drewN n, h.li.drewN n, h.la, h.own, h.n1, h.lt, h.sz⟩
theorem CRel.app (h : CRel w w3 wr b lb b2 lb2 A C la lc l v g) {v' : Value} {i : Nat} {o : Obj}
    (hown : w'.ownsRow w3.heap.size 3 1 v' (g.length + 1) (ints g ++ [.int .i64 i])) (hgr : (wr.alloc o).grownBy w' v.ownBlock) : CRel w w3 w' b lb b2 lb2 A C la lc l v' (g ++ [i]) := by
  have hv : ∀ k, v.ownBlock = some k → w3.heap.size ≤ k := fun k hk => (h.own.lt k hk).1
  have u : Upd (fun k => v.ownBlock = some k) wr w' := ((Upd.refl _ wr).alloc o).grown hgr (fun k hk _ => hk)
  have hl := h.lt
  have h2 := h.a1.hb
  exact ⟨h.a1.upd u (fun k hk => by have := hv k hk; omega), h.a2.upd u (fun k hk => by have := hv k hk; omega), h.li.of_upd u (fun ad had e => by have := h.la ad had; have := hv _ e; omega), h.la,
    by simpa [ints] using hown, h.n1, hl, Nat.le_trans h.sz u.size⟩
end
end Go.Proofs.Ytljcedlmnbofaaa
