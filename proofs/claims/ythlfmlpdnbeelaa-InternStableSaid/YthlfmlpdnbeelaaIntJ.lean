/- IntJ: layer 3: plain facts about tables that are put into. No program here. -/
import Derived.Test.YthlfmlpdnbeelaaIntF
set_option linter.unusedSimpArgs false
set_option linter.unusedVariables false
namespace Go.Proofs.Ythlfmlpdnbeelaa

namespace It
variable {T : It}
def len (T : It) : Nat := T.ar.list.length
theorem put_cases (h : T.Ok) (x : Nat) : (∃ i, T.get x = some i ∧ T.putR x = (i, false, 0) ∧ T.put x = T) ∨ (T.get x = none ∧ T.len = T.ar.slots ∧ T.putR x = (0, false, 4) ∧ T.put x = T) ∨
    ∃ i, T.get x = none ∧ T.len < T.ar.slots ∧ T.ar.next = some i ∧ T.putR x = (i, true, 0) ∧ T.put x = T.add x i := by
  unfold putR put
  cases hg : T.get x with
  | some i => left; exact ⟨i, rfl, rfl, rfl⟩
  | none =>
    right
    have hle := Ar.p_len_le h.ar
    by_cases hf : T.ar.list.length = T.ar.slots
    · left
      rw [Ar.p_next_none h.ar hf]
      exact ⟨rfl, hf, rfl, rfl⟩
    · right
      obtain ⟨i, hi, _⟩ := Ar.p_next h.ar (by omega)
      rw [hi]
      exact ⟨i, rfl, by show T.ar.list.length < _; omega, rfl, rfl, rfl⟩
theorem put_slots (x : Nat) : (T.put x).ar.slots = T.ar.slots := by
  unfold put
  split
  · rfl
  · split <;> rfl
theorem del_slots (x : Nat) : (T.del x).ar.slots = T.ar.slots := by
  unfold del
  split <;> rfl
theorem add_len (h : T.Ok) {x i : Nat} (hi : T.ar.next = some i) : (T.add x i).len = T.len + 1 := Ar.p_take_len h.ar hi
theorem put_len_le (h : T.Ok) (x : Nat) : (T.put x).len ≤ T.len + 1 := by
  rcases put_cases h x with ⟨i, _, _, e⟩ | ⟨_, _, _, e⟩ | ⟨i, _, _, hi, _, e⟩
  · rw [e]; omega
  · rw [e]; omega
  · rw [e, add_len h hi]; omega
theorem add_get (h : T.Ok) {x i : Nat} (hx : x < 18446744073709551616) (hg : T.get x = none) (hi : T.ar.next = some i) (y : Nat) : (T.add x i).get y = if y = x then some i else T.get y := by
  have hok := add_ok h hx hg hi
  have hui := (Ar.p_next_inv h.ar hi).2.1
  by_cases e : y = x
  · rw [if_pos e, get_some hok]
    exact ⟨(Ar.take_used h.ar hi i).2 (Or.inl rfl), by show (if i = i then x else _) = y; rw [if_pos rfl, e]⟩
  · rw [if_neg e]
    cases hy : T.get y with
    | some j =>
      obtain ⟨hu, hj⟩ := (get_some h).1 hy
      have hji : j ≠ i := fun e2 => by rw [e2, hui] at hu; simp at hu
      rw [get_some hok]
      exact ⟨(Ar.take_used h.ar hi j).2 (Or.inr hu), by show (if j = i then x else T.ids j) = y; rw [if_neg hji, hj]⟩
    | none =>
      rw [get_none hok]
      intro j hu hj
      rcases (Ar.take_used h.ar hi j).1 hu with rfl | hu
      · exact e (by rw [← hj]; show (if j = j then x else _) = x; rw [if_pos rfl])
      · have hji : j ≠ i := fun e2 => by rw [e2, hui] at hu; simp at hu
        exact (get_none h).1 hy j hu (by rw [← hj]; show _ = (if j = i then x else T.ids j); rw [if_neg hji])
/-- What was put is there. -/
theorem put_get (h : T.Ok) {x : Nat} (hx : x < 18446744073709551616) (he : (T.putR x).2.2 = 0) : (T.put x).get x = some (T.putR x).1 := by
  rcases put_cases h x with ⟨i, hg, hr, e⟩ | ⟨_, _, hr, e⟩ | ⟨i, hg, _, hi, hr, e⟩
  · rw [e, hr, hg]
  · rw [hr] at he; simp at he
  · rw [e, hr, add_get h hx hg hi, if_pos rfl]
theorem put_keep (h : T.Ok) {x y i : Nat} (hx : x < 18446744073709551616) (hy : T.get y = some i) : (T.put x).get y = some i := by
  rcases put_cases h x with ⟨j, hg, hr, e⟩ | ⟨_, _, hr, e⟩ | ⟨j, hg, _, hi, hr, e⟩
  · rw [e, hy]
  · rw [e, hy]
  · rw [e, add_get h hx hg hi, if_neg]
    · exact hy
    · rintro rfl; rw [hg] at hy; simp at hy
theorem putR_room (h : T.Ok) (x : Nat) (hl : T.len < T.ar.slots) : (T.putR x).2.2 = 0 := by
  rcases put_cases h x with ⟨i, _, hr, _⟩ | ⟨_, hf, _, _⟩ | ⟨i, _, _, _, hr, _⟩
  · rw [hr]
  · omega
  · rw [hr]
theorem putR_lt (h : T.Ok) (x : Nat) : (T.putR x).1 < 65536 := by
  have hs := h.ar.slots
  have hf := h.ar.fresh
  rcases put_cases h x with ⟨i, hg, hr, _⟩ | ⟨_, _, hr, _⟩ | ⟨i, _, _, hi, hr, _⟩
  · rw [hr]; have := Ar.used_lt ((get_some h).1 hg).1; simp only; omega
  · rw [hr]; simp
  · rw [hr]; have := (Ar.p_next_inv h.ar hi).1; simp only; omega
theorem del_some {x i : Nat} (hg : T.get x = some i) : T.del x = ⟨T.ar.freed i, T.ids⟩ ∧ T.delE x = 0 := by
  unfold del delE; rw [hg]; exact ⟨rfl, rfl⟩
theorem del_none {x : Nat} (hg : T.get x = none) : T.del x = T ∧ T.delE x = 5 := by
  unfold del delE; rw [hg]; exact ⟨rfl, rfl⟩
theorem del_get (h : T.Ok) (x y : Nat) : (T.del x).get y = if y = x then none else T.get y := by
  have hok := del_ok h x
  cases hg : T.get x with
  | some i =>
    rw [(del_some hg).1] at hok ⊢
    obtain ⟨hu, hi⟩ := (get_some h).1 hg
    by_cases e : y = x
    · rw [if_pos e, get_none hok]
      intro j hj e2
      obtain ⟨h1, h2⟩ := (Ar.freed_used i j).1 hj
      exact h2 (h.inj j i h1 hu (by rw [hi, ← e]; exact e2))
    · rw [if_neg e]
      cases hy : T.get y with
      | some j =>
        obtain ⟨h1, h2⟩ := (get_some h).1 hy
        rw [get_some hok]
        exact ⟨(Ar.freed_used i j).2 ⟨h1, fun e2 => e (by rw [← h2, ← hi, e2])⟩, h2⟩
      | none =>
        rw [get_none hok]
        intro j hj
        exact (get_none h).1 hy j ((Ar.freed_used i j).1 hj).1
  | none =>
    rw [(del_none hg).1]
    by_cases e : y = x
    · rw [if_pos e, e, hg]
    · rw [if_neg e]
theorem del_len (h : T.Ok) {x i : Nat} (hg : T.get x = some i) : (T.del x).len + 1 = T.len := by
  rw [(del_some hg).1]
  exact Ar.p_freed_len h.ar ((get_some h).1 hg).1
/-- What was removed goes where it was. -/
theorem del_put (h : T.Ok) {x y i : Nat} (hg : T.get x = some i) (hy : (T.del x).get y = none) : (T.del x).putR y = (i, true, 0) := by
  have h1 := (del_some hg).1
  unfold putR
  rw [hy, h1]
  rfl

/-- A table into which these ids were put. -/
def fill (n : Nat) (xs : List Nat) : It := xs.foldl put (new n)
def atOf (n : Nat) (xs : List Nat) (k : Nat) : Nat := ((fill n (xs.take k)).putR (xs.getD k 0)).1
theorem fill_succ (n : Nat) {xs : List Nat} {k : Nat} (hk : k < xs.length) : fill n (xs.take (k + 1)) = (fill n (xs.take k)).put (xs.getD k 0) := by
  rw [List.take_succ_eq_append_getElem hk]
  unfold fill
  rw [List.foldl_append]
  simp [List.getD, List.getElem?_eq_getElem hk]
theorem fill_inv {n : Nat} (hn : n ≤ 65536) : ∀ {xs : List Nat}, (∀ x ∈ xs, x < 18446744073709551616) → ∀ k, k ≤ xs.length → (fill n (xs.take k)).Ok ∧ (fill n (xs.take k)).ar.slots = n ∧ (fill n (xs.take k)).len ≤ k := by
  intro xs hx k
  induction k with
  | zero => intro _; exact ⟨new_ok hn, rfl, by show (Ar.new n).list.length ≤ 0; rw [Ar.new_len]; omega⟩
  | succ k ih =>
    intro hk
    obtain ⟨h1, h2, h3⟩ := ih (by omega)
    have hxk : xs.getD k 0 < 18446744073709551616 := by
      simp only [List.getD, List.getElem?_eq_getElem (show k < xs.length by omega), Option.getD_some]
      exact hx _ (List.getElem_mem _)
    rw [fill_succ n (by omega)]
    exact ⟨put_ok h1 hxk, by rw [put_slots, h2], by have := put_len_le h1 (xs.getD k 0); omega⟩
theorem getD_lt {xs : List Nat} (hx : ∀ x ∈ xs, x < 18446744073709551616) (k : Nat) : xs.getD k 0 < 18446744073709551616 := by
  by_cases hk : k < xs.length
  · simp only [List.getD, List.getElem?_eq_getElem hk, Option.getD_some]
    exact hx _ (List.getElem_mem _)
  · simp [List.getD, List.getElem?_eq_none (show xs.length ≤ k by omega)]
/-- Each is found with the index that it got. -/
theorem fill_get {n : Nat} (hn : n ≤ 65536) {xs : List Nat} (hx : ∀ x ∈ xs, x < 18446744073709551616) (hl : xs.length ≤ n) : ∀ k, k ≤ xs.length → ∀ j, j < k → (fill n (xs.take k)).get (xs.getD j 0) = some (atOf n xs j) := by
  intro k
  induction k with
  | zero => intro _ j hj; omega
  | succ k ih =>
    intro hk j hj
    obtain ⟨h1, h2, h3⟩ := fill_inv hn hx k (by omega)
    rw [fill_succ n (by omega)]
    by_cases e : j = k
    · subst e
      exact put_get h1 (getD_lt hx j) (putR_room h1 _ (by omega))
    · exact put_keep h1 (getD_lt hx k) (ih (by omega) j (by omega))
theorem atOf_lt {n : Nat} (hn : n ≤ 65536) {xs : List Nat} (hx : ∀ x ∈ xs, x < 18446744073709551616) {k : Nat} (hk : k ≤ xs.length) : atOf n xs k < 65536 := putR_lt (fill_inv hn hx k hk).1 _
end It
end Go.Proofs.Ythlfmlpdnbeelaa
