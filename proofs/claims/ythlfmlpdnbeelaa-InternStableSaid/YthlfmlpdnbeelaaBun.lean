/- Bun: several things apart as one thing; one thing in front. No program here. -/
import Derived.Test.YthlfmlpdnbeelaaSep
set_option linter.unusedSimpArgs false
set_option linter.unusedVariables false
namespace Go.Proofs.Ythlfmlpdnbeelaa
open Go.ChangeShapes Go.WideShapes Go.ChangeAt Go.RowKit

structure Apart (B : Nat) (w : World) (l : List Thing) : Prop where
  all : ∀ (i : Nat) x, l[i]? = some x → x.P w ∧ ∀ q, x.S q → B ≤ q
  dis : ∀ (i j : Nat) x y, i ≠ j → l[i]? = some x → l[j]? = some y → ∀ q, x.S q → ¬ y.S q
def foot (l : List Thing) (q : Nat) : Prop := ∃ x ∈ l, x.S q

theorem Sep.apart {w0 w : World} {l : List Thing} (h : Sep w0 w l) : Apart w0.heap.size w l := ⟨h.all, h.dis⟩
theorem Apart.sep {w0 w : World} {l : List Thing} (h : Apart w0.heap.size w l) (hb : Below w0.heap.size w0 w) : Sep w0 w l := ⟨h.all, h.dis, hb⟩
theorem Apart.base {B B' : Nat} {w : World} {l : List Thing} (h : Apart B w l) (hB : B' ≤ B) : Apart B' w l :=
  ⟨fun i x hi => ⟨(h.all i x hi).1, fun q hq => Nat.le_trans hB ((h.all i x hi).2 q hq)⟩, h.dis⟩

/-- Several things apart, of which Ψ holds, as one thing. -/
def exT (B : Nat) (S : Nat → Prop) (Ψ : List Thing → Prop) : Thing where
  P w := ∃ l, Ψ l ∧ Apart B w l ∧ S = foot l
  S := S
  st w w' h hk hs := by
    obtain ⟨l, h1, h2, rfl⟩ := h
    refine ⟨l, h1, ⟨fun i x hi => ⟨x.st w w' (h2.all i x hi).1 (fun q hq => hk q ⟨x, List.mem_of_getElem? hi, hq⟩) hs, (h2.all i x hi).2⟩, h2.dis⟩, rfl⟩
  lt w h q hq := by
    obtain ⟨l, h1, h2, rfl⟩ := h
    obtain ⟨x, hx, hq⟩ := hq
    obtain ⟨i, hi⟩ := List.getElem?_of_mem hx
    exact x.lt w (h2.all i x hi).1 q hq

theorem Sep.unpack {w0 w : World} {r : List Thing} {S : Nat → Prop} {Ψ : List Thing → Prop} (h : Sep w0 w (exT w0.heap.size S Ψ :: r)) : ∃ l, Ψ l ∧ Sep w0 w (l ++ r) := by
  obtain ⟨l, h1, h2, hS⟩ := (h.get 0 rfl : (exT w0.heap.size S Ψ).P w)
  refine ⟨l, h1, ?_, ?_, h.below⟩
  · intro i x hi
    by_cases hl : i < l.length
    · rw [List.getElem?_append_left hl] at hi; exact h2.all i x hi
    · rw [List.getElem?_append_right (by omega)] at hi; exact h.all (i - l.length + 1) x (by simpa using hi)
  · intro i j x y hij hi hj q hx hy
    have key : ∀ (i j : Nat) x y, i < l.length → ¬ j < l.length → (l ++ r)[i]? = some x → (l ++ r)[j]? = some y → x.S q → ¬ y.S q := by
      intro i j x y hl hr hi hj hx hy
      rw [List.getElem?_append_left hl] at hi
      rw [List.getElem?_append_right (by omega)] at hj
      exact h.dis 0 (j - l.length + 1) _ y (by omega) rfl (by simpa using hj) q (by show S q; rw [hS]; exact ⟨x, List.mem_of_getElem? hi, hx⟩) hy
    by_cases hl : i < l.length
    · by_cases hr : j < l.length
      · rw [List.getElem?_append_left hl] at hi
        rw [List.getElem?_append_left hr] at hj
        exact h2.dis i j x y hij hi hj q hx hy
      · exact key i j x y hl hr hi hj hx hy
    · by_cases hr : j < l.length
      · exact key j i y x hr hl hj hi hy hx
      · rw [List.getElem?_append_right (by omega)] at hi hj
        exact h.dis (i - l.length + 1) (j - l.length + 1) x y (by omega) (by simpa using hi) (by simpa using hj) q hx hy
theorem Sep.pack {w0 w : World} {l r : List Thing} {Ψ : List Thing → Prop} (h : Sep w0 w (l ++ r)) (hl : Ψ l) : Sep w0 w (exT w0.heap.size (foot l) Ψ :: r) := by
  have hL : ∀ i x, l[i]? = some x → (l ++ r)[i]? = some x := fun i x hi => by
    rw [List.getElem?_append_left (List.getElem?_eq_some_iff.1 hi).1]; exact hi
  have hR : ∀ i x, r[i]? = some x → (l ++ r)[i + l.length]? = some x := fun i x hi => by
    rw [List.getElem?_append_right (by omega)]; simpa using hi
  refine ⟨?_, ?_, h.below⟩
  · intro i x hi
    cases i with
    | zero =>
      simp only [List.getElem?_cons_zero, Option.some.injEq] at hi
      subst hi
      refine ⟨⟨l, hl, ⟨fun i x hi => h.all i x (hL i x hi), fun i j x y hij hi hj => h.dis i j x y hij (hL i x hi) (hL j y hj)⟩, rfl⟩, ?_⟩
      rintro q ⟨x, hx, hq⟩
      obtain ⟨i, hi⟩ := List.getElem?_of_mem hx
      exact (h.all i x (hL i x hi)).2 q hq
    | succ i => exact h.all _ x (hR i x (by simpa using hi))
  · intro i j x y hij hi hj q hx hy
    cases i with
    | zero =>
      simp only [List.getElem?_cons_zero, Option.some.injEq] at hi
      subst hi
      obtain ⟨z, hz, hq⟩ := hx
      obtain ⟨a, ha⟩ := List.getElem?_of_mem hz
      have hal := (List.getElem?_eq_some_iff.1 ha).1
      cases j with
      | zero => exact hij rfl
      | succ j => exact h.dis a (j + l.length) z y (by omega) (hL a z ha) (hR j y (by simpa using hj)) q hq hy
    | succ i =>
      cases j with
      | zero =>
        simp only [List.getElem?_cons_zero, Option.some.injEq] at hj
        subst hj
        obtain ⟨z, hz, hq⟩ := hy
        obtain ⟨a, ha⟩ := List.getElem?_of_mem hz
        have hal := (List.getElem?_eq_some_iff.1 ha).1
        exact h.dis a (i + l.length) z x (by omega) (hL a z ha) (hR i x (by simpa using hi)) q hq hx
      | succ j => exact h.dis (i + l.length) (j + l.length) x y (by omega) (hR i x (by simpa using hi)) (hR j y (by simpa using hj)) q hx hy

/-- The i-th thing in front. -/
def frontI (i j : Nat) : Nat := if j = 0 then i else if j ≤ i then j - 1 else j
theorem Sep.front {w0 w : World} {l : List Thing} (h : Sep w0 w l) (i : Nat) {x : Thing} (hi : l[i]? = some x) : Sep w0 w (x :: l.eraseIdx i) := by
  refine h.sub (frontI i) _ ?_ ?_
  · intro a b e
    unfold frontI at e
    split at e <;> split at e <;> (try split at e) <;> (try split at e) <;> omega
  · intro j z hj
    unfold frontI
    cases j with
    | zero => simpa using hj ▸ hi
    | succ j =>
      rw [if_neg (by omega)]
      simp only [List.getElem?_cons_succ] at hj
      rw [List.getElem?_eraseIdx] at hj
      split at hj
      · rw [if_pos (by omega)]; simpa using hj
      · rw [if_neg (by omega)]; exact hj
theorem Sep.back {w0 w : World} {l : List Thing} (i : Nat) {y : Thing} (hi : i < l.length) (h : Sep w0 w (y :: l.eraseIdx i)) : Sep w0 w (l.set i y) := by
  refine h.sub (fun j => if j = i then 0 else if j < i then j + 1 else j) _ ?_ ?_
  · intro a b e
    try simp only at e
    split at e <;> split at e <;> (try split at e) <;> (try split at e) <;> omega
  · intro j z hj
    try simp only
    by_cases e : j = i
    · subst e
      rw [if_pos rfl]
      rw [List.getElem?_set_self hi] at hj
      simpa using hj
    · rw [if_neg e]
      rw [List.getElem?_set_ne (Ne.symm e)] at hj
      split
      · simp only [List.getElem?_cons_succ]
        rw [List.getElem?_eraseIdx, if_pos (by omega)]; exact hj
      · obtain ⟨k, rfl⟩ : ∃ k, j = k + 1 := ⟨j - 1, by omega⟩
        simp only [List.getElem?_cons_succ]
        rw [List.getElem?_eraseIdx, if_neg (by omega)]; exact hj
/-- Two in front change places. -/
theorem Sep.swap2 {w0 w : World} {x y : Thing} {l : List Thing} (h : Sep w0 w (x :: y :: l)) : Sep w0 w (y :: x :: l) := by
  refine h.sub (fun i => if i = 0 then 1 else if i = 1 then 0 else i) _ ?_ ?_
  · intro i j e
    rcases i with _ | _ | i <;> rcases j with _ | _ | j <;> simp_all
  · intro i z hi
    match i, hi with
    | 0, hi => exact hi
    | 1, hi => exact hi
    | i + 2, hi => simpa using hi
/-- New things, apart, of a call that has turned nothing that was there. -/
theorem Sep.addAll {w0 w w' : World} {l r : List Thing} (h : Sep w0 w r) (hb : Below w.heap.size w w') (hn : Apart w.heap.size w' l) : Sep w0 w' (l ++ r) := by
  have hk := h.keep hb
  have hz := h.below.size
  refine ⟨?_, ?_, hk.below⟩
  · intro i x hi
    by_cases hl : i < l.length
    · rw [List.getElem?_append_left hl] at hi
      exact ⟨(hn.all i x hi).1, fun q hq => Nat.le_trans hz ((hn.all i x hi).2 q hq)⟩
    · rw [List.getElem?_append_right (by omega)] at hi; exact hk.all _ x hi
  · intro i j x y hij hi hj q hx hy
    have key : ∀ (i j : Nat) x y, i < l.length → ¬ j < l.length → (l ++ r)[i]? = some x → (l ++ r)[j]? = some y → x.S q → ¬ y.S q := by
      intro i j x y hl hr hi hj hx hy
      rw [List.getElem?_append_left hl] at hi
      rw [List.getElem?_append_right (by omega)] at hj
      have h1 := (hn.all i x hi).2 q hx
      have h2 := y.lt w (h.get _ hj) q hy
      omega
    by_cases hl : i < l.length
    · by_cases hr : j < l.length
      · rw [List.getElem?_append_left hl] at hi
        rw [List.getElem?_append_left hr] at hj
        exact hn.dis i j x y hij hi hj q hx hy
      · exact key i j x y hl hr hi hj hx hy
    · by_cases hr : j < l.length
      · exact key j i y x hr hl hj hi hy hx
      · rw [List.getElem?_append_right (by omega)] at hi hj
        exact hk.dis _ _ x y (by omega) hi hj q hx hy
theorem own_base {w : World} {B B' e size n : Nat} {v : Value} {xs : List Value} (h : w.ownsRow B e size v n xs) (hB : B' ≤ B) : w.ownsRow B' e size v n xs := by
  refine ⟨h.1, ?_⟩
  rcases h.2 with hv | ⟨g, cap, cur, hv, hg, r⟩
  · exact Or.inl hv
  · exact Or.inr ⟨g, cap, cur, hv, Nat.le_trans hB hg, r⟩
theorem own_shape {w : World} {B e size n : Nat} {v : Value} {xs : List Value} (h : w.ownsRow B e size v n xs) : ∃ a c, v = .slice a n c := by
  rcases h.2 with ⟨rfl, rfl⟩ | ⟨g, cap, cur, rfl, _⟩
  · exact ⟨_, _, rfl⟩
  · exact ⟨_, _, rfl⟩
end Go.Proofs.Ythlfmlpdnbeelaa
