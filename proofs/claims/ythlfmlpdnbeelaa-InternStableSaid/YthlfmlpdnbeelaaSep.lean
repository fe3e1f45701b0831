/- Sep: things in memory, apart from each other: what a law holds while it calls one object's methods after another's. No program here. -/
import Derived.Test.YthlfmlpdnbeelaaRes
import Derived.Test.YthlfmlpdnbeelaaInts
set_option linter.unusedSimpArgs false
set_option linter.unusedVariables false
namespace Go.Proofs.Ythlfmlpdnbeelaa
open Go.ChangeShapes Go.WideShapes Go.ChangeAt Go.RowKit

/-- A thing in memory: what holds, and the blocks on which it leans. -/
structure Thing where
  P : World → Prop
  S : Nat → Prop
  st : ∀ w w' : World, P w → (∀ q, S q → w'.heap[q]? = w.heap[q]?) → w.heap.size ≤ w'.heap.size → P w'
  lt : ∀ w, P w → ∀ q, S q → q < w.heap.size

structure Sep (w0 w : World) (l : List Thing) : Prop where
  all : ∀ (i : Nat) x, l[i]? = some x → x.P w ∧ ∀ q, x.S q → w0.heap.size ≤ q
  dis : ∀ (i j : Nat) x y, i ≠ j → l[i]? = some x → l[j]? = some y → ∀ q, x.S q → ¬ y.S q
  below : Below w0.heap.size w0 w

namespace Sep
variable {w0 w w' : World} {l : List Thing}
theorem start (w : World) : Sep w w [] := ⟨fun i x h => by simp at h, fun i j x y _ h => by simp at h, Below.refl _ _⟩
theorem get (h : Sep w0 w l) (i : Nat) {x : Thing} (hi : l[i]? = some x) : x.P w := (h.all i x hi).1
theorem ge (h : Sep w0 w l) (i : Nat) {x : Thing} (hi : l[i]? = some x) {q : Nat} (hq : x.S q) : w0.heap.size ≤ q := (h.all i x hi).2 q hq
theorem keep (h : Sep w0 w l) (hb : Below w.heap.size w w') : Sep w0 w' l :=
  ⟨fun i x hi => ⟨x.st w w' (h.get i hi) (fun q hq => hb.block q (x.lt w (h.get i hi) q hq)) hb.size, fun _ hq => h.ge i hi hq⟩, h.dis, h.below.trans (hb.mono h.below.size)⟩
theorem add (h : Sep w0 w l) (hb : Below w.heap.size w w') (y : Thing) (hy : y.P w') (hS : ∀ q, y.S q → w.heap.size ≤ q) : Sep w0 w' (y :: l) := by
  have hk := h.keep hb
  have hz := h.below.size
  refine ⟨?_, ?_, hk.below⟩
  · intro i x hi
    cases i with
    | zero =>
      simp only [List.getElem?_cons_zero, Option.some.injEq] at hi
      subst hi
      exact ⟨hy, fun q hq => Nat.le_trans hz (hS q hq)⟩
    | succ i => exact hk.all i x (by simpa using hi)
  · intro i j x z hij hi hj q hx hz
    cases i with
    | zero =>
      simp only [List.getElem?_cons_zero, Option.some.injEq] at hi
      subst hi
      cases j with
      | zero => exact hij rfl
      | succ j =>
        have hj' : l[j]? = some z := by simpa using hj
        have := z.lt w (h.get j hj') q hz
        have := hS q hx
        omega
    | succ i =>
      have hi' : l[i]? = some x := by simpa using hi
      cases j with
      | zero =>
        simp only [List.getElem?_cons_zero, Option.some.injEq] at hj
        subst hj
        have := x.lt w (h.get i hi') q hx
        have := hS q hz
        omega
      | succ j => exact h.dis i j x z (by omega) hi' (by simpa using hj) q hx hz
/-- One thing turns. -/
theorem set (h : Sep w0 w l) (i : Nat) {x : Thing} (hi : l[i]? = some x) {F : Nat → Prop} (hu : Upd F w w') (hF : ∀ q, F q → x.S q ∨ w.heap.size ≤ q) (y : Thing) (hy : y.P w') (hS : ∀ q, y.S q → x.S q ∨ w.heap.size ≤ q) : Sep w0 w' (l.set i y) := by
  have hz := h.below.size
  have hl : i < l.length := (List.getElem?_eq_some_iff.1 hi).1
  have old : ∀ j z, j ≠ i → (l.set i y)[j]? = some z → l[j]? = some z := fun j z hj hz => by
    rwa [List.getElem?_set_ne (Ne.symm hj)] at hz
  have new : ∀ z, (l.set i y)[i]? = some z → y = z := fun z hz => by
    rw [List.getElem?_set_self hl] at hz; simpa using hz
  have keep : ∀ j z, j ≠ i → l[j]? = some z → ∀ q, z.S q → w'.heap[q]? = w.heap[q]? := fun j z hj hjz q hq =>
    hu.keep q (z.lt w (h.get j hjz) q hq) (fun hf => by
      rcases hF q hf with hf | hf
      · exact h.dis i j x z (Ne.symm hj) hi hjz q hf hq
      · have := z.lt w (h.get j hjz) q hq; omega)
  refine ⟨?_, ?_, ?_⟩
  · intro j z hj
    by_cases e : j = i
    · subst e
      obtain rfl := new z hj
      refine ⟨hy, fun q hq => ?_⟩
      rcases hS q hq with h1 | h1
      · exact h.ge j hi h1
      · omega
    · have hj' := old j z e hj
      exact ⟨z.st w w' (h.get j hj') (keep j z e hj') hu.size, fun q hq => h.ge j hj' hq⟩
  · intro j k z u hjk hj hk q hz1 hu1
    by_cases e : j = i
    · subst e
      obtain rfl := new z hj
      have hk' := old k u (Ne.symm hjk) hk
      rcases hS q hz1 with h1 | h1
      · exact h.dis j k x u hjk hi hk' q h1 hu1
      · have := u.lt w (h.get k hk') q hu1; omega
    · have hj' := old j z e hj
      by_cases e2 : k = i
      · subst e2
        obtain rfl := new u hk
        rcases hS q hu1 with h1 | h1
        · exact h.dis j k z x hjk hj' hi q hz1 h1
        · have := z.lt w (h.get j hj') q hz1; omega
      · exact h.dis j k z u hjk hj' (old k u e2 hk) q hz1 hu1
  · exact h.below.trans (hu.below _ hz (fun k hk hf => by
      rcases hF k hf with hf | hf
      · have := h.ge i hi hf; omega
      · omega))
theorem size (h : Sep w0 w l) : w0.heap.size ≤ w.heap.size := h.below.size
theorem below_of (h : Sep w0 w l) : Below w0.heap.size w0 w := h.below
/-- Only some of the things. -/
theorem sub (h : Sep w0 w l) (f : Nat → Nat) (l' : List Thing) (hf : ∀ i j, f i = f j → i = j) (hl : ∀ i x, l'[i]? = some x → l[f i]? = some x) : Sep w0 w l' :=
  ⟨fun i x hi => h.all (f i) x (hl i x hi), fun i j x y hij hi hj => h.dis (f i) (f j) x y (fun e => hij (hf i j e)) (hl i x hi) (hl j y hj), h.below⟩
theorem tail {x : Thing} (h : Sep w0 w (x :: l)) : Sep w0 w l := h.sub (· + 1) l (fun i j e => by omega) (fun i y hi => by simpa using hi)
theorem drewN (h : Sep w0 w l) (n : Nat) : Sep w0 (w.drewN n) l := h.keep (below_drewN (Below.refl _ _) n)
theorem drew (h : Sep w0 w l) : Sep w0 w.drew l := h.keep ((Below.refl _ _).drew)
theorem alloc (h : Sep w0 w l) (o : Obj) : Sep w0 (w.alloc o) l := h.keep ((Below.refl _ _).alloc (Nat.le_refl _) o)
/-- The first is shown in another way. -/
theorem turn {x y : Thing} (h : Sep w0 w (x :: l)) (hy : y.P w) (hS : ∀ q, y.S q → x.S q) : Sep w0 w (y :: l) := by
  have := h.set 0 (x := x) rfl (F := fun _ => False) (Upd.refl _ w) (fun _ h => h.elim) y hy (fun q hq => Or.inl (hS q hq))
  simpa using this
end Sep

/-- A list of integers that can be read. -/
def intsT (k : IntKind) (a : Option Addr) (n cap : Nat) (xs : List Int) : Thing where
  P w := IntsIn w k a n cap xs
  S q := 0 < n ∧ ∃ ad, a = some ad ∧ q = ad.block
  st w w' h hk hs := ⟨h.hlen, h.hle, h.hmax, fun i hi => by
    obtain ⟨b, off, ha, hlt, hc⟩ := h.hcell i hi
    refine ⟨b, off, ha, Nat.lt_of_lt_of_le hlt hs, ?_⟩
    rw [World.cell?_of_block (w := w) (hk b ⟨by omega, ⟨b, off, none⟩, ha, rfl⟩)]
    exact hc, h.hwf⟩
  lt w h q hq := by
    obtain ⟨hn, ad, ha, rfl⟩ := hq
    obtain ⟨b, off, ha', hlt, _⟩ := h.hcell 0 hn
    rw [ha] at ha'
    simp only [Option.some.injEq] at ha'
    rw [ha']; exact hlt
/-- A whole block. -/
def blockT (g : Nat) (o : Obj) : Thing where
  P w := w.heap[g]? = some o
  S q := q = g
  st w w' h hk _ := (hk g rfl).trans h
  lt w h q hq := by subst hq; exact (Array.getElem?_eq_some_iff.1 h).1
/-- A row of cells, f at each place below n. -/
def rowT (g n : Nat) (f : Nat → Value) : Thing where
  P w := (∀ i, i < n → w.cell? ⟨g, i, none⟩ = some (f i)) ∧ (∀ o, w.frozen? ⟨g, o, none⟩ = false) ∧ g < w.heap.size
  S q := q = g
  st w w' h hk hs := ⟨fun i hi => by rw [World.cell?_of_block (w := w) (hk g rfl)]; exact h.1 i hi, fun o => by rw [World.frozen?_of_block (w := w) (hk g rfl)]; exact h.2.1 o, Nat.lt_of_lt_of_le h.2.2 hs⟩
  lt w h q hq := by subst hq; exact h.2.2
theorem rowT_set {w : World} {g n : Nat} {f : Nat → Value} (h : (rowT g n f).P w) {k : Nat} (hk : k < n) (v : Value) : (rowT g n (fun i => if i = k then v else f i)).P (w.setCell ⟨g, k, none⟩ v) := by
  refine ⟨?_, fun o => by rw [frozen_set]; exact h.2.1 o, by simpa using h.2.2⟩
  intro i hi
  rw [cell_set]
  by_cases e : i = k
  · subst e; rw [if_pos rfl, h.1 i hi]; simp
  · rw [if_neg (by simp <;> omega), h.1 i hi]; simp [e]
/-- An owned row of the call's own. -/
def ownT (B : Nat) (e size n : Nat) (v : Value) (xs : List Value) : Thing where
  P w := w.ownsRow B e size v n xs
  S q := v.ownBlock = some q
  st w w' h hk hs := owns_keep h (fun q hq => hk q hq)
  lt w h q hq := (h.lt q hq).2
where
  owns_keep {w w' : World} {B e size n : Nat} {v : Value} {xs : List Value} (h : w.ownsRow B e size v n xs) (hk : ∀ k, v.ownBlock = some k → w'.heap[k]? = w.heap[k]?) : w'.ownsRow B e size v n xs := by
    refine ⟨h.1, ?_⟩
    rcases h.2 with hv | ⟨g, cap, cur, hv, hg, hh, r⟩
    · exact Or.inl hv
    · exact Or.inr ⟨g, cap, cur, hv, hg, by rw [hk g (by rw [hv]; rfl)]; exact hh, r⟩

theorem Sep.turnAt {w0 w : World} {l : List Thing} (h : Sep w0 w l) (i : Nat) {x y : Thing} (hi : l[i]? = some x) (hy : y.P w) (hS : ∀ q, y.S q → x.S q) : Sep w0 w (l.set i y) :=
  h.set i hi (F := fun _ => False) (Upd.refl _ w) (fun _ h => h.elim) y hy (fun q hq => Or.inl (hS q hq))
/-- An owned row is appended to, behind one new block. -/
theorem Sep.own_append {w0 w w1 : World} {l : List Thing} (h : Sep w0 w l) (i : Nat) {B e size n n' : Nat} {v v' : Value} {xs ys : List Value} (hi : l[i]? = some (ownT B e size n v xs)) {o : Obj}
    (hown : w1.ownsRow B e size v' n' ys) (hg : (w.alloc o).grownBy w1 v.ownBlock) (hv : v'.ownBlock = v.ownBlock ∨ v'.ownBlock = some (w.alloc o).heap.size) : Sep w0 w1 (l.set i (ownT B e size n' v' ys)) := by
  refine h.set i hi (F := fun q => v.ownBlock = some q) (((Upd.refl _ w).alloc o).grown hg (fun q hq _ => hq)) (fun q hq => Or.inl hq) _ hown ?_
  intro q hq
  rcases hv with e1 | e1
  · exact Or.inl (show v.ownBlock = some q by rw [← e1]; exact hq)
  · have hq' : v'.ownBlock = some q := hq
    rw [e1] at hq'
    simp at hq'
    exact Or.inr (by omega)
/-- An owned row of integers, as a list. -/
theorem Sep.own_ints {w0 w : World} {l : List Thing} (h : Sep w0 w l) (i : Nat) {B e n : Nat} {k : IntKind} {v : Value} {xs : List Int} (hi : l[i]? = some (ownT B e 1 n v (xs.map (Value.int k)))) (hwf : ∀ x ∈ xs, (Lit.int k x).wf = true) :
    ∃ a cap, v = .slice a n cap ∧ Sep w0 w (l.set i (intsT k a n cap xs)) := by
  obtain ⟨a, cap, rfl, h1, h2⟩ := IntsIn.of_owns (h.get i hi) hwf
  refine ⟨a, cap, rfl, h.turnAt i hi h2 ?_⟩
  rintro q ⟨hn, ad, ha, rfl⟩
  obtain ⟨b, off, ha2, _, _⟩ := h2.hcell 0 hn
  show (Value.slice a n cap).ownBlock = _
  rw [ha] at ha2
  simp only [Option.some.injEq] at ha2
  rw [ha, ha2]
  rfl
end Go.Proofs.Ythlfmlpdnbeelaa
