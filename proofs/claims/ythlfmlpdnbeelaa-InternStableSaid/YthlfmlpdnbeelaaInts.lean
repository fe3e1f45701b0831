/- Ints: slices of integers, as lists. No program here. -/
import Derived.Test.YthlfmlpdnbeelaaBase
set_option linter.unusedSimpArgs false
set_option linter.unusedVariables false
namespace Go.Proofs.Ythlfmlpdnbeelaa
open Go.ChangeShapes Go.WideShapes Go.ChangeAt Go.RowKit

theorem below_drewN {B : Nat} {a w : World} (h : Below B a w) (n : Nat) : Below B a (w.drewN n) := ⟨h.os, h.tape, h.output, h.size, h.block⟩

def ints (l : List Nat) : List Value := l.map fun (x : Nat) => .int .i64 (x : Int)

theorem IntsIn.drewN {w : World} {k : IntKind} {a : Option Addr} {len cap : Nat} {zs : List Int} (h : IntsIn w k a len cap zs) (n : Nat) : IntsIn (w.drewN n) k a len cap zs :=
  ⟨h.hlen, h.hle, h.hmax, h.hcell, h.hwf⟩
theorem IntsIn.of_below {w w' : World} {k : IntKind} {a : Option Addr} {len cap : Nat} {zs : List Int} (h : IntsIn w k a len cap zs) (hb : Below w.heap.size w w') : IntsIn w' k a len cap zs :=
  ⟨h.hlen, h.hle, h.hmax, fun i hi => by
    obtain ⟨b, off, ha, hlt, hc⟩ := h.hcell i hi
    exact ⟨b, off, ha, Nat.lt_of_lt_of_le hlt hb.size, (hb.cell (p := ⟨b, off + i, none⟩) hlt).trans hc⟩, h.hwf⟩
theorem IntsIn.of_upd {w w' : World} {k : IntKind} {a : Option Addr} {len cap : Nat} {zs : List Int} (h : IntsIn w k a len cap zs) {F : Nat → Prop} (hu : Upd F w w') (hF : ∀ ad, a = some ad → ¬ F ad.block) : IntsIn w' k a len cap zs :=
  ⟨h.hlen, h.hle, h.hmax, fun i hi => by
    obtain ⟨b, off, ha, hlt, hc⟩ := h.hcell i hi
    exact ⟨b, off, ha, Nat.lt_of_lt_of_le hlt hu.size, (hu.cell (p := ⟨b, off + i, none⟩) hlt (hF ⟨b, off, none⟩ ha)).trans hc⟩, h.hwf⟩

/-- What the call itself has built, as a list that can be read. -/
theorem ints_of_owns {w : World} {base : Nat} {e : TypeId} {v : Value} {l : List Nat} (h : w.ownsRow base e 1 v l.length (ints l)) (hb : ∀ x ∈ l, x < 9223372036854775808) :
    ∃ a cap, v = .slice a l.length cap ∧ (∀ ad, a = some ad → base ≤ ad.block ∧ ad.block < w.heap.size) ∧ IntsIn w .i64 a l.length cap (l.map fun (x : Nat) => (x : Int)) := by
  have hwf : ∀ n ∈ l.map (fun (x : Nat) => (x : Int)), (Lit.int .i64 n).wf = true := by
    intro n hn
    obtain ⟨x, hx, rfl⟩ := List.mem_map.1 hn
    have := hb x hx
    simp only [Lit.wf, IntKind.min, IntKind.max, IntKind.signed, IntKind.bits, Bool.and_eq_true, decide_eq_true_eq, if_true]
    omega
  rcases h.2 with ⟨rfl, h0⟩ | ⟨g, cap, cur, rfl, hg, hh, hn, hm, _, _⟩
  · have : l = [] := List.length_eq_zero_iff.1 h0
    subst this
    exact ⟨none, 0, rfl, by simp, by simp, Nat.le_refl _, by omega, by simp, hwf⟩
  · refine ⟨some ⟨g, 0, none⟩, cap, rfl, by simpa using ⟨hg, (h.lt g rfl).2⟩, by simp, hn, by simpa [maxLen] using hm, ?_, hwf⟩
    intro i hi
    refine ⟨g, 0, rfl, (h.lt g rfl).2, ?_⟩
    rw [Nat.zero_add, h.cellAt i (by omega)]
    simp [ints, List.getD, hi]

theorem ints_of_owns_slice {w : World} {base : Nat} {e : TypeId} {a : Option Addr} {c : Nat} {l : List Nat} (h : w.ownsRow base e 1 (.slice a l.length c) l.length (ints l)) (hb : ∀ x ∈ l, x < 9223372036854775808) :
    (∀ ad, a = some ad → base ≤ ad.block ∧ ad.block < w.heap.size) ∧ IntsIn w .i64 a l.length c (l.map fun (x : Nat) => (x : Int)) := by
  obtain ⟨a', c', he, h1, h2⟩ := ints_of_owns h hb
  simp only [Value.slice.injEq, true_and] at he
  obtain ⟨rfl, rfl⟩ := he
  exact ⟨h1, h2⟩
theorem map_getD (l : List Nat) (k : Nat) : (l.map fun (x : Nat) => (x : Int)).getD k 0 = ((l.getD k 0 : Nat) : Int) := by
  simp only [List.getD, List.getElem?_map]
  cases l[k]? <;> simp

/-- Two lists are equal if their lengths and their elements are. -/
theorem list_eq_getD {xs ys : List Int} (hl : xs.length = ys.length) (h : ∀ j, j < xs.length → xs.getD j 0 = ys.getD j 0) : xs = ys := by
  apply List.ext_getElem hl
  intro j h1 h2
  have := h j h1
  simpa [List.getD, List.getElem?_eq_getElem h1, List.getElem?_eq_getElem h2] using this

theorem IntsIn.news {w : World} {k : IntKind} {a : Option Addr} {len cap : Nat} {xs : List Int} (h : IntsIn w k a len cap xs) : ∀ ad, a = some ad → ∀ j u, (xs.map (Value.int k))[j]? = some u → w.cell? (ad.add j) = some u := by
  intro ad ha j u hj
  rw [List.getElem?_map] at hj
  have hjl : j < len := by
    have := h.hlen
    cases hx : xs[j]? with
    | none => rw [hx] at hj; simp at hj
    | some z => have := (List.getElem?_eq_some_iff.1 hx).1; omega
  obtain ⟨b, off, ha2, hlt, hc⟩ := h.hcell j hjl
  rw [ha] at ha2
  simp only [Option.some.injEq] at ha2
  subst ha2
  rw [add_plain, hc]
  have hz : xs[j]? = some (xs.getD j 0) := by
    have := h.hlen
    simp [List.getD, List.getElem?_eq_getElem (show j < xs.length by omega)]
  rw [hz] at hj
  simpa using hj
theorem int_oneCell (k : IntKind) (xs : List Int) : ∀ u ∈ xs.map (Value.int k), u.oneCell' = true := by
  intro u hu
  obtain ⟨x, _, rfl⟩ := List.mem_map.1 hu
  rfl
/-- A row of the call's own, as a list of integers. -/
theorem IntsIn.of_owns {w : World} {base : Nat} {e : TypeId} {k : IntKind} {v : Value} {n : Nat} {xs : List Int} (h : w.ownsRow base e 1 v n (xs.map (Value.int k))) (hwf : ∀ x ∈ xs, (Lit.int k x).wf = true) :
    ∃ a cap, v = .slice a n cap ∧ (∀ ad, a = some ad → base ≤ ad.block ∧ ad.block < w.heap.size) ∧ IntsIn w k a n cap xs := by
  have hl : xs.length = n := by have := h.1; simpa using this
  rcases h.2 with ⟨rfl, h0⟩ | ⟨g, cap, cur, rfl, hg, hh, hn, hm, _, _⟩
  · exact ⟨none, 0, by rw [h0], by simp, hl, by omega, by omega, fun i hi => by omega, hwf⟩
  · refine ⟨some ⟨g, 0, none⟩, cap, rfl, by simpa using ⟨hg, (h.lt g rfl).2⟩, hl, hn, by simpa [maxLen] using hm, ?_, hwf⟩
    intro i hi
    refine ⟨g, 0, rfl, (h.lt g rfl).2, ?_⟩
    rw [Nat.zero_add, h.cellAt i (by omega)]
    simp [List.getD, List.getElem?_eq_getElem (show i < xs.length by omega)]
end Go.Proofs.Ythlfmlpdnbeelaa
