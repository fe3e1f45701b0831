/- IntD: layer 3: the table: what it is, in memory; what a search finds. -/
import Derived.Test.YthlfmlpdnbeelaaIntC
import Derived.Test.YthlfmlpdnbeelaaArP
import Derived.Test.YthlfmlpdnbeelaaArT
set_option linter.unusedSimpArgs false
set_option linter.unusedVariables false
namespace Go.Proofs.Ythlfmlpdnbeelaa
open Go.ChangeShapes Go.WideShapes Go.ChangeAt Go.RowKit

/-- A cell of an owned row is turned. -/
theorem owns_set1 {w : World} {B e n : Nat} {v : Value} {g cap : Nat} {xs : List Value} (h : w.ownsRow B e 1 v n xs) (hv : v = .slice (some ⟨g, 0, none⟩) n cap) {k : Nat} (hk : k < n) {u : Value} (hu : u.oneCell' = true) :
    (w.setCell ⟨g, k, none⟩ u).ownsRow B e 1 v n (xs.set k u) := by
  subst hv
  refine ⟨by simpa using h.1, ?_⟩
  rcases h.2 with ⟨h0, _⟩ | ⟨g', cap', cur, h0, hg, hh, hn, hm, hs, ht⟩
  · simp at h0
  · simp only [Value.slice.injEq, Option.some.injEq, Addr.mk.injEq, and_true, true_and] at h0
    obtain ⟨rfl, rfl⟩ := h0
    refine Or.inr ⟨g, cap, cur.setIfInBounds k u, rfl, hg, ?_, hn, hm, by simpa using hs, ?_⟩
    · have := heap_setCell_same w g k _ _ u hh
      rw [this]
    · rw [← ht]
      simp only [Array.toList_setIfInBounds]
      rw [List.take_set]
theorem Sep.own_set1 {w0 w : World} {l : List Thing} (h : Sep w0 w l) (i : Nat) {B e n g cap : Nat} {xs : List Value} (hi : l[i]? = some (ownT B e 1 n (.slice (some ⟨g, 0, none⟩) n cap) xs)) {k : Nat} (hk : k < n) {u : Value} (hu : u.oneCell' = true) :
    Sep w0 (w.setCell ⟨g, k, none⟩ u) (l.set i (ownT B e 1 n (.slice (some ⟨g, 0, none⟩) n cap) (xs.set k u))) :=
  h.set i hi (F := fun q => q = g) ((Upd.refl (fun q => q = g) w).setCell (p := ⟨g, k, none⟩) (fun _ => rfl) u) (fun q hq => Or.inl (by rw [hq]; rfl)) _ (owns_set1 (h.get i hi) rfl hk hu) (fun q hq => Or.inl hq)

structure It where
  ar : Ar
  ids : Nat → Nat

/-- What holds of a table's cells. -/
structure TbOk (T : It) (M : Nat) (c : Nat → Nat) : Prop where
  pow : ∃ p, 3 ≤ p ∧ p ≤ 17 ∧ M = 2 ^ p
  tab : Tab M c (fun i => ihome M (T.ids i : Nat)) (fun i => T.ar.used i = true)
  idlt : ∀ i, i < T.ar.fresh → T.ids i < 18446744073709551616
  inj : ∀ i j, T.ar.used i = true → T.ar.used j = true → T.ids i = T.ids j → i = j
  load : 2 * T.ar.list.length ≤ M

def idsV (n : Nat) (ids : Nat → Nat) : List Value := (List.range n).map fun i => .int .u64 (ids i : Int)
def cellsV (M : Nat) (c : Nat → Nat) : List Value := (List.range M).map fun k => .int .i32 (c k : Int)
theorem idsV_len (n : Nat) (ids : Nat → Nat) : (idsV n ids).length = n := by simp [idsV]
theorem cellsV_len (n : Nat) (ids : Nat → Nat) : (cellsV n ids).length = n := by simp [cellsV]
theorem idsV_at {n : Nat} (ids : Nat → Nat) {i : Nat} (h : i < n) : (idsV n ids)[i]? = some (.int .u64 (ids i : Int)) := by simp [idsV, h]
theorem cellsV_at {n : Nat} (ids : Nat → Nat) {i : Nat} (h : i < n) : (cellsV n ids)[i]? = some (.int .i32 (ids i : Int)) := by simp [cellsV, h]
theorem idsV_set {n : Nat} (ids : Nat → Nat) {k : Nat} (x : Nat) : (idsV n ids).set k (.int .u64 (x : Int)) = idsV n (fun i => if i = k then x else ids i) := by
  apply List.ext_getElem? 
  intro j
  rw [List.getElem?_set]
  by_cases hj : j < n
  · rw [idsV_at _ hj, idsV_at _ hj]
    by_cases e : k = j
    · subst e; simp [idsV_len, hj]
    · simp [e, Ne.symm e]
  · rw [List.getElem?_eq_none (by rw [idsV_len]; omega), List.getElem?_eq_none (by rw [idsV_len]; omega)]
    simp [idsV_len]; omega
theorem cellsV_set {n : Nat} (c : Nat → Nat) {k : Nat} (x : Nat) : (cellsV n c).set k (.int .i32 (x : Int)) = cellsV n (fun i => if i = k then x else c i) := by
  apply List.ext_getElem? 
  intro j
  rw [List.getElem?_set]
  by_cases hj : j < n
  · rw [cellsV_at _ hj, cellsV_at _ hj]
    by_cases e : k = j
    · subst e; simp [cellsV_len, hj]
    · simp [e, Ne.symm e]
  · rw [List.getElem?_eq_none (by rw [cellsV_len]; omega), List.getElem?_eq_none (by rw [cellsV_len]; omega)]
    simp [cellsV_len]; omega
theorem idsV_push (n : Nat) (ids : Nat → Nat) : idsV n ids ++ [.int .u64 (ids n : Int)] = idsV (n + 1) ids := by
  simp [idsV, List.range_succ]
theorem idsV_congr {n : Nat} {f g : Nat → Nat} (h : ∀ i, i < n → f i = g i) : idsV n f = idsV n g := by
  unfold idsV
  apply List.map_congr_left
  intro i hi
  rw [h i (List.mem_range.1 hi)]

/-- The table's blocks: its own, the arena's two, the ids', the cells'. -/
def tabRow (t ab : Nat) (slots : Nat) (iv cv : Value) : Thing := blockT t (.cells #[.pointer (some ⟨ab, 0, none⟩), .int .i64 slots, iv, cv] 64 (0, 0))
def tabParts (B t ab lb : Nat) (A : Ar) (ids : Nat → Nat) (iv cv : Value) (M : Nat) (c : Nat → Nat) : List Thing :=
  [tabRow t ab A.slots iv cv, arT ab lb A, ownT B 23 1 A.fresh iv (idsV A.fresh ids), ownT B 21 1 M cv (cellsV M c)]
def tabT (B t : Nat) (T : It) (S : Nat → Prop) : Thing := exT B S (fun l => ∃ ab lb iv cv M c, TbOk T M c ∧ l = tabParts B t ab lb T.ar T.ids iv cv M c)

theorem row4 {w : World} {g : Nat} {a b c d : Value} {t : TypeId} (h : w.heap[g]? = some (.cells #[a, b, c, d] t (0, 0))) :
    w.cell? ⟨g, 0, none⟩ = some a ∧ w.cell? ⟨g, 1, none⟩ = some b ∧ w.cell? ⟨g, 2, none⟩ = some c ∧ w.cell? ⟨g, 3, none⟩ = some d ∧ (∀ o, w.frozen? ⟨g, o, none⟩ = false) ∧ g < w.heap.size :=
  ⟨by rw [cell_of_row w g 0 _ _ _ h]; rfl, by rw [cell_of_row w g 1 _ _ _ h]; rfl, by rw [cell_of_row w g 2 _ _ _ h]; rfl, by rw [cell_of_row w g 3 _ _ _ h]; rfl, fun o => frozen_of_row w g o _ _ h, (Array.getElem?_eq_some_iff.1 h).1⟩
theorem row4_set2 {w : World} {g : Nat} {a b c d : Value} {t : TypeId} (h : w.heap[g]? = some (.cells #[a, b, c, d] t (0, 0))) (p : Value) : (w.setCell ⟨g, 2, none⟩ p).heap[g]? = some (.cells #[a, b, p, d] t (0, 0)) := by
  have h1 := heap_setCell_same w g 2 _ _ p h
  rw [h1]; rfl
theorem row4_set3 {w : World} {g : Nat} {a b c d : Value} {t : TypeId} (h : w.heap[g]? = some (.cells #[a, b, c, d] t (0, 0))) (p : Value) : (w.setCell ⟨g, 3, none⟩ p).heap[g]? = some (.cells #[a, b, c, p] t (0, 0)) := by
  have h1 := heap_setCell_same w g 3 _ _ p h
  rw [h1]; rfl

/-- What a search reads, of the parts. -/
theorem fv_of {w : World} {B t ab sl M n : Nat} {iv cv : Value} {c ids : Nat → Nat} (hrow : w.heap[t]? = some (.cells #[.pointer (some ⟨ab, 0, none⟩), .int .i64 (sl : Int), iv, cv] 64 (0, 0)))
    (hi : w.ownsRow B 23 1 iv n (idsV n ids)) (hc : w.ownsRow B 21 1 cv M (cellsV M c)) (hp : ∃ p, 3 ≤ p ∧ p ≤ 17 ∧ M = 2 ^ p) (hle : ∀ k, k < M → c k ≤ n) (hn : n ≤ 65536) : FV w t M c n ids := by
  obtain ⟨p, hp1, hp2, hM⟩ := hp
  have hM0 : 0 < M := by rw [hM]; exact Nat.two_pow_pos p
  have hM6 : M ≤ 131072 := by rw [hM]; exact Nat.pow_le_pow_right (n := 2) (by omega) (show p ≤ 17 from hp2)
  obtain ⟨_, _, q2, q3, _, _⟩ := row4 hrow
  refine ⟨⟨p, by omega, hM⟩, ?_, ?_, hle, hn, hM6⟩
  · rcases hi.2 with ⟨rfl, h0⟩ | ⟨g, cap, cur, rfl, hg, hh, hnc, hm, _, _⟩
    · exact ⟨none, 0, by rw [h0]; exact q2, by omega, by omega, fun i hi => by omega⟩
    · refine ⟨_, cap, q2, hnc, by simpa [maxLen] using hm, fun i hlt => ⟨g, rfl, (hi.lt g rfl).2, ?_⟩⟩
      rw [hi.cellAt i (by omega)]; exact idsV_at _ hlt
  · rcases hc.2 with ⟨rfl, h0⟩ | ⟨g, cap, cur, rfl, hg, hh, hnc, hm, _, _⟩
    · omega
    · refine ⟨g, cap, q3, hnc, by simpa [maxLen] using hm, (hc.lt g rfl).2, fun i hlt => ?_⟩
      rw [hc.cellAt i (by omega)]; exact cellsV_at _ hlt

theorem Tab.iff {M : Nat} {c h : Nat → Nat} {U V : Nat → Prop} (t : Tab M c h U) (e : ∀ i, U i ↔ V i) : Tab M c h V := by
  have : U = V := funext fun i => propext (e i)
  rwa [this] at t
theorem Tab.le {M : Nat} {c h : Nat → Nat} {U : Nat → Prop} (t : Tab M c h U) {n : Nat} (hU : ∀ i, U i → i < n) : ∀ k, k < M → c k ≤ n := by
  intro k hk
  by_cases e : c k = 0
  · omega
  · have := hU _ (t.used k hk e); omega

/-- An id that is there: its probe ends at its cell. -/
theorem Tab.ends_some {M : Nat} {c ids : Nat → Nat} {U : Nat → Prop} (t : Tab M c (fun i => ihome M (ids i : Nat)) U) (hinj : ∀ i j, U i → U j → ids i = ids j → i = j) {i : Nat} (hi : U i) :
    ∃ D, Ends M c ids (ids i) D ∧ c (rgo M (ihome M (ids i : Nat)) D) = i + 1 := by
  obtain ⟨D, hD, h1, h2⟩ := t.has i hi
  have hM := t.pos
  refine ⟨D, ⟨hD, fun d hd => ⟨h2 d hd, fun e => ?_⟩, Or.inr (by rw [h1]; rfl)⟩, h1⟩
  have hk := rgo_lt (ihome M (ids i : Nat)) d hM
  have hu := t.used _ hk (h2 d hd)
  have hij := hinj _ _ hu hi e
  have := t.inj _ _ hk (rgo_lt (ihome M (ids i : Nat)) D hM) (h2 d hd) (by rw [h1]; have := h2 d hd; omega)
  have := rgo_inj (t.home i hi) (by omega) hD this
  omega
/-- An id that is not there: its probe ends at an empty cell. -/
theorem Tab.ends_none {M : Nat} {c ids : Nat → Nat} {U : Nat → Prop} (t : Tab M c (fun i => ihome M (ids i : Nat)) U) {x : Nat} (hx : ∀ i, U i → ids i ≠ x) (hh : ihome M (x : Nat) < M) {l : List Nat} (hl : ∀ i, U i → i ∈ l) (hn : l.length < M) :
    ∃ D, Ends M c ids x D ∧ c (rgo M (ihome M (x : Nat)) D) = 0 ∧ ∀ e, e < D → c (rgo M (ihome M (x : Nat)) e) ≠ 0 := by
  obtain ⟨k, hk, hz⟩ := t.room l hl hn
  have hM := t.pos
  have hex : ∃ d, d < M ∧ c (rgo M (ihome M (x : Nat)) d) = 0 := ⟨roff M (ihome M (x : Nat)) k, roff_lt _ _ hM, by rw [rgo_off hh hk]; exact hz⟩
  have key : ∀ m, (∀ d, d < m → c (rgo M (ihome M (x : Nat)) d) ≠ 0) ∨ ∃ d, d < m ∧ c (rgo M (ihome M (x : Nat)) d) = 0 ∧ ∀ e, e < d → c (rgo M (ihome M (x : Nat)) e) ≠ 0 := by
    intro m
    induction m with
    | zero => left; intro d hd; omega
    | succ m ih =>
      rcases ih with ih | ⟨d, h1, h2, h3⟩
      · by_cases e : c (rgo M (ihome M (x : Nat)) m) = 0
        · right; exact ⟨m, by omega, e, ih⟩
        · left
          intro d hd
          by_cases e2 : d = m
          · subst e2; exact e
          · exact ih d (by omega)
      · right; exact ⟨d, by omega, h2, h3⟩
  obtain ⟨d0, hd0, hz0⟩ := hex
  rcases key M with h | ⟨D, h1, h2, h3⟩
  · exact absurd hz0 (h d0 hd0)
  · refine ⟨D, ⟨h1, fun d hd => ⟨h3 d hd, ?_⟩, Or.inl h2⟩, h2, h3⟩
    exact hx _ (t.used _ (rgo_lt _ _ hM) (h3 d hd))
end Go.Proofs.Ythlfmlpdnbeelaa
