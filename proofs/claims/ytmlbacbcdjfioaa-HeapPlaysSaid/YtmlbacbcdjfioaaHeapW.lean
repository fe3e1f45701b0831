/- HeapW: layer 4, the heap in memory. -/
import Derived.Test.YtmlbacbcdjfioaaBase
import Derived.Test.YtmlbacbcdjfioaaHeapA
set_option linter.unusedSimpArgs false
set_option linter.unusedVariables false
namespace Go.Proofs.Ytmlbacbcdjfioaa
open Go.ChangeShapes Go.WideShapes Go.ChangeAt Go.RowKit

/-- The cells of a table of entries. -/
def flat (n : Nat) (f : Nat → Ent) : List Value := (List.range (n * 2)).map fun j => if j % 2 = 0 then .int .i64 ((f (j / 2)).1 : Int) else .int .i64 (f (j / 2)).2
theorem flat_len (n : Nat) (f : Nat → Ent) : (flat n f).length = n * 2 := by simp [flat]
theorem flat_at (n : Nat) (f : Nat → Ent) (j : Nat) : (flat n f)[j]? = if j < n * 2 then some (if j % 2 = 0 then .int .i64 ((f (j / 2)).1 : Int) else .int .i64 (f (j / 2)).2) else none := by
  by_cases h : j < n * 2
  · simp [flat, h]
  · simp [flat, h]
theorem flat_get0 {n : Nat} (f : Nat → Ent) {k : Nat} (h : k < n) : (flat n f)[k * 2]? = some (.int .i64 ((f k).1 : Int)) := by
  rw [flat_at, if_pos (by omega), if_pos (by omega), show k * 2 / 2 = k by omega]
theorem flat_get1 {n : Nat} (f : Nat → Ent) {k : Nat} (h : k < n) : (flat n f)[k * 2 + 1]? = some (.int .i64 (f k).2) := by
  rw [flat_at, if_pos (by omega), if_neg (by omega), show (k * 2 + 1) / 2 = k by omega]
theorem flat_congr {n : Nat} {f g : Nat → Ent} (h : ∀ k, k < n → f k = g k) : flat n f = flat n g := by
  apply List.ext_getElem?
  intro j
  rw [flat_at, flat_at]
  by_cases hj : j < n * 2
  · rw [if_pos hj, if_pos hj, h (j / 2) (by omega)]
  · rw [if_neg hj, if_neg hj]
theorem flat_set {n : Nat} {f : Nat → Ent} {k : Nat} (h : k < n) (i : Nat) (v : Int) :
    ((flat n f).set (k * 2) (.int .i64 (i : Int))).set (k * 2 + 1) (.int .i64 v) = flat n (fun j => if j = k then (i, v) else f j) := by
  apply List.ext_getElem?
  intro j
  rw [flat_at, List.getElem?_set, List.getElem?_set, flat_at]
  simp only [List.length_set, flat_len]
  by_cases h1 : j = k * 2
  · subst h1
    rw [if_neg (by omega), if_pos rfl, if_pos (by omega), if_pos (by omega), if_pos (by omega), if_pos (by omega)]
  · by_cases h2 : j = k * 2 + 1
    · subst h2
      rw [if_pos rfl, if_pos (by omega), if_pos (by omega), if_neg (by omega), if_pos (by omega)]
    · rw [if_neg (by omega), if_neg (by omega)]
      rw [show (if j / 2 = k then (i, v) else f (j / 2)) = f (j / 2) from if_neg (by omega)]
theorem flat_set1 {n : Nat} {f : Nat → Ent} {k : Nat} (h : k < n) (v : Int) :
    (flat n f).set (k * 2 + 1) (.int .i64 v) = flat n (fun j => if j = k then ((f k).1, v) else f j) := by
  apply List.ext_getElem?
  intro j
  rw [flat_at, List.getElem?_set, flat_at]
  simp only [flat_len]
  by_cases h2 : j = k * 2 + 1
  · subst h2
    rw [if_pos rfl, if_pos (by omega), if_pos (by omega), if_neg (by omega), if_pos (by omega)]
  · rw [if_neg (by omega)]
    by_cases h1 : j = k * 2
    · subst h1
      rw [if_pos (by omega), if_pos (by omega), if_pos (by omega), if_pos (by omega), if_pos (by omega), show k * 2 / 2 = k by omega]
    · rw [show (if j / 2 = k then ((f k).1, v) else f (j / 2)) = f (j / 2) from if_neg (by omega)]
theorem flat_push (n : Nat) (f : Nat → Ent) (i : Nat) (v : Int) : flat n f ++ [.int .i64 (i : Int), .int .i64 v] = flat (n + 1) (fun j => if j = n then (i, v) else f j) := by
  apply List.ext_getElem?
  intro j
  rw [flat_at, List.getElem?_append, flat_len, flat_at]
  by_cases h1 : j < n * 2
  · rw [if_pos h1, if_pos h1, if_pos (show j < (n + 1) * 2 by omega), show (if j / 2 = n then (i, v) else f (j / 2)) = f (j / 2) from if_neg (by omega)]
  · rw [if_neg h1]
    by_cases h2 : j = n * 2
    · subst h2
      rw [if_pos (by omega), if_pos (by omega), if_pos (by omega)]
      simp
    · by_cases h3 : j = n * 2 + 1
      · subst h3
        rw [if_pos (by omega), if_neg (by omega), if_pos (by omega)]
        rw [show n * 2 + 1 - n * 2 = 1 by omega]
        simp
      · rw [if_neg (by omega)]
        rw [List.getElem?_eq_none]
        simp
        omega
theorem flat_take {m n : Nat} (f : Nat → Ent) (h : m ≤ n) : (flat n f).take (m * 2) = flat m f := by
  apply List.ext_getElem?
  intro j
  rw [List.getElem?_take, flat_at, flat_at]
  by_cases hj : j < m * 2
  · rw [if_pos hj, if_pos hj, if_pos (by omega)]
  · rw [if_neg hj, if_neg hj]

/-- The heap at block b, its positions in block pb, its entries (in the order of the table) in v. -/
structure HeapRaw (B : Nat) (w : World) (b pb : Nat) (v : Value) (slots n : Nat) (f : Nat → Ent) : Prop where
  hs : slots ≤ 65536
  lt : ∀ k, k < n → (f k).1 < slots
  inj : ∀ j k, j < n → k < n → (f j).1 = (f k).1 → j = k
  ne : b ≠ pb
  c0 : w.cell? ⟨b, 0, none⟩ = some (.bool true)
  c1 : w.cell? ⟨b, 1, none⟩ = some (.int .i64 slots)
  c2 : ∃ m cap, w.cell? ⟨b, 2, none⟩ = some (.slice (some ⟨pb, 0, none⟩) m cap) ∧ m ≤ cap ∧ m = (slots + 255) / 256
  c3 : w.cell? ⟨b, 3, none⟩ = some v
  fb : ∀ o, w.frozen? ⟨b, o, none⟩ = false
  pos : ∀ k, k < n → w.cell? ⟨pb, (f k).1, none⟩ = some (.int .i64 ((k : Int) + 1))
  zero : ∀ i, i < (slots + 255) / 256 * 256 → (∀ k, k < n → (f k).1 ≠ i) → w.cell? ⟨pb, i, none⟩ = some (.int .i64 0)
  fp : ∀ o, w.frozen? ⟨pb, o, none⟩ = false
  own : w.ownsRow B 28 2 v n (flat n f)
  vb : v.ownBlock ≠ some b
  vp : v.ownBlock ≠ some pb
  bs : B ≤ w.heap.size
  pl : pb < w.heap.size

def HFoot (b pb : Nat) (v : Value) (k : Nat) : Prop := k = b ∨ k = pb ∨ v.ownBlock = some k

theorem owns_same {w w' : World} {B e size n : Nat} {v : Value} {xs : List Value} (h : w.ownsRow B e size v n xs) (hk : ∀ k, v.ownBlock = some k → w'.heap[k]? = w.heap[k]?) : w'.ownsRow B e size v n xs := by
  refine ⟨h.1, ?_⟩
  rcases h.2 with hv | ⟨g, cap, cur, hv, hg, hh, r⟩
  · exact Or.inl hv
  · exact Or.inr ⟨g, cap, cur, hv, hg, by rw [hk g (by rw [hv]; rfl)]; exact hh, r⟩

section
variable {B : Nat} {w : World} {b pb : Nat} {v : Value} {slots n : Nat} {f : Nat → Ent}

theorem HeapRaw.same {w' : World} (h : HeapRaw B w b pb v slots n f) (hk : ∀ k, HFoot b pb v k → w'.heap[k]? = w.heap[k]?) (hs : w.heap.size ≤ w'.heap.size) : HeapRaw B w' b pb v slots n f := by
  have hb := hk b (Or.inl rfl)
  have hp := hk pb (Or.inr (Or.inl rfl))
  have e : ∀ o, w'.cell? ⟨b, o, none⟩ = w.cell? ⟨b, o, none⟩ := fun o => World.cell?_of_block (w := w) hb
  have g : ∀ o, w'.frozen? ⟨b, o, none⟩ = w.frozen? ⟨b, o, none⟩ := fun o => World.frozen?_of_block (w := w) hb
  have e2 : ∀ o, w'.cell? ⟨pb, o, none⟩ = w.cell? ⟨pb, o, none⟩ := fun o => World.cell?_of_block (w := w) hp
  have g2 : ∀ o, w'.frozen? ⟨pb, o, none⟩ = w.frozen? ⟨pb, o, none⟩ := fun o => World.frozen?_of_block (w := w) hp
  refine ⟨h.hs, h.lt, h.inj, h.ne, (e 0).trans h.c0, (e 1).trans h.c1, ?_, (e 3).trans h.c3, fun o => (g o).trans (h.fb o), fun k hk => (e2 _).trans (h.pos k hk), fun i hi hn => (e2 _).trans (h.zero i hi hn), fun o => (g2 o).trans (h.fp o), owns_same h.own (fun k hv => hk k (Or.inr (Or.inr hv))), h.vb, h.vp, Nat.le_trans h.bs hs, Nat.lt_of_lt_of_le h.pl hs⟩
  obtain ⟨m, cap, c, r⟩ := h.c2
  exact ⟨m, cap, (e 2).trans c, r⟩
theorem HeapRaw.b_lt (h : HeapRaw B w b pb v slots n f) : b < w.heap.size := World.block_lt_of_cell? w ⟨b, 0, none⟩ h.c0
theorem HeapRaw.below {w' : World} (h : HeapRaw B w b pb v slots n f) (hb : Below w.heap.size w w') : HeapRaw B w' b pb v slots n f := by
  refine h.same (fun k hk => hb.block k ?_) hb.size
  rcases hk with rfl | rfl | hk
  · exact h.b_lt
  · exact h.pl
  · exact (h.own.lt k hk).2
theorem HeapRaw.drewN (h : HeapRaw B w b pb v slots n f) (m : Nat) : HeapRaw B (w.drewN m) b pb v slots n f := h.same (fun _ _ => rfl) (Nat.le_refl _)

/-- An entry's cells. -/
theorem HeapRaw.entry (h : HeapRaw B w b pb v slots n f) {k : Nat} (hk : k < n) : ∃ g cap, v = .slice (some ⟨g, 0, none⟩) n cap ∧ n ≤ cap ∧ cap ≤ 9223372036854775807 ∧
    (∀ j, j < n → w.cell? ⟨g, j * 2, none⟩ = some (.int .i64 ((f j).1 : Int)) ∧ w.cell? ⟨g, j * 2 + 1, none⟩ = some (.int .i64 (f j).2)) ∧ (∀ o, w.frozen? ⟨g, o, none⟩ = false) ∧ g ≠ b ∧ g ≠ pb := by
  rcases h.own.2 with ⟨_, h0⟩ | ⟨g, cap, cur, rfl, hg, hh, hn, hm, _, _⟩
  · omega
  · refine ⟨g, cap, rfl, hn, by simpa [maxLen] using hm, ?_, h.own.frozenAt, fun e => h.vb (by rw [e]; rfl), fun e => h.vp (by rw [e]; rfl)⟩
    intro j hj
    exact ⟨by rw [h.own.cellAt _ (by omega)]; exact flat_get0 f hj, by rw [h.own.cellAt _ (by omega)]; exact flat_get1 f hj⟩
theorem HeapRaw.shape (h : HeapRaw B w b pb v slots n f) : ∃ a cap, v = .slice a n cap ∧ n ≤ cap ∧ cap ≤ 9223372036854775807 := by
  rcases h.own.2 with ⟨rfl, rfl⟩ | ⟨g, cap, cur, rfl, _, _, hn, hm, _, _⟩
  · exact ⟨none, 0, rfl, Nat.le_refl _, by omega⟩
  · exact ⟨_, cap, rfl, hn, by simpa [maxLen] using hm⟩
theorem HeapRaw.n_le (h : HeapRaw B w b pb v slots n f) : n ≤ slots := by
  have hn : ((List.range n).map (fun k => (f k).1)).Nodup := by
    rw [List.nodup_iff_pairwise_ne, List.pairwise_map]
    have := List.nodup_range (n := n)
    rw [List.nodup_iff_pairwise_ne] at this
    refine this.imp_of_mem ?_
    intro a b ha hb hab e
    exact hab (h.inj a b (List.mem_range.1 ha) (List.mem_range.1 hb) e)
  have h1 := hn.length_le_of_subset (l₂ := List.range slots) (fun y hy => by
    obtain ⟨k, hk, rfl⟩ := List.mem_map.1 hy
    exact List.mem_range.2 (h.lt k (List.mem_range.1 hk)))
  simpa using h1
end
end Go.Proofs.Ytmlbacbcdjfioaa
