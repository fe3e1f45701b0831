/- HeapT: layer 4: a heap between two steps: its table, and whatever its positions say; put; a swap. -/
import Derived.Test.YtmlbacbcdjfioaaHeapU
set_option linter.unusedSimpArgs false
set_option linter.unusedVariables false
namespace Go.Proofs.Ytmlbacbcdjfioaa
open Go.ChangeShapes Go.WideShapes Go.ChangeAt Go.RowKit

structure HeapMid (B : Nat) (w : World) (b pb : Nat) (v : Value) (slots n : Nat) (f : Nat → Ent) (P : Nat → Int) : Prop where
  hs : slots ≤ 65536
  lt : ∀ k, k < n → (f k).1 < slots
  ns : n ≤ slots
  ne : b ≠ pb
  c0 : w.cell? ⟨b, 0, none⟩ = some (.bool true)
  c1 : w.cell? ⟨b, 1, none⟩ = some (.int .i64 slots)
  c2 : ∃ m cap, w.cell? ⟨b, 2, none⟩ = some (.slice (some ⟨pb, 0, none⟩) m cap) ∧ m ≤ cap ∧ m = (slots + 255) / 256
  c3 : w.cell? ⟨b, 3, none⟩ = some v
  fb : ∀ o, w.frozen? ⟨b, o, none⟩ = false
  pos : ∀ i, i < (slots + 255) / 256 * 256 → w.cell? ⟨pb, i, none⟩ = some (.int .i64 (P i))
  fp : ∀ o, w.frozen? ⟨pb, o, none⟩ = false
  own : w.ownsRow B 28 2 v n (flat n f)
  vb : v.ownBlock ≠ some b
  vp : v.ownBlock ≠ some pb
  bs : B ≤ w.heap.size
  pl : pb < w.heap.size

structure PosOk (slots n : Nat) (f : Nat → Ent) (P : Nat → Int) : Prop where
  inj : ∀ j k, j < n → k < n → (f j).1 = (f k).1 → j = k
  at_ : ∀ k, k < n → P (f k).1 = (k : Int) + 1
  zero : ∀ i, i < (slots + 255) / 256 * 256 → (∀ k, k < n → (f k).1 ≠ i) → P i = 0

section
variable {B : Nat} {w : World} {b pb : Nat} {v : Value} {slots n : Nat} {f : Nat → Ent} {P : Nat → Int}

theorem HeapRaw.mid (h : HeapRaw B w b pb v slots n f) : ∃ P, HeapMid B w b pb v slots n f P ∧ PosOk slots n f P := by
  have hint : ∀ i, i < (slots + 255) / 256 * 256 → ∃ p : Int, w.cell? ⟨pb, i, none⟩ = some (.int .i64 p) := by
    intro i hi
    by_cases hz : ∀ k, k < n → (f k).1 ≠ i
    · exact ⟨0, h.zero i hi hz⟩
    · simp only [Classical.not_forall, Classical.not_not] at hz
      obtain ⟨k, hk, e⟩ := hz
      exact ⟨_, by rw [← e]; exact h.pos k hk⟩
  obtain ⟨P, hP⟩ : ∃ P : Nat → Int, ∀ i, i < (slots + 255) / 256 * 256 → w.cell? ⟨pb, i, none⟩ = some (.int .i64 (P i)) := by
    refine ⟨fun i => match w.cell? ⟨pb, i, none⟩ with | some (.int _ p) => p | _ => 0, ?_⟩
    intro i hi
    obtain ⟨p, hp⟩ := hint i hi
    simp only [hp]
  refine ⟨P, ⟨h.hs, h.lt, h.n_le, h.ne, h.c0, h.c1, h.c2, h.c3, h.fb, hP, h.fp, h.own, h.vb, h.vp, h.bs, h.pl⟩, ⟨h.inj, ?_, ?_⟩⟩
  · intro k hk
    have h1 := h.lt k hk
    have := (hP (f k).1 (by omega)).symm.trans (h.pos k hk)
    simpa using this
  · intro i hi hz
    have := (hP i hi).symm.trans (h.zero i hi hz)
    simpa using this
theorem HeapMid.raw (h : HeapMid B w b pb v slots n f P) (hp : PosOk slots n f P) : HeapRaw B w b pb v slots n f := by
  refine ⟨h.hs, h.lt, hp.inj, h.ne, h.c0, h.c1, h.c2, h.c3, h.fb, ?_, ?_, h.fp, h.own, h.vb, h.vp, h.bs, h.pl⟩
  · intro k hk
    have h1 := h.lt k hk
    rw [h.pos _ (by omega), hp.at_ k hk]
  · intro i hi hz
    rw [h.pos i hi, hp.zero i hi hz]
theorem HeapMid.b_lt (h : HeapMid B w b pb v slots n f P) : b < w.heap.size := World.block_lt_of_cell? w ⟨b, 0, none⟩ h.c0
theorem HeapMid.same {w' : World} (h : HeapMid B w b pb v slots n f P) (hk : ∀ k, HFoot b pb v k → w'.heap[k]? = w.heap[k]?) (hs : w.heap.size ≤ w'.heap.size) : HeapMid B w' b pb v slots n f P := by
  have hb := hk b (Or.inl rfl)
  have hp := hk pb (Or.inr (Or.inl rfl))
  have e : ∀ o, w'.cell? ⟨b, o, none⟩ = w.cell? ⟨b, o, none⟩ := fun o => World.cell?_of_block (w := w) hb
  have g : ∀ o, w'.frozen? ⟨b, o, none⟩ = w.frozen? ⟨b, o, none⟩ := fun o => World.frozen?_of_block (w := w) hb
  have e2 : ∀ o, w'.cell? ⟨pb, o, none⟩ = w.cell? ⟨pb, o, none⟩ := fun o => World.cell?_of_block (w := w) hp
  have g2 : ∀ o, w'.frozen? ⟨pb, o, none⟩ = w.frozen? ⟨pb, o, none⟩ := fun o => World.frozen?_of_block (w := w) hp
  refine ⟨h.hs, h.lt, h.ns, h.ne, (e 0).trans h.c0, (e 1).trans h.c1, ?_, (e 3).trans h.c3, fun o => (g o).trans (h.fb o), fun i hi => (e2 _).trans (h.pos i hi), fun o => (g2 o).trans (h.fp o), owns_same h.own (fun k hv => hk k (Or.inr (Or.inr hv))), h.vb, h.vp, Nat.le_trans h.bs hs, Nat.lt_of_lt_of_le h.pl hs⟩
  obtain ⟨m, cap, c, r⟩ := h.c2
  exact ⟨m, cap, (e 2).trans c, r⟩
theorem HeapMid.below {w' : World} (h : HeapMid B w b pb v slots n f P) (hb : Below w.heap.size w w') : HeapMid B w' b pb v slots n f P := by
  refine h.same (fun k hk => hb.block k ?_) hb.size
  rcases hk with rfl | rfl | hk
  · exact h.b_lt
  · exact h.pl
  · exact (h.own.lt k hk).2
theorem HeapMid.drew (h : HeapMid B w b pb v slots n f P) : HeapMid B w.drew b pb v slots n f P := h.same (fun _ _ => rfl) (Nat.le_refl _)
theorem HeapMid.entry (h : HeapMid B w b pb v slots n f P) {k : Nat} (hk : k < n) : ∃ g cap, v = .slice (some ⟨g, 0, none⟩) n cap ∧ n ≤ cap ∧ cap ≤ 9223372036854775807 ∧
    (∀ j, j < n → w.cell? ⟨g, j * 2, none⟩ = some (.int .i64 ((f j).1 : Int)) ∧ w.cell? ⟨g, j * 2 + 1, none⟩ = some (.int .i64 (f j).2)) ∧ (∀ o, w.frozen? ⟨g, o, none⟩ = false) ∧ g ≠ b ∧ g ≠ pb := by
  rcases h.own.2 with ⟨_, h0⟩ | ⟨g, cap, cur, rfl, hg, hh, hn, hm, _, _⟩
  · omega
  · refine ⟨g, cap, rfl, hn, by simpa [maxLen] using hm, ?_, h.own.frozenAt, fun e => h.vb (by rw [e]; rfl), fun e => h.vp (by rw [e]; rfl)⟩
    intro j hj
    exact ⟨by rw [h.own.cellAt _ (by omega)]; exact flat_get0 f hj, by rw [h.own.cellAt _ (by omega)]; exact flat_get1 f hj⟩

/-- A position is set. -/
theorem HeapMid.setPos (h : HeapMid B w b pb v slots n f P) (i : Nat) (p : Int) : HeapMid B (w.setCell ⟨pb, i, none⟩ (.int .i64 p)) b pb v slots n f (fun j => if j = i then p else P j) := by
  have e : ∀ o, (w.setCell ⟨pb, i, none⟩ (.int .i64 p)).cell? ⟨b, o, none⟩ = w.cell? ⟨b, o, none⟩ := fun o => World.cell?_setCell_other _ _ _ _ (by have := h.ne; simp <;> omega)
  refine ⟨h.hs, h.lt, h.ns, h.ne, (e 0).trans h.c0, (e 1).trans h.c1, ?_, (e 3).trans h.c3, fun o => by rw [frozen_set]; exact h.fb o, ?_, fun o => by rw [frozen_set]; exact h.fp o, ownsRow_setCell_other h.own h.vp _, h.vb, h.vp, by simpa using h.bs, by simpa using h.pl⟩
  · obtain ⟨m, cap, c, r⟩ := h.c2
    exact ⟨m, cap, (e 2).trans c, r⟩
  · intro j hj
    rw [cell_set]
    by_cases hij : j = i
    · subst hij
      rw [if_pos rfl, if_pos rfl, h.pos j hj]; rfl
    · rw [if_neg (by simp <;> omega), if_neg hij, h.pos j hj]

/-- An entry is set. -/
theorem HeapMid.setEnt {g cap : Nat} (h : HeapMid B w b pb (.slice (some ⟨g, 0, none⟩) n cap) slots n f P) {k : Nat} (hk : k < n) {i : Nat} (hi : i < slots) (x : Int) :
    HeapMid B ((w.setCell ⟨g, k * 2, none⟩ (.int .i64 (i : Int))).setCell ⟨g, k * 2 + 1, none⟩ (.int .i64 x)) b pb (.slice (some ⟨g, 0, none⟩) n cap) slots n (fun j => if j = k then (i, x) else f j) P := by
  have hgb : g ≠ b := fun e => h.vb (by rw [e]; rfl)
  have hgp : g ≠ pb := fun e => h.vp (by rw [e]; rfl)
  have e : ∀ (q : Nat) (o : Nat), q ≠ g → ((w.setCell ⟨g, k * 2, none⟩ (.int .i64 (i : Int))).setCell ⟨g, k * 2 + 1, none⟩ (.int .i64 x)).cell? ⟨q, o, none⟩ = w.cell? ⟨q, o, none⟩ := fun q o hq =>
    (World.cell?_setCell_other _ _ _ _ (by simp <;> omega)).trans (World.cell?_setCell_other _ _ _ _ (by simp <;> omega))
  refine ⟨h.hs, ?_, h.ns, h.ne, (e _ 0 hgb.symm).trans h.c0, (e _ 1 hgb.symm).trans h.c1, ?_, (e _ 3 hgb.symm).trans h.c3, fun o => by rw [frozen_set, frozen_set]; exact h.fb o, fun i hi => (e _ i hgp.symm).trans (h.pos i hi), fun o => by rw [frozen_set, frozen_set]; exact h.fp o, ?_, h.vb, h.vp, by simpa using h.bs, by simpa using h.pl⟩
  · intro j hj
    by_cases hjk : j = k
    · simp [hjk, hi]
    · simp only [hjk, if_false]; exact h.lt j hj
  · obtain ⟨m, cap, c, r⟩ := h.c2
    exact ⟨m, cap, (e _ 2 hgb.symm).trans c, r⟩
  · rw [← flat_set hk]
    exact ((h.own.stored _ _).1.stored _ _).1

theorem swapf_eq {f : Nat → Ent} {a t : Nat} (h : a ≠ t) : (fun j => if j = t then ((f a).1, (f a).2) else (if j = a then ((f t).1, (f t).2) else f j)) = swapf f a t := by
  funext j
  unfold swapf
  by_cases h1 : j = a
  · subst h1; simp [h]
  · by_cases h2 : j = t
    · simp [h2, Ne.symm h]
    · simp [h1, h2]
theorem HeapMid.swap {g cap : Nat} (h : HeapMid B w b pb (.slice (some ⟨g, 0, none⟩) n cap) slots n f P) {a t : Nat} (ha : a < n) (ht : t < n) (hne : a ≠ t) :
    HeapMid B ((((w.setCell ⟨g, a * 2, none⟩ (.int .i64 ((f t).1 : Int))).setCell ⟨g, a * 2 + 1, none⟩ (.int .i64 (f t).2)).setCell ⟨g, t * 2, none⟩ (.int .i64 ((f a).1 : Int))).setCell ⟨g, t * 2 + 1, none⟩ (.int .i64 (f a).2)).drew b pb (.slice (some ⟨g, 0, none⟩) n cap) slots n (swapf f a t) P := by
  rw [← swapf_eq hne]
  exact ((h.setEnt ha (h.lt t ht) (f t).2).setEnt ht (h.lt a ha) (f a).2).drew
theorem swap_upd {w0 : World} {F : Nat → Prop} (g : Nat) (h : Upd F w0 w) (hg : F g) (a c d e : Nat) (p q r s : Value) : Upd F w0 ((((w.setCell ⟨g, a, none⟩ p).setCell ⟨g, c, none⟩ q).setCell ⟨g, d, none⟩ r).setCell ⟨g, e, none⟩ s).drew :=
  ((((h.setCell (fun _ => hg) _).setCell (fun _ => hg) _).setCell (fun _ => hg) _).setCell (fun _ => hg) _).drew
theorem PosOk.swap (h : PosOk slots n f P) {a t : Nat} (ha : a < n) (ht : t < n) (hne : a ≠ t) :
    PosOk slots n (swapf f a t) (fun j => if j = (swapf f a t t).1 then (t : Int) + 1 else (if j = (swapf f a t a).1 then (a : Int) + 1 else P j)) := by
  have ea : swapf f a t a = f t := by simp [swapf]
  have et : swapf f a t t = f a := by simp [swapf, Ne.symm hne]
  have inj' := (SameEnts.swap (f := f) ha ht).inj h.inj
  refine ⟨inj', ?_, ?_⟩
  · intro k hk
    by_cases h1 : k = t
    · subst h1; simp
    · by_cases h2 : k = a
      · subst h2
        have : (swapf f k t k).1 ≠ (swapf f k t t).1 := fun e => hne (inj' _ _ ha ht e)
        simp [this]
      · have n1 : (swapf f a t k).1 ≠ (swapf f a t t).1 := fun e => h1 (inj' _ _ hk ht e)
        have n2 : (swapf f a t k).1 ≠ (swapf f a t a).1 := fun e => h2 (inj' _ _ hk ha e)
        simp only [n1, n2, if_false]
        rw [show swapf f a t k = f k by simp [swapf, h1, h2]]
        exact h.at_ k hk
  · intro i hi hz
    have n1 : i ≠ (swapf f a t t).1 := fun e => hz t ht e.symm
    have n2 : i ≠ (swapf f a t a).1 := fun e => hz a ha e.symm
    simp only [n1, n2, if_false]
    refine h.zero i hi ?_
    intro k hk e
    by_cases h1 : k = t
    · exact hz a ha (by rw [ea, ← h1]; exact e)
    · by_cases h2 : k = a
      · exact hz t ht (by rw [et, ← h2]; exact e)
      · exact hz k hk (by rw [show swapf f a t k = f k by simp [swapf, h1, h2]]; exact e)

set_option maxHeartbeats 1000000
theorem hPut_mid (h : HeapMid B w b pb v slots n f P) {a : Nat} (ha : a < n) :
    Calls Try.prog 77 #[.pointer (some ⟨b, 0, none⟩), .int .i64 a] w fun e w' => e = .returned (.tuple #[]) ∧ HeapMid B w' b pb v slots n f (fun j => if j = (f a).1 then (a : Int) + 1 else P j) ∧ Upd (HFoot b pb v) w w' := by
  obtain ⟨g, cap, rfl, hnc, hcm, cells, _, _, _⟩ := h.entry ha
  obtain ⟨m, pcap, c2, hmc, hm⟩ := h.c2
  have hlt := h.lt a ha
  have hns := h.ns
  have hs := h.hs
  refine (hPut_any h.hs hlt ha (by omega) hnc hcm h.c3 c2 hmc hm (cells a ha).1 h.fp _ (h.pos _ (by omega))).mono ?_
  rintro e w' ⟨rfl, rfl⟩
  exact ⟨rfl, h.setPos _ _, (Upd.refl _ w).setCell (fun _ => Or.inr (Or.inl rfl)) _⟩
end
end Go.Proofs.Ytmlbacbcdjfioaa
