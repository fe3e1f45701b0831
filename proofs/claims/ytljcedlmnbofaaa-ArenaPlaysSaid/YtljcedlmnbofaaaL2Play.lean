/- L2Play: the script of seepagelaw02.play. -/
import Derived.Test.YtljcedlmnbofaaaL2Works
namespace Go.Proofs.Ytljcedlmnbofaaa
open Go.ChangeShapes Go.WideShapes Go.ChangeAt Go.RowKit

structure PSt where
  A : Ar
  allocs : Nat
  frees : Nat

/-- One step of play: n slots. -/
def pstep (n : Nat) (s : PSt) (x : Int) : PSt :=
  if x < 128 then
    match s.A.next with
    | some i => { A := s.A.take i, allocs := s.allocs + 1, frees := s.frees }
    | none => s
  else if s.A.used (x % n).toNat then { A := s.A.freed (x % n).toNat, allocs := s.allocs, frees := s.frees + 1 } else s
def prun (n : Nat) (zs : List Int) (k : Nat) : PSt := (zs.take k).foldl (pstep n) { A := Ar.new n, allocs := 0, frees := 0 }

theorem prun_succ (n : Nat) (zs : List Int) (k : Nat) (hk : k < zs.length) : prun n zs (k + 1) = pstep n (prun n zs k) (zs.getD k 0) := by
  unfold prun
  rw [List.take_succ_eq_append_getElem hk, List.foldl_append]
  simp [List.getD, List.getElem?_eq_getElem hk]
theorem pstep_slots (n : Nat) (s : PSt) (x : Int) : (pstep n s x).A.slots = s.A.slots := by
  unfold pstep
  split
  · split <;> rfl
  · split <;> rfl
theorem prun_slots (n : Nat) (zs : List Int) (k : Nat) : (prun n zs k).A.slots = n := by
  unfold prun
  have : ∀ (l : List Int) (s : PSt), s.A.slots = n → (l.foldl (pstep n) s).A.slots = n := by
    intro l
    induction l with
    | nil => intro s h; exact h
    | cons x l ih => intro s h; exact ih _ ((pstep_slots n s x).trans h)
  exact this _ _ rfl
theorem pstep_counts (n : Nat) (s : PSt) (x : Int) : (pstep n s x).allocs ≤ s.allocs + 1 ∧ (pstep n s x).frees ≤ s.frees + 1 := by
  unfold pstep
  split
  · split <;> simp
  · split <;> simp
theorem prun_counts (n : Nat) (zs : List Int) (k : Nat) : (prun n zs k).allocs ≤ k ∧ (prun n zs k).frees ≤ k := by
  induction k with
  | zero => simp [prun]
  | succ k ih =>
    by_cases hk : k < zs.length
    · rw [prun_succ n zs k hk]
      have := pstep_counts n (prun n zs k) (zs.getD k 0)
      omega
    · have : prun n zs (k + 1) = prun n zs k := by
        unfold prun
        rw [List.take_of_length_le (by omega), List.take_of_length_le (by omega)]
      rw [this]; omega

theorem infoBool : (Try.prog.info? 4).map (fun i => (i.zero, i.size, i.bytes)) = some (some (.bool false), 1, 1) := by kernel_rfl

/-- The bools of 'out' at block g. -/
structure BoolsAt (w : World) (g n : Nat) (f : Nat → Bool) : Prop where
  lt : g < w.heap.size
  cell : ∀ i, i < n → w.cell? ⟨g, i, none⟩ = some (.bool (f i))
  fz : ∀ o, w.frozen? ⟨g, o, none⟩ = false
theorem BoolsAt.upd {w w' : World} {g n : Nat} {f : Nat → Bool} (h : BoolsAt w g n f) {F : Nat → Prop} (hu : Upd F w w') (hF : ¬ F g) : BoolsAt w' g n f :=
  ⟨Nat.lt_of_lt_of_le h.lt hu.size, fun i hi => (hu.cell (p := ⟨g, i, none⟩) h.lt hF).trans (h.cell i hi), fun o => (hu.frozen (p := ⟨g, o, none⟩) h.lt hF).trans (h.fz o)⟩
theorem BoolsAt.set {w : World} {g n : Nat} {f : Nat → Bool} (h : BoolsAt w g n f) {i : Nat} (hi : i < n) (b : Bool) {f' : Nat → Bool} (hf : ∀ j, j < n → f' j = if j = i then b else f j) : BoolsAt (w.setCell ⟨g, i, none⟩ (.bool b)) g n f' :=
  ⟨by simpa using h.lt, fun j hj => by
    rw [cell_set, hf j hj]
    by_cases e : j = i
    · subst e; simp [h.cell _ hj]
    · simp [e, Ne.symm e, h.cell _ hj], fun o => by rw [frozen_set]; exact h.fz o⟩

theorem Ar.take_used {A : Ar} (h : A.Ok) {i : Nat} (hi : A.next = some i) : A.used i = false ∧ ∀ j, (A.take i).used j = if j = i then true else A.used j := by
  unfold Ar.next at hi
  have h1 := h.lt
  have h3 := h.nodup
  split at hi
  · rename_i x s hs
    rw [hs] at h1 h3
    simp only [Option.some.injEq] at hi
    subst hi
    have hx := h1 x (by simp)
    have hn := (List.nodup_cons.1 h3).1
    refine ⟨by simp [Ar.used, hs], fun j => ?_⟩
    simp only [Ar.take, Ar.used, hs, List.tail_cons, List.mem_cons]
    by_cases e : j = x
    · subst e; simp [hn, hx]
    · simp [e]
  · rename_i hs
    split at hi
    · simp only [Option.some.injEq] at hi
      subst hi
      refine ⟨by simp [Ar.used], fun j => ?_⟩
      simp only [Ar.take, Ar.used, hs, if_true, List.tail_nil]
      by_cases e : j = A.fresh
      · subst e; simp
      · simp [e]; omega
    · simp at hi
theorem Ar.freed_used {A : Ar} {i : Nat} (hu : A.used i = true) : ∀ j, (A.freed i).used j = if j = i then false else A.used j := by
  intro j
  simp only [Ar.freed, Ar.used, List.mem_cons]
  by_cases e : j = i
  · subst e; simp
  · simp [e]

/-- What holds at the head of play's first loop. -/
structure PRel (w wr : World) (b lb g n : Nat) (s : PSt) : Prop where
  ar : ArenaAt wr b lb s.A
  out : BoolsAt wr g n s.A.used
  gb : g ≠ b
  gl : g ≠ lb
  hb : w.heap.size ≤ b
  hl : w.heap.size ≤ lb
  hg : w.heap.size ≤ g
  below : Below w.heap.size w wr

theorem prun_end (n : Nat) (zs : List Int) (k : Nat) (hk : k ≤ 500) (h : k = zs.length ∨ k = 500) : prun n zs k = prun n zs 500 := by
  rcases h with rfl | rfl
  · unfold prun
    rw [List.take_of_length_le (Nat.le_refl _), List.take_of_length_le (by omega)]
  · rfl

theorem PRel.alloc {w wr w' : World} {b lb g n : Nat} {s : PSt} (h : PRel w wr b lb g n s) {i : Nat} (hi : s.A.next = some i) (hin : i < n) (ha : ArenaAt w' b lb (s.A.take i)) (hu : Upd (fun k => k = b ∨ k = lb) wr w')
    (m f : Nat) : PRel w (w'.setCell ⟨g, i, none⟩ (.bool true)) b lb g n { A := s.A.take i, allocs := m, frees := f } := by
  have h1 : Below w.heap.size w w' := h.below.trans (hu.below _ h.below.size (fun k hk e => by have := h.hb; have := h.hl; omega))
  have ho := h.out.upd hu (by have := h.gb; have := h.gl; omega)
  refine ⟨?_, ho.set hin true (fun j hj => (Ar.take_used h.ar.ok hi).2 j), h.gb, h.gl, h.hb, h.hl, h.hg, h1.setCell h.hg _⟩
  exact ha.of_blocks (Below.heap_setCell _ _ _ _ (Ne.symm h.gb)) (Below.heap_setCell _ _ _ _ (Ne.symm h.gl))

theorem PRel.free {w wr w' : World} {b lb g n : Nat} {s : PSt} (h : PRel w wr b lb g n s) {i : Nat} (hi : s.A.used i = true) (hin : i < n) (ha : ArenaAt w' b lb (s.A.freed i)) (hu : Upd (fun k => k = b ∨ k = lb) wr w')
    (m f : Nat) : PRel w (w'.setCell ⟨g, i, none⟩ (.bool false)) b lb g n { A := s.A.freed i, allocs := m, frees := f } := by
  have h1 : Below w.heap.size w w' := h.below.trans (hu.below _ h.below.size (fun k hk e => by have := h.hb; have := h.hl; omega))
  have ho := h.out.upd hu (by have := h.gb; have := h.gl; omega)
  refine ⟨?_, ho.set hin false (fun j hj => Ar.freed_used hi j), h.gb, h.gl, h.hb, h.hl, h.hg, h1.setCell h.hg _⟩
  exact ha.of_blocks (Below.heap_setCell _ _ _ _ (Ne.symm h.gb)) (Below.heap_setCell _ _ _ _ (Ne.symm h.gl))

theorem PRel.drewN {w wr : World} {b lb g n : Nat} {s : PSt} (h : PRel w wr b lb g n s) (m : Nat) : PRel w (wr.drewN m) b lb g n s :=
  ⟨h.ar.drewN m, ⟨h.out.lt, h.out.cell, h.out.fz⟩, h.gb, h.gl, h.hb, h.hl, h.hg, ⟨h.below.os, h.below.tape, h.below.output, h.below.size, h.below.block⟩⟩

end Go.Proofs.Ytljcedlmnbofaaa
