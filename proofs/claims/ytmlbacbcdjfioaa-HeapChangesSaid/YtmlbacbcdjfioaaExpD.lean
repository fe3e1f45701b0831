/- ExpD: layer 35: Due: the state between two rounds. -/
import Derived.Test.YtmlbacbcdjfioaaInfo
import Derived.Test.YtmlbacbcdjfioaaExpB
import Derived.Test.YtmlbacbcdjfioaaRngF
set_option linter.unusedSimpArgs false
set_option linter.unusedVariables false
namespace Go.Proofs.Ytmlbacbcdjfioaa
open Go.RowKit


def idxs (L : List Ent) : List Value := L.map fun x => .int .i64 (x.1 : Int)
theorem idxs_len (L : List Ent) : (idxs L).length = L.length := by simp [idxs]
theorem idxs_take (L : List Ent) (j : Nat) (h : j < L.length) : idxs (L.take j) ++ [.int .i64 ((L[j]).1 : Int)] = idxs (L.take (j + 1)) := by
  unfold idxs
  rw [List.take_succ_eq_append_getElem h, List.map_append]
  rfl

/-- Due, called at w: k entries have been taken out, j given; n = w.heap.size: its variable; n + 1, n + 2: the schedule, the time; n + 3, n + 4: the loop's own blocks. -/
structure DueJ (w0 w : World) (e b : Nat) (S0 : Nat → Prop) (L : List Ent) (now : Int) (ms : Nat) (rdy : Obj) (A' : Hp) (S' : Nat → Prop) (v : Value) (k j : Nat) (W : World) : Prop where
  hin : EIn w0 W e b A' S'
  srt : Srt A' (L.drop k)
  le : k ≤ L.length
  foot : ∀ q, S' q → S0 q ∨ w.heap.size + 5 ≤ q
  own : W.ownsRow (w.heap.size + 5) 3 1 v j (idxs (L.take j))
  sep : ∀ q, v.ownBlock = some q → ¬ S' q
  box : W.heap[w.heap.size]? = some (.cells #[v] 43 (0, 0))
  sb : W.heap[w.heap.size + 1]? = some (.cells #[.pointer (some ⟨e, 0, none⟩)] 33 (0, 0))
  nb : W.heap[w.heap.size + 2]? = some (.cells #[.int .i64 now] 2 (0, 0))
  db : W.heap[w.heap.size + 3]? = some (.deferred (some []))
  lb : W.heap[w.heap.size + 4]? = some rdy
  due : ∀ x ∈ L.take k, x.2 ≤ now
  upd : Upd (fun q => S0 q ∨ w.heap.size ≤ q) w W
  sz : w.heap.size + 5 ≤ W.heap.size
  s0 : ∀ q, S0 q → q < w.heap.size
  el : e < w.heap.size
  sl : A'.slots = ms

theorem Hp.popA_slots (A : Hp) : A.popA.slots = A.slots := by
  unfold Hp.popA; split <;> rfl

namespace DueJ
variable {w0 w W : World} {e b : Nat} {S0 : Nat → Prop} {L : List Ent} {now : Int} {ms : Nat} {rdy : Obj} {A' : Hp} {S' : Nat → Prop} {v : Value} {k j : Nat}
theorem nS (h : DueJ w0 w e b S0 L now ms rdy A' S' v k j W) {q : Nat} (h1 : w.heap.size ≤ q) (h2 : q < w.heap.size + 5) : ¬ S' q := by
  intro hs
  rcases h.foot q hs with h3 | h3
  · have := h.s0 q h3; omega
  · omega
theorem below {W' : World} (h : DueJ w0 w e b S0 L now ms rdy A' S' v k j W) (hb : Below W.heap.size W W') : DueJ w0 w e b S0 L now ms rdy A' S' v k j W' := by
  have hz := h.sz
  have keep : ∀ q, q < W.heap.size → W'.heap[q]? = W.heap[q]? := fun q hq => hb.block q hq
  refine ⟨h.hin.below hb, h.srt, h.le, h.foot, owns_same h.own (fun q hq => keep q (h.own.lt q hq).2), h.sep, (keep _ (by omega)).trans h.box, (keep _ (by omega)).trans h.sb, (keep _ (by omega)).trans h.nb, (keep _ (by omega)).trans h.db, (keep _ (by omega)).trans h.lb, h.due, ?_, Nat.le_trans hz hb.size, h.s0, h.el, h.sl⟩
  exact h.upd.trans (Upd.of_below hb) (fun i hi hg => absurd hg (by have := h.upd.size; omega))
theorem obj {o : Obj} (h : DueJ w0 w e b S0 L now ms rdy A' S' v k j W) : DueJ w0 w e b S0 L now ms o A' S' v k j (W.putObj (w.heap.size + 4) o) := by
  have hz := h.sz
  have h4 := h.nS (q := w.heap.size + 4) (by omega) (by omega)
  have keep : ∀ q, q ≠ w.heap.size + 4 → (W.putObj (w.heap.size + 4) o).heap[q]? = W.heap[q]? := fun q hq => World.putObj_heap_other hq
  have hu : Upd (fun q => q = w.heap.size + 4) W (W.putObj (w.heap.size + 4) o) := (Upd.refl (fun q => q = w.heap.size + 4) W).putObj (fun _ => rfl) o
  have h0 := h.hin.ge
  have he := h.el
  refine ⟨h.hin.upd hu (fun q hq e => h4 (e ▸ hq)) (fun q hq e => by omega) (by omega), h.srt, h.le, h.foot, owns_same h.own (fun q hq => keep q (by have := (h.own.lt q hq).1; omega)), h.sep, (keep _ (by omega)).trans h.box, (keep _ (by omega)).trans h.sb, (keep _ (by omega)).trans h.nb, (keep _ (by omega)).trans h.db, World.putObj_heap_same (by omega), h.due, ?_, by simpa using hz, h.s0, h.el, h.sl⟩
  exact h.upd.trans hu (fun i hi hg => by omega)
/-- The first entry is taken out. -/
theorem pop {W' : World} {x : Ent} {M : List Ent} (h : DueJ w0 w e b S0 L now ms rdy A' S' v k j W) (hl : L.drop k = x :: M) (hx : x.2 ≤ now) (hn : HNext w0 W W' b A'.popA S') :
    ∃ S2, DueJ w0 w e b S0 L now ms rdy A'.popA S2 v (k + 1) j W' ∧ (∀ q, S2 q → S' q ∨ W.heap.size ≤ q) ∧ Upd S' W W' := by
  obtain ⟨S2, a1, a2, a3⟩ := h.hin.next hn
  have hz := h.sz
  have hkl : k < L.length := by
    have := congrArg List.length hl
    simp at this; omega
  have hxk : L[k] = x := by
    rw [List.drop_eq_getElem_cons hkl] at hl
    exact (List.cons.inj hl).1
  have keep : ∀ q, q < W.heap.size → ¬ S' q → W'.heap[q]? = W.heap[q]? := fun q hq hs => a3.keep q hq hs
  have kp : ∀ d, d < 5 → W'.heap[w.heap.size + d]? = W.heap[w.heap.size + d]? := fun d hd => keep _ (by omega) (h.nS (by omega) (by omega))
  refine ⟨S2, ⟨a1, ?_, by omega, ?_, owns_same h.own (fun q hq => keep q (h.own.lt q hq).2 (h.sep q hq)), ?_, (kp 0 (by omega)).trans h.box, (kp 1 (by omega)).trans h.sb, (kp 2 (by omega)).trans h.nb, (kp 3 (by omega)).trans h.db, (kp 4 (by omega)).trans h.lb, ?_, ?_, Nat.le_trans hz a3.size, h.s0, h.el, (Hp.popA_slots A').trans h.sl⟩, a2, a3⟩
  · have := h.srt.pop_tail
    rwa [List.tail_drop] at this
  · intro q hq
    rcases a2 q hq with h1 | h1
    · exact h.foot q h1
    · right; omega
  · intro q hq hs
    rcases a2 q hs with h1 | h1
    · exact h.sep q hq h1
    · have := (h.own.lt q hq).2; omega
  · intro y hy
    rw [List.take_succ_eq_append_getElem hkl, List.mem_append] at hy
    rcases hy with hy | hy
    · exact h.due y hy
    · simp at hy; rw [hy, hxk]; exact hx
  · exact h.upd.trans a3 (fun i hi hs => by
      rcases h.foot i hs with h1 | h1
      · exact Or.inl h1
      · exact Or.inr (by omega))
/-- The body: the slot is appended. -/
theorem push {W1 : World} {v' : Value} {X : Obj} (h : DueJ w0 w e b S0 L now ms rdy A' S' v k j W) (hj : j < L.length)
    (own : W1.ownsRow (w.heap.size + 5) 3 1 v' (j + 1) (idxs (L.take j) ++ [.int .i64 ((L[j]).1 : Int)])) (hg : (W.alloc X).grownBy W1 v.ownBlock) (hv : v'.ownBlock = v.ownBlock ∨ v'.ownBlock = some (W.alloc X).heap.size) :
    DueJ w0 w e b S0 L now ms rdy A' S' v' k (j + 1) (W1.setCell ⟨w.heap.size, 0, none⟩ v') ∧ Upd (fun z => z = w.heap.size ∨ v.ownBlock = some z) W (W1.setCell ⟨w.heap.size, 0, none⟩ v') := by
  have hz := h.sz
  have h0 := h.hin.ge
  have he := h.el
  have hu1 : Upd (fun z => v.ownBlock = some z) W W1 := ((Upd.refl _ W).alloc X).grown hg (fun q hq _ => hq)
  have hu : Upd (fun z => z = w.heap.size ∨ v.ownBlock = some z) W (W1.setCell ⟨w.heap.size, 0, none⟩ v') := Upd.setCell (F := fun z => z = w.heap.size ∨ v.ownBlock = some z) (hu1.mono (fun _ _ h => Or.inr h)) (p := ⟨w.heap.size, 0, none⟩) (fun _ => Or.inl rfl) _
  have hvn : ∀ q, v.ownBlock = some q → w.heap.size + 5 ≤ q := fun q hq => (h.own.lt q hq).1
  have kp : ∀ d, d < 5 → W1.heap[w.heap.size + d]? = W.heap[w.heap.size + d]? := fun d hd => hu1.keep _ (by omega) (fun hq => by have := hvn _ hq; omega)
  have kp2 : ∀ d, 0 < d → d < 5 → (W1.setCell ⟨w.heap.size, 0, none⟩ v').heap[w.heap.size + d]? = W.heap[w.heap.size + d]? := fun d h0 hd => (Below.heap_setCell _ _ _ _ (by simp; omega)).trans (kp d hd)
  have hv2 : ∀ q, v'.ownBlock = some q → w.heap.size + 5 ≤ q ∧ ¬ S' q := by
    intro q hq
    refine ⟨(own.lt q hq).1, ?_⟩
    rcases hv with e1 | e1
    · exact h.sep q (by rw [← e1]; exact hq)
    · rw [e1] at hq
      intro hs
      have := (h.hin.foot hs).2
      simp at hq; omega
  refine ⟨⟨h.hin.upd hu ?_ ?_ ?_, h.srt, h.le, h.foot, ?_, fun q hq => (hv2 q hq).2, row_one_set ((kp 0 (by omega)).trans h.box) v', (kp2 1 (by omega) (by omega)).trans h.sb, (kp2 2 (by omega) (by omega)).trans h.nb, (kp2 3 (by omega) (by omega)).trans h.db, (kp2 4 (by omega) (by omega)).trans h.lb, h.due, ?_, ?_, h.s0, h.el, h.sl⟩, hu⟩
  · rintro q hq (rfl | hf)
    · exact h.nS (by omega) (by omega) hq
    · exact h.sep q hf hq
  · rintro q hq (rfl | hf)
    · omega
    · have := hvn q hf; omega
  · rintro (hf | hf)
    · omega
    · have := hvn e hf; omega
  · rw [idxs_take L j hj] at own
    exact ownsRow_setCell_other own (fun hq => by have : w.heap.size + 5 ≤ w.heap.size := (own.lt _ hq).1; omega) _
  · exact h.upd.trans hu (fun i hi hf => by
      rcases hf with rfl | hf
      · right; omega
      · right; have := hvn i hf; omega)
  · have := hu.size; omega
/-- Other blocks of the call's own turn. -/
theorem other {W' : World} {F : Nat → Prop} (h : DueJ w0 w e b S0 L now ms rdy A' S' v k j W) (hu : Upd F W W') (hF : ∀ q, F q → w.heap.size + 5 ≤ q ∧ ¬ S' q ∧ v.ownBlock ≠ some q) : DueJ w0 w e b S0 L now ms rdy A' S' v k j W' := by
  have hz := h.sz
  have h0 := h.hin.ge
  have he := h.el
  have kp : ∀ d, d < 5 → W'.heap[w.heap.size + d]? = W.heap[w.heap.size + d]? := fun d hd => hu.keep _ (by omega) (fun hf => by have := (hF _ hf).1; omega)
  refine ⟨h.hin.upd hu (fun q hq hf => (hF q hf).2.1 hq) (fun q hq hf => by have := (hF q hf).1; omega) (fun hf => by have := (hF e hf).1; omega), h.srt, h.le, h.foot, owns_same h.own (fun q hq => hu.keep q (h.own.lt q hq).2 (fun hf => (hF q hf).2.2 hq)), h.sep, (kp 0 (by omega)).trans h.box, (kp 1 (by omega)).trans h.sb, (kp 2 (by omega)).trans h.nb, (kp 3 (by omega)).trans h.db, (kp 4 (by omega)).trans h.lb, h.due, ?_, Nat.le_trans hz hu.size, h.s0, h.el, h.sl⟩
  exact h.upd.trans hu (fun i hi hf => Or.inr (by have := (hF i hf).1; omega))
end DueJ

/-- How many entries the heap at b has, read off the memory: the measure. -/
def lenAt (w : World) (b : Nat) : Nat := match w.cell? ⟨b, 3, none⟩ with
  | some (.slice _ n _) => n
  | _ => 0
theorem lenAt_eq {B : Nat} {w : World} {b : Nat} {A : Hp} {S : Nat → Prop} {L : List Ent} (h : HAt B w b A S) (hs : Srt A L) : lenAt w b = L.length := by
  have hl := hs.len h.ok
  obtain ⟨pb, v, n, f, hr, ho, hp, hok, rfl, h1, h2⟩ := h
  have hn := hp.len hok
  obtain ⟨a, c, hv, _⟩ := hr.shape
  have c3 := hr.c3
  rw [hv] at c3
  unfold lenAt
  rw [c3]
  simp only
  omega
end Go.Proofs.Ytmlbacbcdjfioaa
