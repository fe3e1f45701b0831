/- RngF: a range over a function, with whatever invariants: the loop's record is laid, a round is its body's walk, the pending jump is taken up. No program here. -/
import Derived.Test.YthlfmlpdnbeelaaBase
import Derived.RangeFuncNested
import Derived.RangeFuncBound
import Derived.RangeFuncCalls
import Derived.RangeFuncLeaves
import Derived.Shelf.Abstract
import Derived.Shelf.RegionOpen
import Derived.OwnWalkIn
import Derived.TacticsInMore
import Derived.LoopNIn
import Derived.LoopIn
import Derived.Maps.AppendAt
import Derived.RangeFuncBox
set_option linter.unusedSimpArgs false
set_option linter.unusedVariables false
namespace Go.Proofs.Ythlfmlpdnbeelaa
open Go.RowKit

/-- How the body of a round may be left: the record is as it was; R is told of the jump. -/
def rngPost (l : Nat) (busy : Loop) (R : Option Code → World → Prop) : Exit → Act → World → Prop
  | .normal, _, W' => W'.heap[l]? = some (.loop busy) ∧ R none W'
  | .ret, _, W' => W'.heap[l]? = some (.loop busy) ∧ R (some .ret) W'
  | .exit id, _, W' => W'.heap[l]? = some (.loop busy) ∧ R (some (.exit id)) W'
  | .goto t, _, W' => W'.heap[l]? = some (.loop busy) ∧ R (some (.goto t)) W'
  | .panic _, _, _ => False
  | .outgrown, _, _ => False

/-- What a round is: the body walked from where the record is busy, at each way out the record turned once more. -/
def Rounds (F : Fence) (m : Nat) (P : Program) (l : Nat) (ps : Array Tmp) (a : Act) (assign body : Code) (rec : LoopState → Option Code → Loop) : Prop :=
  ∀ (args : Array Value) (W : World) (R : Ending → World → Prop), args.size = ps.size → W.heap[l]? = some (.loop (rec .ready none)) →
    assign.wpIn (F.inRound l) m P (Exit.then (fun a₁ W1 => W1.heap[l]? = some (.loop (rec .ready none)) ∧
        body.wpIn (F.inRound l) m P (rngPost l (rec .busy none) (fun c W' => R (.returned (.bool c.isNone)) (W'.putObj l (.loop (rec (if c.isNone then .ready else .done) c))))) a₁ (W1.putObj l (.loop (rec .busy none)))) (fun _ _ _ => False))
      { tmps := (ps.zip args).foldl (fun t (p, v) => t.setIfInBounds p v) a.tmps, defers := [] } W →
    YieldAt F m P l args W R

theorem wpIn_rangeFunc_free {F : Fence} {n : Nat} {P : Program} {g : Operand} {ps : Array Tmp} {assign body : Code} {Q : Exit → Act → World → Prop} {a : Act} {w : World}
    (hro : F.round = none) (h1 : 1 ≤ n) {gf : Nat} {lb : Array Value} (hg : a.eval g = .func (.func gf) #[] lb) (hFg : F.fn gf) (eg : ∀ args w, (callFunc gf args).run P w = .ok (.enter gf args) w)
    (h : ∀ rec : LoopState → Option Code → Loop, Rounds F (n - 1 - 1) P (w.heap.size + 1) ps a assign body rec →
      CallsIn F (n - 1) P gf (#[.func (.yield (w.heap.size + 1)) #[] #[]] ++ lb) ((w.alloc (.deferred (some []))).alloc (.loop (rec .ready none))) (fun e W2 => (∃ v, e = .returned v) ∧
        ((W2.heap[w.heap.size + 1]? = some (.loop (rec .ready none)) ∧ ∀ o, Q .normal { a with defers := { target := .collected w.heap.size, args := #[] } :: a.defers } (W2.putObj (w.heap.size + 1) o)) ∨
         (∃ c, W2.heap[w.heap.size + 1]? = some (.loop (rec .done (some c))) ∧ ∀ o, c.wpIn F n P Q { a with defers := { target := .collected w.heap.size, args := #[] } :: a.defers } (W2.putObj (w.heap.size + 1) o))))) :
    (Code.rangeFunc g ps assign body).wpIn F n P Q a w := by
  refine wpIn_rangeFunc ?_
  intro fn hfn
  rw [hro]
  obtain ⟨rec, hrec⟩ : ∃ rec : LoopState → Option Code → Loop, rec = fun st pe => { state := st, pending := pe, fn, tmps := a.tmps, params := ps, assign, body, defers := w.heap.size } := ⟨_, rfl⟩
  have hround : Rounds F (n - 1 - 1) P (w.heap.size + 1) ps a assign body rec := by
    intro args W R hsz hl hwp
    have hlt : w.heap.size + 1 < W.heap.size := (Array.getElem?_eq_some_iff.1 hl).1
    have hy := run_yield (P := P) (args := args) hl (by rw [hrec]; exact hsz)
    rw [hrec] at hy
    refine ⟨fn, _, assign, body, hy, roundIn_of_wpIn hfn (wpIn_mono hwp ?_)⟩
    rintro e a1 W1 hp
    cases e with
    | normal =>
      obtain ⟨hl1, hb⟩ := hp
      refine ⟨_, run_beginRound hl1 (by rw [hrec]), ?_⟩
      rw [show ({ rec .ready none with state := .busy } : Loop) = rec .busy none by rw [hrec]]
      refine wpIn_mono hb ?_
      have fin : ∀ (jump : Option Code) (W3 : World), W3.heap[w.heap.size + 1]? = some (.loop (rec .busy none)) →
          (Instr.endRound (w.heap.size + 1) jump).run P W3 = .ok (.bool jump.isNone) (W3.putObj (w.heap.size + 1) (.loop (rec (if jump.isNone then .ready else .done) jump))) := fun jump W3 hl3 => by
        have := run_endRound (P := P) jump hl3
        rw [hrec] at this ⊢
        exact this
      rintro e a3 W3 hp
      cases e with
      | normal => exact ⟨_, _, fin none W3 hp.1, hp.2⟩
      | ret => exact ⟨_, _, fin (some .ret) W3 hp.1, hp.2⟩
      | exit id => exact ⟨_, _, fin (some (.exit id)) W3 hp.1, hp.2⟩
      | goto t => exact ⟨_, _, fin (some (.goto t)) W3 hp.1, hp.2⟩
      | panic ch => exact hp.elim
      | outgrown => exact hp.elim
    | ret => exact hp.elim
    | exit id => exact hp.elim
    | goto t => exact hp.elim
    | panic ch => exact hp.elim
    | outgrown => exact hp.elim
  obtain ⟨W1, hW1⟩ : ∃ W1, (w.alloc (.deferred (some []))).alloc (.loop (rec .ready none)) = W1 := ⟨_, rfl⟩
  refine ⟨w.heap.size + 1, [{ target := .collected w.heap.size, args := #[] }], W1, { target := .fn (.func gf) lb, args := #[.func (.yield (w.heap.size + 1)) #[] #[]] }, W1, gf,
    #[.func (.yield (w.heap.size + 1)) #[] #[]] ++ lb, W1, ?_, ?_, ?_, ?_, fun _ => h1, ?_⟩
  · rw [← hW1, hrec]; exact run_enterLoop_outer _ _ _ _ _
  · simp only [resolve, hg]
    simp [go_sem]
  · intro f' hf'; simp [Target.leads] at hf'; subst hf'; exact hFg
  · simp [invoke, go_sem, eg]
  · have hc := h rec hround
    rw [hW1] at hc
    refine hc.mono ?_
    rintro e W2 ⟨⟨v, rfl⟩, (⟨hl, hq⟩ | ⟨c, hl, hq⟩)⟩
    · exact ⟨none, _, by have := run_endLoop (P := P) hl (by rw [hrec]; simp); rw [hrec] at this; exact this, hq _⟩
    · exact ⟨some c, _, by have := run_endLoop (P := P) hl (by rw [hrec]; simp); rw [hrec] at this; exact this, hq _⟩

theorem Upd.putObj {F : Nat → Prop} {a w : World} (h : Upd F a w) {l : Nat} (hl : l < a.heap.size → F l) (o : Obj) : Upd F a (w.putObj l o) :=
  ⟨h.os, h.tape, h.output, by simpa using h.size, fun k hk hF => by
    rw [World.putObj_heap_other (fun e => hF (by subst e; exact hl hk))]; exact h.keep k hk hF⟩

/-- append, within a fence, with the place of what it leaves. -/
theorem wpListIn_append2 {F : Fence} {m0 : Nat} {P : Program} {w : World} {ops : Array Oper} {rest : List Oper} {o : Oper} {a : Act} {Q : Exit → Act → World → Prop} (s x : Operand) (t : TypeId) (hgd : o.guard = none)
    (ho : o.op = .call { callee := .builtin .append, args := #[s, x], argTypes := #[t, t] }) {base e : Nat} {z : Value} {size bytes : Nat}
    (hinfo : (P.info? e).map (fun i => (i.zero, i.size, i.bytes)) = some (some z, size, bytes)) (ht : P.underlying t = some (.slice e)) (hzs : z.cells.size = size) (hsz : 0 < size)
    {v : Value} {n m c : Nat} {xs news : List Value} {ad : Addr} (hs : a.eval s = v) (hx : a.eval x = .slice (some ad) m c) (hown : w.ownsRow base e size v n xs)
    (hl : news.length = m * size) (hnews : ∀ j u, news[j]? = some u → w.cell? (ad.add j) = some u) (h1 : ∀ u ∈ news, u.oneCell' = true)
    (h63 : n + m ≤ maxLen) (hbytes : (n + m) * bytes ≤ 140737488355328) (hbase : base ≤ w.heap.size)
    (h : ∀ v' w', w'.ownsRow base e size v' (n + m) (xs ++ news) → w.grownBy w' v.ownBlock → (v' = .slice none 0 0 ↔ v = .slice none 0 0 ∧ m = 0) → (v'.ownBlock = v.ownBlock ∨ v'.ownBlock = some w.heap.size) → wpListIn F m0 P ops Q rest (a.put o.dst v') w') : wpListIn F m0 P ops Q (o :: rest) a w := by
  obtain ⟨v', w', hr, h2, h3, h4, h5⟩ := run_append_own2 (P := P) w base t o.type e z size bytes ht hinfo hzs hsz v n xs hown ad m c news hl hnews h1 h63 hbytes hbase
  refine wpListIn_plain hgd fun K hK' => ?_
  unfold Oper.wpIn
  refine ⟨?_, ?_⟩
  · simp [Oper.about, ho, resolve, Target.leads, Sem.run_pure]
  · rw [Oper.semAt_plain F _ _ (by rw [ho]; intro c hc'; cases hc')]
    simp [execOp, ho, resolve, invoke, builtin, hs, hx, hr, Result.andThen]
    exact hK' _ _ (h v' w' h2 h3 h4 h5)
end Go.Proofs.Ythlfmlpdnbeelaa
