/- Res: a function's results, in temporaries, cells and rows; a block of one cell, of two. No program here. -/
import Derived.Test.YthlfmlpdnbeelaaBase
set_option linter.unusedSimpArgs false
set_option linter.unusedVariables false
namespace Go.Proofs.Ythlfmlpdnbeelaa
open Go.ChangeShapes Go.WideShapes Go.ChangeAt Go.RowKit

theorem run_loadVar_cell {P : Program} {w : World} {p : Addr} {v : Value} {ty : TypeId} {d : TypeDesc} (hu : P.underlying ty = some d) (hd : (match d with | .struct _ | .array _ _ => false | _ => true) = true) (hc : w.cell? p = some v) :
    (loadVar ty p).run P w = .ok v w := by
  have hagg : (isAgg ty).run P w = .ok false w := by
    unfold isAgg
    rw [Sem.run_bind, run_underlying hu w]
    cases d <;> simp_all
  unfold loadVar
  rw [Sem.run_bind, hagg]
  simp only [Result.andThen_ok, Bool.false_eq_true, if_false]
  rw [run_load, hc]

/-- One result. -/
def resOne (tmps : Array Value) : ResultVar → Sem Value
  | .tmp t => pure (tmps.getD t undef)
  | .cell a t => do loadVar t (← asAddr (tmps.getD a undef))
theorem results_eq (fn : Func) (tmps : Array Value) : results fn tmps = (do
    let vs ← fn.results.mapM (resOne tmps)
    pure (if h : vs.size = 1 then vs[0] else .tuple vs)) := by
  unfold results
  congr 2
/-- One result reads so. -/
def ResIs (P : Program) (tmps : Array Value) (w : World) (r : ResultVar) (v : Value) : Prop := (resOne tmps r).run P w = .ok v w
theorem ResIs.tmp {P : Program} {tmps : Array Value} {w : World} (t : Tmp) {v : Value} (h : tmps.getD t undef = v) : ResIs P tmps w (.tmp t) v := by
  unfold ResIs resOne; simp only [Sem.run_pure, h]
theorem ResIs.cell {P : Program} {tmps : Array Value} {w : World} {t : Tmp} {ty : TypeId} {p : Addr} {v : Value} {d : TypeDesc} (h : tmps.getD t undef = .pointer (some p)) (hu : P.underlying ty = some d) (hd : (match d with | .struct _ | .array _ _ => false | _ => true) = true) (hc : w.cell? p = some v) : ResIs P tmps w (.cell t ty) v := by
  unfold ResIs resOne
  simp only [h, asAddr, Sem.run_bind, Sem.run_pure, Result.andThen_ok]
  exact run_loadVar_cell hu hd hc
theorem ResIs.row {P : Program} {tmps : Array Value} {w : World} {p : Tmp} {g : Nat} {t ty : TypeId} {cs : Array Value} {fr : Nat × Nat} {d : TypeDesc} (hp : tmps.getD p undef = .pointer (some ⟨g, 0, none⟩)) (hg : w.heap[g]? = some (.cells cs t fr))
    (hu : P.underlying ty = some d) (hd : (match d with | .struct _ | .array _ _ => true | _ => false) = true) (hi : (P.info? ty).map (·.size) = some cs.size) : ResIs P tmps w (.cell p ty) (.agg cs) := by
  unfold ResIs resOne
  simp only [hp, asAddr, Sem.run_bind, Sem.run_pure, Result.andThen_ok]
  exact run_loadVar_row w g t ty cs fr d hg hu hd hi
theorem results_1 {P : Program} {fn : Func} {tmps : Array Value} {w : World} {a : ResultVar} {x : Value} (h : fn.results = #[a]) (ha : ResIs P tmps w a x) : (results fn tmps).run P w = .ok x w := by
  unfold ResIs at ha
  rw [results_eq, h]
  simp [Sem.run_bind, ha, Result.andThen]
theorem results_2 {P : Program} {fn : Func} {tmps : Array Value} {w : World} {a b : ResultVar} {x y : Value} (h : fn.results = #[a, b]) (ha : ResIs P tmps w a x) (hb : ResIs P tmps w b y) : (results fn tmps).run P w = .ok (.tuple #[x, y]) w := by
  unfold ResIs at ha hb
  rw [results_eq, h]
  simp [Sem.run_bind, ha, hb, Result.andThen]
theorem results_3' {P : Program} {fn : Func} {tmps : Array Value} {w : World} {a b c : ResultVar} {x y z : Value} (h : fn.results = #[a, b, c]) (ha : ResIs P tmps w a x) (hb : ResIs P tmps w b y) (hc : ResIs P tmps w c z) : (results fn tmps).run P w = .ok (.tuple #[x, y, z]) w := by
  unfold ResIs at ha hb hc
  rw [results_eq, h]
  simp [Sem.run_bind, ha, hb, hc, Result.andThen]

theorem row_one {w : World} {g : Nat} {a : Value} {t : TypeId} (h : w.heap[g]? = some (.cells #[a] t (0, 0))) :
    w.cell? ⟨g, 0, none⟩ = some a ∧ (∀ o, w.frozen? ⟨g, o, none⟩ = false) ∧ g < w.heap.size :=
  ⟨by rw [cell_of_row w g 0 _ _ _ h]; rfl, fun o => frozen_of_row w g o _ _ h, (Array.getElem?_eq_some_iff.1 h).1⟩
theorem row_one_set {w : World} {g : Nat} {a : Value} {t : TypeId} (h : w.heap[g]? = some (.cells #[a] t (0, 0))) (p : Value) :
    (w.setCell ⟨g, 0, none⟩ p).heap[g]? = some (.cells #[p] t (0, 0)) := by
  have h1 := heap_setCell_same w g 0 _ _ p h
  rw [h1]; rfl
theorem heap_drew_at (w : World) (k : Nat) : w.drew.heap[k]? = w.heap[k]? := rfl
/-- Two new blocks, behind a call that has turned only newer ones. -/
theorem two_new {w w1 : World} {A B : Obj} (h : Below ((w.alloc A).alloc B).heap.size ((w.alloc A).alloc B) w1) : w1.heap[w.heap.size]? = some A ∧ w1.heap[w.heap.size + 1]? = some B ∧ w.heap.size + 2 ≤ w1.heap.size := by
  have hz := h.size
  simp only [World.size_alloc] at hz
  refine ⟨?_, ?_, by omega⟩
  · rw [h.block _ (by simp; omega), heap_alloc_old _ _ (by simp), heap_alloc_new]
  · rw [h.block _ (by simp), heap_alloc2_new]
end Go.Proofs.Ythlfmlpdnbeelaa
