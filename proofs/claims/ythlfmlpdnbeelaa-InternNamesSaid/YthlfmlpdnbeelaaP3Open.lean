/- P3Open: the steps of a script of layer 3, opened. -/
import Derived.Test.YthlfmlpdnbeelaaClose
import Derived.Test.YthlfmlpdnbeelaaLInternNames
set_option linter.unusedSimpArgs false
set_option linter.unusedVariables false
namespace Go.Proofs.Ythlfmlpdnbeelaa
open Go.ChangeShapes Go.WideShapes Go.ChangeAt Go.RowKit

set_option maxRecDepth 100000
theorem open_steps3 {H : Type} {enc : TypeId × Value → H} {W : World} {base : Nat} {v : Value} {d : DataW H} {ps : List MemPlace} (hval : Value.okWide Try.prog W .any base 22 v)
    (hd : DataW.Trod enc Try.prog W 0 (fun _ => true) true 22 v d ps) (hlt : ∀ x ∈ ps, x.block < W.heap.size) : ∃ a len cap zs, v = .slice a len cap ∧ RowsIn W 2 InternNames.sk2 a len cap zs := by
  refine open_rowsIn (ks := InternNames.sk2) Try.underlying22 Try.underlying30 (by kernel_rfl) (by decide) ?_ hval hd hlt
  intro j hj
  match j, hj with
  | 0, _ => exact ⟨_, rfl, rfl, by kernel_rfl, Try.underlying3⟩
  | 1, _ => exact ⟨_, rfl, rfl, by kernel_rfl, Try.underlying23⟩
end Go.Proofs.Ythlfmlpdnbeelaa
