/- P4Open: the steps of a script of layer 4, opened. -/
import Derived.Test.YtmlbacbcdjfioaaClose
import Derived.Test.YtmlbacbcdjfioaaLHeapPlays
set_option linter.unusedSimpArgs false
set_option linter.unusedVariables false
namespace Go.Proofs.Ytmlbacbcdjfioaa
open Go.ChangeShapes Go.WideShapes Go.ChangeAt Go.RowKit

set_option maxRecDepth 100000
theorem open_steps4 {H : Type} {enc : TypeId × Value → H} {W : World} {base : Nat} {v : Value} {d : DataW H} {ps : List MemPlace} (hval : Value.okWide Try.prog W .any base 83 v)
    (hd : DataW.Trod enc Try.prog W 0 (fun _ => true) true 83 v d ps) (hlt : ∀ x ∈ ps, x.block < W.heap.size) : ∃ a len cap zs, v = .slice a len cap ∧ RowsIn W 3 HeapPlays.sk3 a len cap zs := by
  refine open_rowsIn (ks := HeapPlays.sk3) Try.underlying83 Try.underlying85 (by kernel_rfl) (by decide) ?_ hval hd hlt
  intro j hj
  match j, hj with
  | 0, _ => exact ⟨_, rfl, rfl, by kernel_rfl, Try.underlying3⟩
  | 1, _ => exact ⟨_, rfl, rfl, by kernel_rfl, Try.underlying3⟩
  | 2, _ => exact ⟨_, rfl, rfl, by kernel_rfl, Try.underlying2⟩
end Go.Proofs.Ytmlbacbcdjfioaa
