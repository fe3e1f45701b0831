/- P35Open: the steps of a script of layer 35, opened. -/
import Derived.Test.YtmlbacbcdjfioaaClose
import Derived.Test.YtmlbacbcdjfioaaLExpiryPlays
set_option linter.unusedSimpArgs false
set_option linter.unusedVariables false
namespace Go.Proofs.Ytmlbacbcdjfioaa
open Go.ChangeShapes Go.WideShapes Go.ChangeAt Go.RowKit

set_option maxRecDepth 100000
theorem open_steps35 {H : Type} {enc : TypeId × Value → H} {W : World} {base : Nat} {v : Value} {d : DataW H} {ps : List MemPlace} (hval : Value.okWide Try.prog W .any base 59 v)
    (hd : DataW.Trod enc Try.prog W 0 (fun _ => true) true 59 v d ps) (hlt : ∀ x ∈ ps, x.block < W.heap.size) : ∃ a len cap zs, v = .slice a len cap ∧ RowsIn W 3 ExpiryPlays.sk3 a len cap zs := by
  refine open_rowsIn (ks := ExpiryPlays.sk3) Try.underlying59 Try.underlying61 (by kernel_rfl) (by decide) ?_ hval hd hlt
  intro j hj
  match j, hj with
  | 0, _ => exact ⟨_, rfl, rfl, by kernel_rfl, Try.underlying3⟩
  | 1, _ => exact ⟨_, rfl, rfl, by kernel_rfl, Try.underlying3⟩
  | 2, _ => exact ⟨_, rfl, rfl, by kernel_rfl, Try.underlying2⟩
end Go.Proofs.Ytmlbacbcdjfioaa
