/- L2Open: the steps of a script, opened. -/
import Derived.Test.YtljcedlmnbofaaaClose
import Derived.Test.YtljcedlmnbofaaaLArenaPlays
namespace Go.Proofs.Ytljcedlmnbofaaa
open Go.ChangeShapes Go.WideShapes Go.ChangeAt Go.RowKit

theorem open_steps2 {H : Type} {enc : TypeId × Value → H} {W : World} {base : Nat} {v : Value} {d : DataW H} {ps : List MemPlace} (hval : Value.okWide Try.prog W .any base 56 v)
    (hd : DataW.Trod enc Try.prog W 0 (fun _ => true) true 56 v d ps) (hlt : ∀ x ∈ ps, x.block < W.heap.size) : ∃ a len cap zs, v = .slice a len cap ∧ RowsIn W 2 sk a len cap zs := by
  refine open_rowsIn (ks := sk) Try.underlying56 Try.underlying58 (by kernel_rfl) (by decide) ?_ hval hd hlt
  intro j hj
  match j, hj with
  | 0, _ => exact ⟨_, rfl, rfl, by kernel_rfl, Try.underlying3⟩
  | 1, _ => exact ⟨_, rfl, rfl, by kernel_rfl, Try.underlying3⟩
end Go.Proofs.Ytljcedlmnbofaaa
