/- For every number of slots and every index seepagelaw04.HeapNews returns true. No condition. -/
import Derived.Test.YtmlbacbcdjfioaaPlayH
import Derived.Test.YtmlbacbcdjfioaaClose
set_option linter.unusedSimpArgs false
set_option linter.unusedVariables false
namespace Go.Proofs.Ytmlbacbcdjfioaa
open Go.ChangeShapes Go.WideShapes Go.ChangeAt Go.RowKit
namespace HeapNews

set_option maxHeartbeats 4000000
set_option maxRecDepth 100000 in
theorem walk (n : Int) (hn : -9223372036854775808 ≤ n ∧ n ≤ 9223372036854775807) (i : Int) (hi : -9223372036854775808 ≤ i ∧ i ≤ 9223372036854775807) (w : World) :
    Calls Try.prog 16 #[.int .i64 n, .int .i64 i] w fun e w' => e = .returned (.bool true) ∧ Below w.heap.size w w' := by
  obtain ⟨p, hs⟩ := Pl4.start n w
  have HS := Lib.hid hs
  clear hs
  go_enter Try.func16, Try.ntmps16
  go_wp2_with fail
  refine HS.out.mono ?_
  rintro e w1 ⟨pa, rfl, hr⟩
  have HR := Lib.hid hr
  clear hr
  go_wp2_with fail
  refine HR.out.mono ?_
  rintro e w2 ⟨pr, rfl, hxy, hst⟩
  have HST := Lib.hid hst
  clear hst
  go_wp2_with (first
    | (go_at_call 21; refine (l4works_any _).mono ?_; rintro e w4 ⟨rfl, hb⟩; have HW := Lib.hid (H3.out.keep hb); clear hb)
    | (go_at_call 47; refine (HST.out.agree _).mono ?_; rintro r w3 ⟨rfl, hp⟩; have H3 := Lib.hid hp; clear hp))
  go_ret
  exact ⟨by simp, HW.out.below⟩
end HeapNews
end Go.Proofs.Ytmlbacbcdjfioaa
