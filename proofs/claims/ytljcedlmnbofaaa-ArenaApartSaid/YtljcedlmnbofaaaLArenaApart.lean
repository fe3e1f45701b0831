/- For every number of slots and every list of bytes seepagelaw02.ArenaApart returns true, and its arguments read as before. No condition. -/
import Derived.Test.YtljcedlmnbofaaaL2PlayW
import Derived.Test.YtljcedlmnbofaaaClose
namespace Go.Proofs.Ytljcedlmnbofaaa
open Go.ChangeShapes Go.WideShapes Go.ChangeAt Go.RowKit
namespace ArenaApart

set_option maxHeartbeats 400000 in
theorem walk (slots : Nat) (hs : slots < 256) (a : Option Addr) (len cap : Nat) (zs : List Int) (w : World) (hin : IntsIn w .u8 a len cap zs) :
    Calls Try.prog 3 #[.int .u8 slots, .slice a len cap] w fun e w' => e = .returned (.bool true) ∧ Below w.heap.size w w' := by
  have HP := Lib.hid (l2play_any slots hs a len cap zs w hin)
  clear hin
  go_enter Try.func3, Try.ntmps3
  go_wp2_with fail
  refine HP.out.mono ?_
  rintro e w1 ⟨b, lb, s, hs, rfl, h1, h2, h3, h4, h5⟩
  have HB := Lib.hid h5
  clear h1 h2 h3 h4 h5 hs
  go_wp2_with (go_at_call 13; refine (l2works_true _).mono ?_; rintro e w2 ⟨rfl, hb⟩)
  go_ret
  exact ⟨by simp, HB.out.trans (hb.mono HB.out.size)⟩
end ArenaApart
end Go.Proofs.Ytljcedlmnbofaaa
