/- L2Works: the example of chapter 2 holds. -/
import Derived.Test.YtljcedlmnbofaaaArenaR
namespace Go.Proofs.Ytljcedlmnbofaaa
open Go.ChangeShapes Go.WideShapes Go.ChangeAt Go.RowKit

theorem ArenaAt.upd {w w' : World} {b lb : Nat} {A : Ar} (h : ArenaAt w b lb A) {F : Nat → Prop} (hu : Upd F w w') (hb : ¬ F b) (hl : ¬ F lb) (hlt : lb < w.heap.size) : ArenaAt w' b lb A :=
  h.of_blocks (hu.keep b h.b_lt hb) (hu.keep lb hlt hl)

set_option maxHeartbeats 1000000 in
theorem l2works_true (w : World) : Calls Try.prog 13 #[] w fun e w' => e = .returned (.bool true) ∧ Below w.heap.size w w' := by
  have HN := Lib.hid (aNew_ok 3 w (by omega))
  go_enter Try.func13, Try.ntmps13
  go_wp2_with fail
  refine HN.out.mono ?_
  rintro e w1 ⟨b, lb, rfl, a0, hb, hl, hbel⟩
  have H0 := Lib.hid a0
  have HB := Lib.hid hbel
  clear a0 hbel
  go_wp2_with fail
  refine (aAlloc_some H0.out 0 (by decide)).mono ?_
  rintro e w2 ⟨rfl, a1, u1⟩
  have H1 := Lib.hid a1
  have HB1 := Lib.hid u1
  clear a1 u1
  go_wp2_with fail
  refine (aAlloc_some H1.out 1 (by decide)).mono ?_
  rintro e w3 ⟨rfl, a1, u1⟩
  have H2 := Lib.hid a1
  have HB2 := Lib.hid u1
  clear a1 u1
  go_wp2_with fail
  refine (aFree_used H2.out 0 (by decide)).mono ?_
  rintro e w4 ⟨rfl, a1, u1⟩
  have H3 := Lib.hid a1
  have HB3 := Lib.hid u1
  clear a1 u1
  go_wp2_with fail
  refine (aNext_any H3.out).mono ?_
  rintro e w5 ⟨rfl, n, rfl⟩
  rw [show (((Ar.new 3).take 0).take 1 |>.freed 0).next = some 0 from rfl]
  simp only [optNat]
  go_wp2_with fail
  refine (aFree_unused (H3.out.drewN n) 0 (by decide) (by decide)).mono ?_
  rintro e w6 ⟨rfl, rfl⟩
  go_wp2_with fail
  refine (aTimes_any (H3.out.drewN n) 1).mono ?_
  rintro e w6 ⟨rfl, rfl⟩
  rw [show (((Ar.new 3).take 0).take 1 |>.freed 0).timesAt 1 = 1 from rfl]
  go_wp2
  go_ret
  refine ⟨by simp, ?_⟩
  have hh : ∀ k, k < w.heap.size → ¬ (k = b ∨ k = lb) := by intro k hk; omega
  have u := (((Upd.of_below HB.out).trans HB1.out (G := fun k => k = b ∨ k = lb) (by intro i hi h; exact absurd h (hh i hi))).trans HB2.out (by intro i hi h; exact absurd h (hh i hi))).trans HB3.out (by intro i hi h; exact absurd h (hh i hi))
  exact (u.drewN n).below _ (Nat.le_refl _) (fun k hk h => by omega)
end Go.Proofs.Ytljcedlmnbofaaa
