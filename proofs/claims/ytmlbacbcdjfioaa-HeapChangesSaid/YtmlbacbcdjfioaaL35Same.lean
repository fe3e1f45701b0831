/- L35Same: seepagelaw35.same compares two lists. -/
import Derived.Test.YtmlbacbcdjfioaaInts
set_option linter.unusedSimpArgs false
set_option linter.unusedVariables false
namespace Go.Proofs.Ytmlbacbcdjfioaa
open Go.ChangeShapes Go.WideShapes Go.ChangeAt Go.RowKit

set_option maxHeartbeats 400000 in
theorem l35same_any {w : World} {a1 a2 : Option Addr} {n1 n2 c1 c2 : Nat} {xs ys : List Int} (hx : IntsIn w .i64 a1 n1 c1 xs) (hy : IntsIn w .i64 a2 n2 c2 ys) :
    Calls Try.prog 33 #[.slice a1 n1 c1, .slice a2 n2 c2] w fun e w' => e = .returned (.bool (decide (xs = ys))) ∧ ∃ n, w' = w.drewN n := by
  have hx1 := hx.hlen
  have hy1 := hy.hlen
  have hx2 := hx.hle
  have hy2 := hy.hle
  have hx3 := hx.hmax
  have hy3 := hy.hmax
  by_cases hn : n1 = n2
  · subst hn
    have HX := Lib.hid hx
    have HY := Lib.hid hy
    have HL := Lib.hid (hx1.trans hy1.symm)
    have HX1 := Lib.hid hx1
    clear hx hy hx1 hy1
    go_enter Try.func33, Try.ntmps33
    go_wp2
    go_loopw [5] (fun vk wr => ∃ k m : Nat, k ≤ n1 ∧ vk = .int .i64 k ∧ wr = w.drewN m ∧ ∀ j, j < k → xs.getD j 0 = ys.getD j 0) (fun vk _ => n1 - (intOf vk).toNat)
    case atStart => exact ⟨0, 0, Nat.zero_le _, rfl, rfl, fun j hj => absurd hj (Nat.not_lt_zero _)⟩
    case round =>
      obtain ⟨k, m, hk, rfl, rfl, heq⟩ := hrel
      have HE := Lib.hid heq
      clear heq
      by_cases hlt : k < n1
      · obtain ⟨b1, o1, rfl, _, d1⟩ := HX.out.hcell k hlt
        obtain ⟨b2, o2, rfl, _, d2⟩ := HY.out.hcell k hlt
        by_cases hq : xs.getD k 0 = ys.getD k 0
        · have HQ := Lib.hid hq
          have hqb : (xs.getD k 0 == ys.getD k 0) = true := by simpa using hq
          have hqb2 : (xs.getD k 0 != ys.getD k 0) = false := by simpa using hq
          clear hq
          generalize xs.getD k 0 = x at d1 hqb hqb2
          generalize ys.getD k 0 = y at d2 hqb hqb2
          go_wp2
          go_quiet (fail)
          go_wp2
          go_roundw
          case rel =>
            refine ⟨k + 1, _, by omega, by simp, rfl, ?_⟩
            intro j hj
            by_cases e : j = k
            · subst e; exact HQ.out
            · exact HE.out j (by omega)
          case measure => simp [intOf]; omega
        · have HD := Lib.hid (show decide (xs = ys) = false by simp only [decide_eq_false_iff_not]; intro e; exact hq (by rw [e]))
          have hqb2 : (xs.getD k 0 != ys.getD k 0) = true := by simpa using hq
          clear hq
          generalize xs.getD k 0 = x at d1 hqb2
          generalize ys.getD k 0 = y at d2 hqb2
          go_wp2
          go_quiet (fail)
          go_wp2
          go_ret
          exact ⟨by rw [HD.out]; rfl, _, by rw [World.drewN_drewN]⟩
      · have HD := Lib.hid (show decide (xs = ys) = true by
          simp only [decide_eq_true_eq]
          exact list_eq_getD HL.out (fun j hj => HE.out j (by rw [HX1.out] at hj; omega)))
        go_wp2
        go_ret
        exact ⟨by rw [HD.out]; rfl, m, rfl⟩
  · have HD := Lib.hid (show decide (xs = ys) = false by simp only [decide_eq_false_iff_not]; intro e; exact hn (by rw [← hx1, ← hy1, e]))
    have hnb : ((n1 : Int) != (n2 : Int)) = true := by simp; omega
    clear hx hy hx1 hy1
    go_enter Try.func33, Try.ntmps33
    go_wp2
    go_ret
    exact ⟨by rw [HD.out]; rfl, 0, rfl⟩
end Go.Proofs.Ytmlbacbcdjfioaa
