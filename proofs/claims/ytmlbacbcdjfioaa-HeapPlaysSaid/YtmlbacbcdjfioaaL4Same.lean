/- L4Same: seepagelaw04.same compares two lists of entries. -/
import Derived.Test.YtmlbacbcdjfioaaEntsIn
set_option linter.unusedSimpArgs false
set_option linter.unusedVariables false
namespace Go.Proofs.Ytmlbacbcdjfioaa
open Go.ChangeShapes Go.WideShapes Go.ChangeAt Go.RowKit

set_option maxHeartbeats 1000000 in
theorem l4same_any {w : World} {a1 a2 : Option Addr} {n1 n2 c1 c2 : Nat} {xs ys : List Ent} (hx : EntsIn w a1 n1 c1 xs) (hy : EntsIn w a2 n2 c2 ys) :
    Calls Try.prog 43 #[.slice a1 n1 c1, .slice a2 n2 c2] w fun e w' => e = .returned (.bool (decide (xs = ys))) ∧ ∃ n, w' = w.drewN n := by
  have hx1 := hx.hlen
  have hy1 := hy.hlen
  have hx2 := hx.hle
  have hy2 := hy.hle
  have hx3 := hx.hmax
  have hy3 := hy.hmax
  by_cases hn : n1 = n2
  · subst hn
    have HX := Lib.hid hx
    have HY := Lib.hid hy
    have HL := Lib.hid (hx1.trans hy1.symm)
    have HX1 := Lib.hid hx1
    clear hx hy hx1 hy1
    go_enter Try.func43, Try.ntmps43
    go_wp2
    go_loopw [5] (fun vk wr => ∃ k m : Nat, k ≤ n1 ∧ vk = .int .i64 k ∧ wr = w.drewN m ∧ ∀ j, j < k → entAt xs j = entAt ys j) (fun vk _ => n1 - (intOf vk).toNat)
    case atStart => exact ⟨0, 0, Nat.zero_le _, rfl, rfl, fun j hj => absurd hj (Nat.not_lt_zero _)⟩
    case round =>
      obtain ⟨k, m, hk, rfl, rfl, heq⟩ := hrel
      have HE := Lib.hid heq
      clear heq
      by_cases hlt : k < n1
      · obtain ⟨b1, o1, rfl, _, d1, d1'⟩ := HX.out.hcell k hlt
        obtain ⟨b2, o2, rfl, _, d2, d2'⟩ := HY.out.hcell k hlt
        by_cases hq : entAt xs k = entAt ys k
        · have HQ := Lib.hid hq
          rw [← hq] at d2 d2'
          clear hq
          generalize entAt xs k = x at d1 d1' d2 d2'
          generalize (x.1 : Int) = x1 at d1 d2
          generalize x.2 = x2 at d1' d2'
          go_wp2
          go_quiet (fail)
          go_wp2
          go_roundw
          case rel =>
            refine ⟨k + 1, _, by omega, by simp, rfl, ?_⟩
            intro j hj
            by_cases e : j = k
            · subst e; exact HQ.out
            · exact HE.out j (by omega)
          case measure => simp [intOf]; omega
        · have HD := Lib.hid (show decide (xs = ys) = false by simp only [decide_eq_false_iff_not]; intro e; exact hq (by rw [e]))
          have hqb : (((entAt xs k).1 : Int) == ((entAt ys k).1 : Int)) = false ∨ ((((entAt xs k).1 : Int) == ((entAt ys k).1 : Int)) = true ∧ ((entAt xs k).2 == (entAt ys k).2) = false) := by
            by_cases e1 : (entAt xs k).1 = (entAt ys k).1
            · right
              refine ⟨by simp [e1], ?_⟩
              rw [beq_eq_false_iff_ne]
              intro e2
              exact hq (Prod.ext e1 e2)
            · left
              rw [beq_eq_false_iff_ne]
              omega
          clear hq
          generalize entAt xs k = x at d1 d1' hqb
          generalize entAt ys k = y at d2 d2' hqb
          generalize (x.1 : Int) = x1 at d1 hqb
          generalize x.2 = x2 at d1' hqb
          generalize (y.1 : Int) = y1 at d2 hqb
          generalize y.2 = y2 at d2' hqb
          rcases hqb with hq1 | ⟨hq1, hq2⟩
          all_goals
            go_wp2
            go_quiet (fail)
            go_wp2
            go_ret
            exact ⟨by rw [HD.out]; rfl, _, by rw [World.drewN_drewN]⟩
      · have HD := Lib.hid (show decide (xs = ys) = true by
          simp only [decide_eq_true_eq]
          exact ents_eq HL.out (fun j hj => HE.out j (by rw [HX1.out] at hj; omega)))
        go_wp2
        go_ret
        exact ⟨by rw [HD.out]; rfl, m, rfl⟩
  · have HD := Lib.hid (show decide (xs = ys) = false by simp only [decide_eq_false_iff_not]; intro e; exact hn (by rw [← hx1, ← hy1, e]))
    have hnb : ((n1 : Int) != (n2 : Int)) = true := by simp; omega
    clear hx hy hx1 hy1
    go_enter Try.func43, Try.ntmps43
    go_wp2
    go_ret
    exact ⟨by rw [HD.out]; rfl, 0, rfl⟩
end Go.Proofs.Ytmlbacbcdjfioaa
