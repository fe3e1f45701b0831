/- For every two times seepagelaw35.ExpiryEnds returns true. No condition. -/
import Derived.Test.YtmlbacbcdjfioaaExpS
import Derived.Test.YtmlbacbcdjfioaaClose
set_option linter.unusedSimpArgs false
set_option linter.unusedVariables false
namespace Go.Proofs.Ytmlbacbcdjfioaa
open Go.ChangeShapes Go.WideShapes Go.ChangeAt Go.RowKit
namespace ExpiryEnds

theorem one_in (w : World) (t : TypeId) (x : Int) (hx : -9223372036854775808 ≤ x ∧ x ≤ 9223372036854775807) : IntsIn (w.alloc (.cells #[.int .i64 x] t)) .i64 (some ⟨w.heap.size, 0, none⟩) 1 1 [x] := by
  refine ⟨rfl, Nat.le_refl _, by omega, ?_, ?_⟩
  · intro i hi
    obtain rfl : i = 0 := by omega
    exact ⟨w.heap.size, 0, rfl, by simp, by rw [World.cell?_alloc_at _ _ _ _ rfl]; rfl⟩
  · intro n hn
    simp only [List.mem_singleton] at hn
    subst hn
    simp only [Lit.wf, IntKind.min, IntKind.max, IntKind.signed, IntKind.bits, Bool.and_eq_true, decide_eq_true_eq, if_true]
    omega
theorem leftR_one (x now : Int) : (Hp.upto [x] 1).leftR 0 now = subR x now := by
  have h1 : (Hp.upto [x] 1).keyAt 0 = some x := by simp [Hp.keyAt, Hp.upto]
  unfold Hp.leftR
  rw [if_pos (by simp [Hp.remE, Hp.upto]), h1]
theorem and_one (n : Int) : bits .and .i64 n 1 = n % 2 := by
  have := and_mask n 1 (by omega)
  simpa using this

set_option maxHeartbeats 2000000 in
set_option maxRecDepth 100000 in
theorem walkA (p : Int) (hp : -9223372036854775808 ≤ p ∧ p ≤ 9223372036854775807) (q : Int) (hq : -9223372036854775808 ≤ q ∧ q ≤ 9223372036854775807) (w : World) (a1 : bits .and .i64 p 1 = p % 2) (a2 : bits .and .i64 q 1 = q % 2) (h1 : p / 2 - q / 2 < 4611686018427387904) (h2 : -4611686018427387904 < p / 2 - q / 2)
    (HL : Hid ((Hp.upto [p] 1).leftR 0 q = ((p / 2 - q / 2) * 2 + (p % 2 - q % 2), 0))) :
    Calls Try.prog 8 #[.int .i64 p, .int .i64 q] w fun e w' => e = .returned (.bool true) ∧ Below w.heap.size w w' := by
  go_enter Try.func8, Try.ntmps8
  go_wp2_with (first
    | (go_at_call 28; refine (Sep.l35works H2.out).mono ?_; rintro r w3 ⟨rfl, h⟩; have H3 := Lib.hid h; clear h)
    | (go_at_call 34; refine (Sep.eLeft H1.out 0 rfl 0 q hq).mono ?_; rintro r w2 ⟨rfl, S2, h⟩; rw [HL.out]; simp only [leftV]; have H2 := Lib.hid h; clear h H1)
    | (go_at_call 29; refine (Sep.l35filled (Sep.alloc (Sep.start w) _) false (one_in w _ p hp) (by omega)).mono ?_; rintro r w1 ⟨e1, b1, S1, rfl, h⟩; have H1 := Lib.hid h; clear h))
  go_ret
  exact ⟨by simp, H3.out.below⟩

set_option maxHeartbeats 2000000 in
set_option maxRecDepth 100000 in
theorem walkB (p : Int) (hp : -9223372036854775808 ≤ p ∧ p ≤ 9223372036854775807) (q : Int) (hq : -9223372036854775808 ≤ q ∧ q ≤ 9223372036854775807) (w : World) (a1 : bits .and .i64 p 1 = 0) (a2 : bits .and .i64 q 1 = 1) (h1 : p / 2 - q / 2 = 4611686018427387904)
    (HL : Hid ((Hp.upto [p] 1).leftR 0 q = (9223372036854775807, 0))) :
    Calls Try.prog 8 #[.int .i64 p, .int .i64 q] w fun e w' => e = .returned (.bool true) ∧ Below w.heap.size w w' := by
  have w1 : wrap64 9223372036854775808 = -9223372036854775808 := by unfold wrap64; rfl
  have w2 : wrap64 (-9223372036854775808 + -1) = 9223372036854775807 := by unfold wrap64; rfl
  have w3 : wrap64 (-9223372036854775809) = 9223372036854775807 := by unfold wrap64; rfl
  go_enter Try.func8, Try.ntmps8
  go_wp2_with (first
    | (go_at_call 28; refine (Sep.l35works H2.out).mono ?_; rintro r w3 ⟨rfl, h⟩; have H3 := Lib.hid h; clear h)
    | (go_at_call 34; refine (Sep.eLeft H1.out 0 rfl 0 q hq).mono ?_; rintro r w2 ⟨rfl, S2, h⟩; rw [HL.out]; simp only [leftV]; have H2 := Lib.hid h; clear h H1)
    | (go_at_call 29; refine (Sep.l35filled (Sep.alloc (Sep.start w) _) false (one_in w _ p hp) (by omega)).mono ?_; rintro r w1 ⟨e1, b1, S1, rfl, h⟩; have H1 := Lib.hid h; clear h))
  go_ret
  exact ⟨by simp, H3.out.below⟩

set_option maxHeartbeats 2000000 in
set_option maxRecDepth 100000 in
theorem walkC (p : Int) (hp : -9223372036854775808 ≤ p ∧ p ≤ 9223372036854775807) (q : Int) (hq : -9223372036854775808 ≤ q ∧ q ≤ 9223372036854775807) (w : World) (a1 : bits .and .i64 p 1 = p % 2) (a2 : bits .and .i64 q 1 = q % 2) (h1 : p / 2 - q / 2 = -4611686018427387904) (h2 : 0 ≤ p % 2 - q % 2) (h3 : q % 2 ≤ p % 2)
    (HL : Hid ((Hp.upto [p] 1).leftR 0 q = (-9223372036854775808 + (p % 2 - q % 2), 0))) :
    Calls Try.prog 8 #[.int .i64 p, .int .i64 q] w fun e w' => e = .returned (.bool true) ∧ Below w.heap.size w w' := by
  go_enter Try.func8, Try.ntmps8
  go_wp2_with (first
    | (go_at_call 28; refine (Sep.l35works H2.out).mono ?_; rintro r w3 ⟨rfl, h⟩; have H3 := Lib.hid h; clear h)
    | (go_at_call 34; refine (Sep.eLeft H1.out 0 rfl 0 q hq).mono ?_; rintro r w2 ⟨rfl, S2, h⟩; rw [HL.out]; simp only [leftV]; have H2 := Lib.hid h; clear h H1)
    | (go_at_call 29; refine (Sep.l35filled (Sep.alloc (Sep.start w) _) false (one_in w _ p hp) (by omega)).mono ?_; rintro r w1 ⟨e1, b1, S1, rfl, h⟩; have H1 := Lib.hid h; clear h))
  go_ret
  exact ⟨by simp, H3.out.below⟩

set_option maxHeartbeats 2000000 in
set_option maxRecDepth 100000 in
theorem walkD (p : Int) (hp : -9223372036854775808 ≤ p ∧ p ≤ 9223372036854775807) (q : Int) (hq : -9223372036854775808 ≤ q ∧ q ≤ 9223372036854775807) (w : World) (a1 : bits .and .i64 p 1 = p % 2) (a2 : bits .and .i64 q 1 = q % 2) (h1 : 4611686018427387904 < p / 2 - q / 2) (h2 : (p / 2 - q / 2 == 4611686018427387904) = false) (h3 : (p / 2 - q / 2 == -4611686018427387904) = false)
    (HL : Hid ((Hp.upto [p] 1).leftR 0 q = (0, 7))) :
    Calls Try.prog 8 #[.int .i64 p, .int .i64 q] w fun e w' => e = .returned (.bool true) ∧ Below w.heap.size w w' := by
  go_enter Try.func8, Try.ntmps8
  go_wp2_with (first
    | (go_at_call 28; refine (Sep.l35works H2.out).mono ?_; rintro r w3 ⟨rfl, h⟩; have H3 := Lib.hid h; clear h)
    | (go_at_call 34; refine (Sep.eLeft H1.out 0 rfl 0 q hq).mono ?_; rintro r w2 ⟨rfl, S2, h⟩; rw [HL.out]; simp only [leftV]; have H2 := Lib.hid h; clear h H1)
    | (go_at_call 29; refine (Sep.l35filled (Sep.alloc (Sep.start w) _) false (one_in w _ p hp) (by omega)).mono ?_; rintro r w1 ⟨e1, b1, S1, rfl, h⟩; have H1 := Lib.hid h; clear h))
  go_ret
  exact ⟨by simp, H3.out.below⟩

set_option maxHeartbeats 2000000 in
set_option maxRecDepth 100000 in
theorem walkE (p : Int) (hp : -9223372036854775808 ≤ p ∧ p ≤ 9223372036854775807) (q : Int) (hq : -9223372036854775808 ≤ q ∧ q ≤ 9223372036854775807) (w : World) (a1 : bits .and .i64 p 1 = p % 2) (a2 : bits .and .i64 q 1 = q % 2) (h1 : p / 2 - q / 2 = 4611686018427387904) (h2 : 0 ≤ p % 2 - q % 2) (h3 : q % 2 ≤ p % 2)
    (HL : Hid ((Hp.upto [p] 1).leftR 0 q = (0, 7))) :
    Calls Try.prog 8 #[.int .i64 p, .int .i64 q] w fun e w' => e = .returned (.bool true) ∧ Below w.heap.size w w' := by
  go_enter Try.func8, Try.ntmps8
  go_wp2_with (first
    | (go_at_call 28; refine (Sep.l35works H2.out).mono ?_; rintro r w3 ⟨rfl, h⟩; have H3 := Lib.hid h; clear h)
    | (go_at_call 34; refine (Sep.eLeft H1.out 0 rfl 0 q hq).mono ?_; rintro r w2 ⟨rfl, S2, h⟩; rw [HL.out]; simp only [leftV]; have H2 := Lib.hid h; clear h H1)
    | (go_at_call 29; refine (Sep.l35filled (Sep.alloc (Sep.start w) _) false (one_in w _ p hp) (by omega)).mono ?_; rintro r w1 ⟨e1, b1, S1, rfl, h⟩; have H1 := Lib.hid h; clear h))
  go_ret
  exact ⟨by simp, H3.out.below⟩

set_option maxHeartbeats 2000000 in
set_option maxRecDepth 100000 in
theorem walkF (p : Int) (hp : -9223372036854775808 ≤ p ∧ p ≤ 9223372036854775807) (q : Int) (hq : -9223372036854775808 ≤ q ∧ q ≤ 9223372036854775807) (w : World) (a1 : bits .and .i64 p 1 = p % 2) (a2 : bits .and .i64 q 1 = q % 2) (h1 : p / 2 - q / 2 < -4611686018427387904) (h2 : (p / 2 - q / 2 == 4611686018427387904) = false) (h3 : (p / 2 - q / 2 == -4611686018427387904) = false)
    (HL : Hid ((Hp.upto [p] 1).leftR 0 q = (0, 7))) :
    Calls Try.prog 8 #[.int .i64 p, .int .i64 q] w fun e w' => e = .returned (.bool true) ∧ Below w.heap.size w w' := by
  go_enter Try.func8, Try.ntmps8
  go_wp2_with (first
    | (go_at_call 28; refine (Sep.l35works H2.out).mono ?_; rintro r w3 ⟨rfl, h⟩; have H3 := Lib.hid h; clear h)
    | (go_at_call 34; refine (Sep.eLeft H1.out 0 rfl 0 q hq).mono ?_; rintro r w2 ⟨rfl, S2, h⟩; rw [HL.out]; simp only [leftV]; have H2 := Lib.hid h; clear h H1)
    | (go_at_call 29; refine (Sep.l35filled (Sep.alloc (Sep.start w) _) false (one_in w _ p hp) (by omega)).mono ?_; rintro r w1 ⟨e1, b1, S1, rfl, h⟩; have H1 := Lib.hid h; clear h))
  go_ret
  exact ⟨by simp, H3.out.below⟩

set_option maxHeartbeats 2000000 in
set_option maxRecDepth 100000 in
theorem walkG (p : Int) (hp : -9223372036854775808 ≤ p ∧ p ≤ 9223372036854775807) (q : Int) (hq : -9223372036854775808 ≤ q ∧ q ≤ 9223372036854775807) (w : World) (a1 : bits .and .i64 p 1 = p % 2) (a2 : bits .and .i64 q 1 = q % 2) (h1 : p / 2 - q / 2 = -4611686018427387904) (h2 : p % 2 - q % 2 < 0) (h3 : p % 2 < q % 2)
    (HL : Hid ((Hp.upto [p] 1).leftR 0 q = (0, 7))) :
    Calls Try.prog 8 #[.int .i64 p, .int .i64 q] w fun e w' => e = .returned (.bool true) ∧ Below w.heap.size w w' := by
  go_enter Try.func8, Try.ntmps8
  go_wp2_with (first
    | (go_at_call 28; refine (Sep.l35works H2.out).mono ?_; rintro r w3 ⟨rfl, h⟩; have H3 := Lib.hid h; clear h)
    | (go_at_call 34; refine (Sep.eLeft H1.out 0 rfl 0 q hq).mono ?_; rintro r w2 ⟨rfl, S2, h⟩; rw [HL.out]; simp only [leftV]; have H2 := Lib.hid h; clear h H1)
    | (go_at_call 29; refine (Sep.l35filled (Sep.alloc (Sep.start w) _) false (one_in w _ p hp) (by omega)).mono ?_; rintro r w1 ⟨e1, b1, S1, rfl, h⟩; have H1 := Lib.hid h; clear h))
  go_ret
  exact ⟨by simp, H3.out.below⟩

theorem walk (p : Int) (hp : -9223372036854775808 ≤ p ∧ p ≤ 9223372036854775807) (q : Int) (hq : -9223372036854775808 ≤ q ∧ q ≤ 9223372036854775807) (w : World) :
    Calls Try.prog 8 #[.int .i64 p, .int .i64 q] w fun e w' => e = .returned (.bool true) ∧ Below w.heap.size w w' := by
  have hL := leftR_one p q
  have a1 := and_one p
  have a2 := and_one q
  have e1 : p - q = (p / 2 - q / 2) * 2 + (p % 2 - q % 2) := by omega
  have m1 : 0 ≤ p % 2 ∧ p % 2 ≤ 1 := by omega
  have m2 : 0 ≤ q % 2 ∧ q % 2 ≤ 1 := by omega
  unfold subR at hL
  by_cases c1 : p / 2 - q / 2 < 4611686018427387904
  · by_cases c2 : -4611686018427387904 < p / 2 - q / 2
    · rw [if_pos (by omega), e1] at hL
      exact walkA p hp q hq w a1 a2 c1 c2 (Lib.hid hL)
    · by_cases c3 : p / 2 - q / 2 = -4611686018427387904
      · by_cases c4 : q % 2 ≤ p % 2
        · rw [if_pos (by omega), show p - q = -9223372036854775808 + (p % 2 - q % 2) by omega] at hL
          exact walkC p hp q hq w a1 a2 c3 (by omega) c4 (Lib.hid hL)
        · rw [if_neg (by omega)] at hL
          exact walkG p hp q hq w a1 a2 c3 (by omega) (by omega) (Lib.hid hL)
      · rw [if_neg (by omega)] at hL
        exact walkF p hp q hq w a1 a2 (by omega) (by simp; omega) (by simp; omega) (Lib.hid hL)
  · by_cases c3 : p / 2 - q / 2 = 4611686018427387904
    · by_cases c4 : q % 2 ≤ p % 2
      · rw [if_neg (by omega)] at hL
        exact walkE p hp q hq w a1 a2 c3 (by omega) c4 (Lib.hid hL)
      · rw [if_pos (by omega), show p - q = 9223372036854775807 by omega] at hL
        exact walkB p hp q hq w (by rw [a1]; omega) (by rw [a2]; omega) c3 (Lib.hid hL)
    · rw [if_neg (by omega)] at hL
      exact walkD p hp q hq w a1 a2 (by omega) (by simp; omega) (by simp; omega) (Lib.hid hL)
end ExpiryEnds
end Go.Proofs.Ytmlbacbcdjfioaa
