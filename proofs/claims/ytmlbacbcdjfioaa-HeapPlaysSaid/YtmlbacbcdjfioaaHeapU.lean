/- HeapU: layer 4: the two closures of settle: where an entry is to be moved. -/
import Derived.Test.YtmlbacbcdjfioaaHeapV
set_option linter.unusedSimpArgs false
set_option linter.unusedVariables false
namespace Go.Proofs.Ytmlbacbcdjfioaa
open Go.ChangeShapes Go.WideShapes Go.ChangeAt Go.RowKit

def optI : Option Nat → Int
  | some t => (t : Int)
  | none => -1

section
variable {B : Nat} {w : World} {b pb : Nat} {v : Value} {slots n : Nat} {f : Nat → Ent}
set_option maxHeartbeats 1000000

theorem hUp_any (h : HeapRaw B w b pb v slots n f) {a c : Nat} (ha : a < n) (hc : w.cell? ⟨c, 0, none⟩ = some (.pointer (some ⟨b, 0, none⟩))) :
    Calls Try.prog 92 #[.int .i64 a, .pointer (some ⟨c, 0, none⟩)] w fun e w' => e = .returned (.int .i64 (optI (upN f a))) ∧ Below w.heap.size w w' := by
  have hn1 := h.n_le
  have hn2 := h.hs
  have hn3 : n ≤ 65536 := by omega
  by_cases h0 : 0 < a
  · have HB := Lib.hid (hBefore_any h ha (show (a - 1) / 2 < n by omega))
    have HE := Lib.hid (show (((a - 1) / 2 : Nat) : Int) = ((a : Int) - 1) / 2 by omega)
    rw [HE.out] at HB
    clear h hn1
    cases hb : before (f a) (f ((a - 1) / 2)) with
    | true =>
      rw [hb] at HB
      have HU := Lib.hid (show upN f a = some ((a - 1) / 2) by simp [upN, h0, hb])
      clear hb
      go_enter Try.func92, Try.ntmps92
      go_wp2_with (go_at_call 93; refine HB.out.mono ?_; rintro e w' ⟨rfl, hb1⟩)
      go_ret
      exact ⟨by rw [HU.out]; simp [optI]; omega, by assumption⟩
    | false =>
      rw [hb] at HB
      have HU := Lib.hid (show upN f a = none by simp [upN, hb])
      clear hb
      go_enter Try.func92, Try.ntmps92
      go_wp2_with (go_at_call 93; refine HB.out.mono ?_; rintro e w' ⟨rfl, hb1⟩)
      go_ret
      exact ⟨by rw [HU.out]; simp [optI], by assumption⟩
  · have ha0 : a = 0 := by omega
    subst ha0
    have HU := Lib.hid (show upN f 0 = none by simp [upN])
    clear h hn1
    go_enter Try.func92, Try.ntmps92
    go_wp2
    go_ret
    exact ⟨by rw [HU.out]; simp [optI], Below.refl _ _⟩

def kidN (n : Nat) (f : Nat → Ent) (a : Nat) : Nat → Nat
  | 0 => a
  | k + 1 => if 2 * a + 1 + k < n ∧ before (f (2 * a + 1 + k)) (f (kidN n f a k)) = true then 2 * a + 1 + k else kidN n f a k
theorem kidN_two (n : Nat) (f : Nat → Ent) (a : Nat) : kidN n f a 2 = kid2 n f a := rfl
theorem kidN_lt {n : Nat} {f : Nat → Ent} {a : Nat} (ha : a < n) : ∀ k, kidN n f a k < n
  | 0 => ha
  | k + 1 => by
    have := kidN_lt (f := f) ha k
    unfold kidN
    split
    · omega
    · exact this

theorem hDown_any (h : HeapRaw B w b pb v slots n f) {a c : Nat} (ha : a < n) (hc : w.cell? ⟨c, 0, none⟩ = some (.pointer (some ⟨b, 0, none⟩))) :
    Calls Try.prog 94 #[.int .i64 a, .pointer (some ⟨c, 0, none⟩)] w fun e w' => e = .returned (.int .i64 (optI (dnN n f a))) ∧ Below w.heap.size w w' := by
  have hn1 := h.n_le
  have hn2 := h.hs
  have hn3 : n ≤ 65536 := by omega
  have hcl := World.block_lt_of_cell? w ⟨c, 0, none⟩ hc
  have hbl := h.b_lt
  obtain ⟨g, cap, hv, hncap, hcm, _, _, _, _⟩ := h.entry ha
  have c3 := h.c3
  rw [hv] at c3
  have HB := Lib.hid (fun (w2 : World) (hb : Below w.heap.size w w2) (x y : Nat) (hx : x < n) (hy : y < n) => hBefore_any (h.below hb) hx hy)
  have HK := Lib.hid (fun k => kidN_lt (f := f) ha k)
  have HD := Lib.hid (show dnN n f a = if kidN n f a 2 = a then none else some (kidN n f a 2) from rfl)
  clear h hv hn1
  go_enter Try.func94, Try.ntmps94
  go_wp2
  go_loopw [4, 8] (fun x y wr => ∃ k : Nat, k ≤ 2 ∧ y = .int .i64 k ∧ x = .int .i64 (kidN n f a k) ∧ Below w.heap.size w wr) (fun _ y _ => 2 - (intOf y).toNat)
  case atStart => exact ⟨0, by omega, rfl, rfl, Below.refl _ _⟩
  case round =>
    obtain ⟨k, hk, rfl, rfl, hbel⟩ := hrel
    have hkl := HK.out k
    have c3' := (hbel.cell (p := ⟨b, 3, none⟩) hbl).trans c3
    have hc' := (hbel.cell (p := ⟨c, 0, none⟩) hcl).trans hc
    have HBE := Lib.hid hbel
    have hS : kidN n f a (k + 1) = if 2 * a + 1 + k < n ∧ before (f (2 * a + 1 + k)) (f (kidN n f a k)) = true then 2 * a + 1 + k else kidN n f a k := rfl
    clear hbel c3 hc
    by_cases hlt : k < 2
    · by_cases hn : 2 * a + 1 + k < n
      · have HB2 := Lib.hid (HB.out wr HBE.out (2 * a + 1 + k) (kidN n f a k) hn hkl)
        cases hb : before (f (2 * a + 1 + k)) (f (kidN n f a k)) with
        | true =>
          rw [hb] at HB2 hS
          rw [if_pos ⟨hn, rfl⟩] at hS
          have HS := Lib.hid hS
          clear hS hb
          go_wp2_with (go_at_call 93; refine HB2.out.mono ?_; rintro e w' ⟨rfl, hb1⟩)
          go_roundw
          case rel => exact ⟨k + 1, by omega, by simp, by rw [HS.out]; simp, HBE.out.trans (Below.mono (by assumption) HBE.out.size)⟩
          case measure => simp [intOf]; omega
        | false =>
          rw [hb] at HB2 hS
          rw [if_neg (by simp)] at hS
          have HS := Lib.hid hS
          clear hS hb
          go_wp2_with (go_at_call 93; refine HB2.out.mono ?_; rintro e w' ⟨rfl, hb1⟩)
          go_roundw
          case rel => exact ⟨k + 1, by omega, by simp, by rw [HS.out], HBE.out.trans (Below.mono (by assumption) HBE.out.size)⟩
          case measure => simp [intOf]; omega
      · rw [if_neg (by omega)] at hS
        have HS := Lib.hid hS
        clear hS
        go_wp2
        go_roundw
        case rel => exact ⟨k + 1, by omega, by simp, by rw [HS.out], HBE.out⟩
        case measure => simp [intOf]; omega
    · have hk2 : k = 2 := by omega
      subst hk2
      clear hS
      by_cases he : kidN n f a 2 = a
      · have hbq : (((kidN n f a 2 : Nat) : Int) == (a : Int)) = true := by rw [he]; simp
        rw [if_pos he] at HD
        clear he
        go_wp2
        go_ret
        exact ⟨by rw [HD.out]; simp [optI], HBE.out⟩
      · have hbq : (((kidN n f a 2 : Nat) : Int) == (a : Int)) = false := by simp; omega
        rw [if_neg he] at HD
        clear he
        go_wp2
        go_ret
        exact ⟨by rw [HD.out]; simp [optI], HBE.out⟩
end
end Go.Proofs.Ytmlbacbcdjfioaa
