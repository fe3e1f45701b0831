/- Ref2B: the document's arena: New, Next, Alloc, Free, Copy. -/
import Derived.Test.YtljcedlmnbofaaaRef2A
namespace Go.Proofs.Ytljcedlmnbofaaa
open Go.ChangeShapes Go.WideShapes Go.ChangeAt Go.RowKit

/-- No slot was allocated so often that its number is 0 again. -/
def Ar.TimesOk (A : Ar) : Prop := ∀ i, i < A.slots → (A.times i = 0 ↔ A.fresh ≤ i)

section
variable {B : Nat} {w : World} {b : Nat} {vi vc vr : Value} {A : Ar}

theorem rev_last {x : Nat} {s : List Nat} : (ints (x :: s).reverse)[s.length]? = some (.int .i64 x) := by
  simp [ints]

set_option maxHeartbeats 1000000 in
theorem rNext_any (h : RefAt B w b vi vc vr A) (ht : A.TimesOk) : Calls Try.prog 32 #[.pointer (some ⟨b, 0, none⟩)] w fun e w' => e = .returned (optNat A.next) ∧ ∃ n, w' = w.drewN n := by
  have HV := Lib.hid (rValid_any h)
  have c1 := h.c1
  have c3 := h.c3
  have c4 := h.c4
  have hm := h.ok.slots
  have hfs := h.ok.fresh
  have HN := Lib.hid (show A.next = match A.stack with | x :: _ => some x | [] => if A.fresh < A.slots then some A.fresh else none from rfl)
  have hx := h.ox
  have hlen := h.ok.len
  cases hst : A.stack with
  | cons x s =>
    rw [hst] at HN hx hlen
    simp only at HN
    obtain ⟨g, cap, rfl, d, hn, hmm⟩ := owns_get hx (i := s.length) (by simp)
    rw [rev_last] at d
    simp only [List.length_cons] at c4 hn hlen
    clear h hst hx
    go_enter Try.func32, Try.ntmps32
    go_wp2_with (go_at_call 39; refine HV.out.mono ?_; rintro e w' ⟨rfl, rfl⟩)
    go_quiet (fail)
    go_wp2
    go_ret2
    exact ⟨by simp [HN.out, optNat], _, rfl⟩
  | nil =>
    rw [hst] at HN hx
    simp only at HN
    obtain ⟨a, cap, rfl, hn, hmm⟩ := owns_shape hx
    simp only [List.length_nil] at c4
    have HC := Lib.hid h.oc
    have HT := Lib.hid ht
    clear h hst hx ht
    go_enter Try.func32, Try.ntmps32
    go_wp2_with (go_at_call 39; refine HV.out.mono ?_; rintro e w' ⟨rfl, rfl⟩)
    go_loop [4] (fun vk => ∃ k : Nat, k ≤ A.slots ∧ k ≤ A.fresh ∧ vk = .int .i64 k) (fun vk => A.slots - (intOf vk).toNat)
    case atStart => exact ⟨0, Nat.zero_le _, Nat.zero_le _, rfl⟩
    case round =>
      obtain ⟨k, hk, hkf, rfl⟩ := hrel
      by_cases hlt : k < A.slots
      · obtain ⟨g, c, rfl, d, hn2, hmm2⟩ := owns_get HC.out hlt
        have hiff := HT.out k hlt
        have d2 : w.cell? ⟨g, k, none⟩ = some (.int .u64 (A.times k)) := by rw [d]; simp [u64s, hlt]
        clear d
        by_cases hf : A.fresh ≤ k
        · have hz := hiff.2 hf
          rw [hz] at d2
          have hkf2 : k = A.fresh := by omega
          have HF := Lib.hid hkf2
          clear hz hiff hkf2
          go_wp2
          go_ret2
          exact ⟨by rw [HN.out, ← HF.out]; simp [hlt, optNat], 0, rfl⟩
        · have hz : (A.times k : Int) ≠ 0 := fun e => hf (hiff.1 (by omega))
          have hz2 : ((A.times k : Int) == 0) = false := by simpa using hz
          clear hiff
          go_wp2
          go_round
          case rel => exact ⟨k + 1, by omega, by omega, by simp⟩
          case measure => simp [intOf]; omega
      · go_wp2
        go_ret2
        exact ⟨by rw [HN.out, if_neg (by omega)]; simp [optNat], 0, rfl⟩
end
end Go.Proofs.Ytljcedlmnbofaaa
