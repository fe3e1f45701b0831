/- L4Fill: layer 4: the law's own 'filled'. -/
import Derived.Test.YtmlbacbcdjfioaaHeapF
set_option linter.unusedSimpArgs false
set_option linter.unusedVariables false
namespace Go.Proofs.Ytmlbacbcdjfioaa
open Go.ChangeShapes Go.WideShapes Go.ChangeAt Go.RowKit

/-- The first k of these keys. -/
def Hp.upto (zs : List Int) (k : Nat) : Hp := { slots := 300, keys := fun i => if i < k then some (zs.getD i 0) else none }
theorem Hp.upto_zero (zs : List Int) : Hp.upto zs 0 = Hp.new 300 := by simp [Hp.upto, Hp.new]
theorem Hp.upto_succ (zs : List Int) (k : Nat) : (Hp.upto zs k).put k (zs.getD k 0) = Hp.upto zs (k + 1) := by
  unfold Hp.put Hp.upto
  congr 1
  funext i
  by_cases h1 : i = k
  · subst h1; simp
  · by_cases h2 : i < k
    · rw [if_neg h1]; simp [h2]; omega
    · rw [if_neg h1]; simp only [h2, if_false]; rw [if_neg (by omega)]
theorem Hp.upto_pushE (zs : List Int) {k : Nat} (h : k < 300) : (Hp.upto zs k).pushE (k : Int) = 0 := by
  unfold Hp.pushE
  rw [if_pos ⟨by omega, by simp [Hp.upto]; omega⟩]
  simp [Hp.upto]
theorem Hp.upto_pushA (zs : List Int) {k : Nat} (h : k < 300) : (Hp.upto zs k).pushA (k : Int) (zs.getD k 0) = Hp.upto zs (k + 1) := by
  unfold Hp.pushA
  rw [if_pos ⟨by omega, by simp [Hp.upto]; omega, by simp [Hp.upto]⟩, Int.toNat_natCast, Hp.upto_succ]

set_option maxHeartbeats 1000000
theorem l4filled_fwd {w : World} {a : Option Addr} {len cap : Nat} {zs : List Int} (h : IntsIn w .i64 a len cap zs) (hl : len ≤ 300) :
    Calls Try.prog 22 #[.slice a len cap, .bool false] w fun e w' => ∃ b S, e = .returned (.pointer (some ⟨b, 0, none⟩)) ∧ HIn w w' b (Hp.upto zs len) S := by
  have HC := Lib.hid h.hcell
  have HW := Lib.hid (fun i hi => wf_i64 (h.getD_wf i hi))
  have hcap := h.hle
  have hmax := h.hmax
  clear h
  go_enter Try.func22, Try.ntmps22
  go_wp2_with (go_at_call 45; refine (HIn.new (w := w) 300 (by omega)).mono ?_; rintro e w1 ⟨b, S1, rfl, h⟩; have H1 := Lib.hid h; clear h)
  go_loopw [7] (fun x wr => ∃ k : Nat, k ≤ len ∧ x = .int .i64 k ∧ ∃ S, HIn w wr b (Hp.upto zs k) S) (fun x _ => len - (intOf x).toNat)
  case atStart => exact ⟨0, Nat.zero_le _, rfl, S1, by rw [Hp.upto_zero]; exact H1.out⟩
  case round =>
    obtain ⟨k, hk, rfl, S, hin⟩ := hrel
    by_cases hlt : k < len
    · obtain ⟨b0, off, rfl, hb0, hc⟩ := HC.out k hlt
      have hc2 := (hin.2.cell (p := ⟨b0, off + k, none⟩) hb0).trans hc
      have HP := Lib.hid (hin.push (k : Int) (zs.getD k 0) (HW.out k hlt))
      rw [Hp.upto_pushE zs (by omega), Hp.upto_pushA zs (by omega)] at HP
      clear hin
      go_wp2_with (go_at_call 50; refine HP.out.mono ?_; rintro e w2 ⟨rfl, S2, h, _, _⟩; have H2 := Lib.hid h; clear h)
      go_roundw
      case rel => exact ⟨k + 1, by omega, by simp, S2, H2.out⟩
      case measure => simp [intOf]; omega
    · have hke : k = len := by omega
      have HI := Lib.hid hin
      clear hin
      go_wp2
      go_ret
      exact ⟨b, S, rfl, by rw [← hke]; exact HI.out⟩
end Go.Proofs.Ytmlbacbcdjfioaa
