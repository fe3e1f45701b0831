/- L4FillB: layer 4: the law's own 'filled', from the first key on or from the last one on. -/
import Derived.Test.YtmlbacbcdjfioaaHeapF
import Derived.Test.YtmlbacbcdjfioaaHpT
set_option linter.unusedSimpArgs false
set_option linter.unusedVariables false
namespace Go.Proofs.Ytmlbacbcdjfioaa
open Go.ChangeShapes Go.WideShapes Go.ChangeAt Go.RowKit

theorem fill_push {zs : List Int} {len : Nat} {back : Bool} {k i : Nat} (hi : i < 300) (hk : fillP len back k i = false) (x : Int) :
    (Hp.part zs (fillP len back k)).pushE (i : Int) = 0 ∧ (Hp.part zs (fillP len back k)).pushA (i : Int) x = (Hp.part zs (fillP len back k)).put i x := by
  have h0 : (Hp.part zs (fillP len back k)).keys i = none := by simp [Hp.part, hk]
  constructor
  · unfold Hp.pushE
    rw [if_pos ⟨by omega, by show (i : Int) < ((300 : Nat) : Int); omega⟩]
    simp [h0]
  · unfold Hp.pushA
    rw [if_pos ⟨by omega, by show (i : Int) < ((300 : Nat) : Int); omega, by simpa using h0⟩]
    simp

set_option maxHeartbeats 1000000 in
theorem l4filled_any {w : World} {a : Option Addr} {len cap : Nat} {zs : List Int} (back : Bool) (h : IntsIn w .i64 a len cap zs) (hl : len ≤ 300) :
    Calls Try.prog 22 #[.slice a len cap, .bool back] w fun r w' => ∃ b S, r = .returned (.pointer (some ⟨b, 0, none⟩)) ∧ HIn w w' b (Hp.upto zs len) S := by
  have HC := Lib.hid h.hcell
  have HW := Lib.hid (fun i hi => wf_i64 (h.getD_wf i hi))
  have hcap := h.hle
  have hmax := h.hmax
  clear h
  go_enter Try.func22, Try.ntmps22
  go_wp2_with (go_at_call 45; refine (HIn.new (w := w) 300 (by omega)).mono ?_; rintro r w1 ⟨b, S1, rfl, h⟩; have H1 := Lib.hid h; clear h)
  go_loopw [7] (fun x wr => ∃ k : Nat, k ≤ len ∧ x = .int .i64 k ∧ ∃ S, HIn w wr b (Hp.part zs (fillP len back k)) S) (fun x _ => len - (intOf x).toNat)
  case atStart => exact ⟨0, Nat.zero_le _, rfl, S1, by rw [Hp.part_zero]; exact H1.out⟩
  case round =>
    obtain ⟨k, hk, rfl, S, hin⟩ := hrel
    by_cases hlt : k < len
    · cases back with
      | false =>
        obtain ⟨b0, off, rfl, hb0, hc⟩ := HC.out k hlt
        have hc2 := (hin.2.cell (p := ⟨b0, off + k, none⟩) hb0).trans hc
        have HP := hin.push (k : Int) (zs.getD k 0) (HW.out k hlt)
        have hst := Hp.part_step (back := false) zs hlt
        simp only [Bool.false_eq_true, if_false] at hst
        have hf := fill_push (zs := zs) (len := len) (back := false) (k := k) (i := k) (by omega) (by simp [fillP]) (zs.getD k 0)
        rw [hf.1, hf.2, hst] at HP
        have HP := Lib.hid HP
        clear hin hst hf
        go_wp2_with (go_at_call 50; refine HP.out.mono ?_; rintro r w2 ⟨rfl, S2, h, _, _⟩; have H2 := Lib.hid h; clear h)
        go_roundw
        case rel => exact ⟨k + 1, by omega, by simp, S2, H2.out⟩
        case measure => simp [intOf]; omega
      | true =>
        obtain ⟨b0, off, rfl, hb0, hc⟩ := HC.out (len - 1 - k) (by omega)
        have hc2 := (hin.2.cell (p := ⟨b0, off + (len - 1 - k), none⟩) hb0).trans hc
        have HP := hin.push ((len - 1 - k : Nat) : Int) (zs.getD (len - 1 - k) 0) (HW.out (len - 1 - k) (by omega))
        have hst := Hp.part_step (back := true) zs hlt
        simp only [if_true] at hst
        have hf := fill_push (zs := zs) (len := len) (back := true) (k := k) (i := len - 1 - k) (by omega) (by simp [fillP]; omega) (zs.getD (len - 1 - k) 0)
        rw [hf.1, hf.2, hst, show ((len - 1 - k : Nat) : Int) = (len : Int) - 1 - (k : Int) by omega] at HP
        have HP := Lib.hid HP
        clear hin hst hf
        have hI : ((len : Int) - 1 - (k : Int)).toNat = len - 1 - k := by omega
        go_wp2_with (go_at_call 50; refine HP.out.mono ?_; rintro r w2 ⟨rfl, S2, h, _, _⟩; have H2 := Lib.hid h; clear h)
        go_roundw
        case rel => exact ⟨k + 1, by omega, by simp, S2, H2.out⟩
        case measure => simp [intOf]; omega
    · have hke : k = len := by omega
      have HI := Lib.hid hin
      clear hin
      go_wp2
      go_ret
      exact ⟨b, S, rfl, by rw [← Hp.part_full zs len back, ← hke]; exact hke ▸ HI.out⟩
end Go.Proofs.Ytmlbacbcdjfioaa
