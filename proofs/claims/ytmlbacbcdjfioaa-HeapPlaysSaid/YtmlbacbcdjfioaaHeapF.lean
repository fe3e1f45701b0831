/- HeapF: layer 4: a heap that a law has made: its calls. -/
import Derived.Test.YtmlbacbcdjfioaaHeapG
set_option linter.unusedSimpArgs false
set_option linter.unusedVariables false
namespace Go.Proofs.Ytmlbacbcdjfioaa
open Go.ChangeShapes Go.WideShapes Go.ChangeAt Go.RowKit

/-- A heap that was made since w0. -/
def HIn (w0 w : World) (b : Nat) (A : Hp) (S : Nat → Prop) : Prop := HAt w0.heap.size w b A S ∧ Below w0.heap.size w0 w
/-- .. behind an operation. -/
def HNext (w0 w w' : World) (b : Nat) (A : Hp) (S : Nat → Prop) : Prop := ∃ S', HIn w0 w' b A S' ∧ (∀ k, S' k → S k ∨ w.heap.size ≤ k) ∧ Upd S w w'

section
variable {w0 w : World} {b : Nat} {A : Hp} {S : Nat → Prop}
theorem HIn.next (h : HIn w0 w b A S) {w' : World} {A' : Hp} (hl : Left w0.heap.size w w' b A' S) : HNext w0 w w' b A' S := by
  obtain ⟨S', h1, h2, h3⟩ := hl
  refine ⟨S', ⟨h1, h.2.trans (h3.below _ h.2.size ?_)⟩, h2, h3⟩
  intro k hk hs
  exact absurd (h.1.foot hs).1 (by omega)
theorem HIn.below {w' : World} (h : HIn w0 w b A S) (hb : Below w.heap.size w w') : HIn w0 w' b A S := ⟨h.1.below hb, h.2.trans (hb.mono h.2.size)⟩
theorem HIn.upd {w' : World} {F : Nat → Prop} (h : HIn w0 w b A S) (hu : Upd F w w') (hF : ∀ k, S k → ¬ F k) (hF2 : ∀ k, k < w0.heap.size → ¬ F k) : HIn w0 w' b A S :=
  ⟨h.1.upd hu hF, h.2.trans (hu.below _ h.2.size hF2)⟩
theorem HIn.new (n : Nat) (h : n ≤ 65536) : Calls Try.prog 45 #[.int .i64 n] w fun e w' => ∃ b S, e = .returned (.tuple #[.pointer (some ⟨b, 0, none⟩), .int .i64 0]) ∧ HIn w w' b (Hp.new n) S :=
  (hNew_ok n w h).mono fun _ _ ⟨b, S, h1, h2, h3⟩ => ⟨b, S, h1, h2, h3⟩
theorem HIn.push (h : HIn w0 w b A S) (i x : Int) (hx : -9223372036854775808 ≤ x ∧ x ≤ 9223372036854775807) :
    Calls Try.prog 50 #[.pointer (some ⟨b, 0, none⟩), .int .i64 i, .int .i64 x] w fun e w' => e = .returned (.int .i64 (A.pushE i)) ∧ HNext w0 w w' b (A.pushA i x) S :=
  (hPush_at h.1 i x hx).mono fun _ _ ⟨h1, h2⟩ => ⟨h1, h.next h2⟩
theorem HIn.change (h : HIn w0 w b A S) (i x : Int) (hx : -9223372036854775808 ≤ x ∧ x ≤ 9223372036854775807) :
    Calls Try.prog 49 #[.pointer (some ⟨b, 0, none⟩), .int .i64 i, .int .i64 x] w fun e w' => e = .returned (.int .i64 (A.remE i)) ∧ HNext w0 w w' b (A.chgA i x) S :=
  (hChange_at h.1 i x hx).mono fun _ _ ⟨h1, h2⟩ => ⟨h1, h.next h2⟩
theorem HIn.remove (h : HIn w0 w b A S) (i : Int) :
    Calls Try.prog 44 #[.pointer (some ⟨b, 0, none⟩), .int .i64 i] w fun e w' => e = .returned (.int .i64 (A.remE i)) ∧ HNext w0 w w' b (A.remA i) S :=
  (hRemove_at h.1 i).mono fun _ _ ⟨h1, h2⟩ => ⟨h1, h.next h2⟩
theorem HIn.pop (h : HIn w0 w b A S) :
    Calls Try.prog 23 #[.pointer (some ⟨b, 0, none⟩)] w fun e w' => e = .returned (minV A.first) ∧ HNext w0 w w' b A.popA S :=
  (hPop_at h.1).mono fun _ _ ⟨h1, h2⟩ => ⟨h1, h.next h2⟩
theorem HIn.len (h : HIn w0 w b A S) :
    Calls Try.prog 24 #[.pointer (some ⟨b, 0, none⟩)] w fun e w' => e = .returned (.int .i64 A.len) ∧ w = w' := hLen_at h.1

theorem works_first : (((Hp.new 4).put 2 5).put 0 5).first = some (0, 5) := by
  refine Hp.first_eq ⟨by simp [Hp.put], ?_⟩
  intro i v hi
  rw [not_before_iff]
  simp only [Hp.put, Hp.new] at hi
  split at hi
  · simp at hi; omega
  · split at hi
    · simp at hi; omega
    · simp at hi
theorem works_len : ((((Hp.new 4).put 2 5).put 0 5).del 0).len = 1 := by decide

set_option maxHeartbeats 1000000
theorem l4works_any (w : World) : Calls Try.prog 21 #[] w fun e w' => e = .returned (.bool true) ∧ Below w.heap.size w w' := by
  have E1 := Lib.hid (show (Hp.new 4).pushE 2 = 0 by decide)
  have A1 := Lib.hid (show (Hp.new 4).pushA 2 5 = (Hp.new 4).put 2 5 from if_pos (by decide))
  have E2 := Lib.hid (show ((Hp.new 4).put 2 5).pushE 0 = 0 by decide)
  have A2 := Lib.hid (show ((Hp.new 4).put 2 5).pushA 0 5 = ((Hp.new 4).put 2 5).put 0 5 from if_pos (by decide))
  have E3 := Lib.hid (show (((Hp.new 4).put 2 5).put 0 5).pushE 2 = 6 by decide)
  have A3 := Lib.hid (show (((Hp.new 4).put 2 5).put 0 5).pushA 2 7 = ((Hp.new 4).put 2 5).put 0 5 from if_neg (by decide))
  have F := Lib.hid works_first
  have L := Lib.hid works_len
  go_enter Try.func21, Try.ntmps21
  go_wp2_with (first
    | (go_at_call 45; refine (HIn.new (w := w) 4 (by omega)).mono ?_; rintro e w1 ⟨b, S1, rfl, h⟩; have H1 := Lib.hid h; clear h)
    | (go_at_call 50; refine (H1.out.push 2 5 (by omega)).mono ?_; rintro e w2 ⟨rfl, S2, h, _, _⟩; rw [A1.out] at h; rw [E1.out]; have H2 := Lib.hid h; clear h H1)
    | (go_at_call 50; refine (H2.out.push 0 5 (by omega)).mono ?_; rintro e w3 ⟨rfl, S3, h, _, _⟩; rw [A2.out] at h; rw [E2.out]; have H3 := Lib.hid h; clear h H2)
    | (go_at_call 50; refine (H3.out.push 2 7 (by omega)).mono ?_; rintro e w4 ⟨rfl, S4, h, _, _⟩; rw [A3.out] at h; rw [E3.out]; have H4 := Lib.hid h; clear h H3)
    | (go_at_call 23; refine H4.out.pop.mono ?_; rintro e w5 ⟨rfl, S5, h, _, _⟩; rw [show (((Hp.new 4).put 2 5).put 0 5).popA = ((((Hp.new 4).put 2 5).put 0 5).del 0) by unfold Hp.popA; rw [F.out]] at h; rw [F.out]; simp only [minV, entV]; have H5 := Lib.hid h; clear h H4)
    | (go_at_call 24; refine (HIn.len (H5.out.below ((Below.refl _ _).alloc (Nat.le_refl _) _))).mono ?_; rintro e w6 ⟨rfl, rfl⟩; rw [L.out]))
  go_ret
  exact ⟨by simp, H5.out.2.alloc H5.out.2.size _⟩
end
end Go.Proofs.Ytmlbacbcdjfioaa
