/- ExpA: layer 35, the schedule: New, Set, Drop, Next, Left, Len. -/
import Derived.Test.YtmlbacbcdjfioaaHeapF
import Derived.Test.YtmlbacbcdjfioaaHpS
set_option linter.unusedSimpArgs false
set_option linter.unusedVariables false
namespace Go.Proofs.Ytmlbacbcdjfioaa
open Go.ChangeShapes Go.WideShapes Go.ChangeAt Go.RowKit

/-- A schedule at block e that was made since w0: its heap lies at block b. -/
structure EIn (w0 w : World) (e b : Nat) (A : Hp) (S : Nat → Prop) : Prop where
  hin : HIn w0 w b A S
  cell : w.cell? ⟨e, 0, none⟩ = some (.pointer (some ⟨b, 0, none⟩))
  ne : ¬ S e
  ge : w0.heap.size ≤ e

/-- .. behind an operation. -/
def ENext (w0 w w' : World) (e b : Nat) (A : Hp) (S : Nat → Prop) : Prop := ∃ S', EIn w0 w' e b A S' ∧ (∀ k, S' k → S k ∨ w.heap.size ≤ k) ∧ Upd S w w'

section
variable {w0 w : World} {e b : Nat} {A : Hp} {S : Nat → Prop}
theorem EIn.lt (h : EIn w0 w e b A S) : e < w.heap.size := World.block_lt_of_cell? w ⟨e, 0, none⟩ h.cell
theorem EIn.below {w' : World} (h : EIn w0 w e b A S) (hb : Below w.heap.size w w') : EIn w0 w' e b A S :=
  ⟨h.hin.below hb, (hb.cell (p := ⟨e, 0, none⟩) h.lt).trans h.cell, h.ne, h.ge⟩
theorem EIn.foot (h : EIn w0 w e b A S) {k : Nat} (hk : S k) : w0.heap.size ≤ k ∧ k < w.heap.size := h.hin.1.foot hk
theorem EIn.ok (h : EIn w0 w e b A S) : A.Ok := h.hin.1.ok
theorem EIn.upd {w' : World} {F : Nat → Prop} (h : EIn w0 w e b A S) (hu : Upd F w w') (hF : ∀ k, S k → ¬ F k) (hF2 : ∀ k, k < w0.heap.size → ¬ F k) (he : ¬ F e) : EIn w0 w' e b A S :=
  ⟨h.hin.upd hu hF hF2, (hu.cell (p := ⟨e, 0, none⟩) h.lt he).trans h.cell, h.ne, h.ge⟩
theorem EIn.next {w' : World} {A' : Hp} (h : EIn w0 w e b A S) (hn : HNext w0 w w' b A' S) : ENext w0 w w' e b A' S := by
  obtain ⟨S', h1, h2, h3⟩ := hn
  refine ⟨S', ⟨h1, h3.cell_some (p := ⟨e, 0, none⟩) h.cell h.ne, ?_, h.ge⟩, h2, h3⟩
  intro hs
  rcases h2 e hs with h4 | h4
  · exact h.ne h4
  · exact absurd h.lt (by omega)
theorem EIn.same (h : EIn w0 w e b A S) : ENext w0 w w e b A S := ⟨S, h, fun _ h => Or.inl h, Upd.refl _ _⟩
/-- Only new blocks have turned. -/
theorem EIn.stay {w' : World} (h : EIn w0 w e b A S) (hb : Below w.heap.size w w') : ENext w0 w w' e b A S :=
  ⟨S, h.below hb, fun _ h => Or.inl h, (Upd.of_below hb).mono (fun i hi hg => absurd hg (by omega))⟩
/-- New blocks ahead of it. -/
theorem ENext.after {w1 w' : World} {A' : Hp} (hb : Below w.heap.size w w1) (h : ENext w0 w1 w' e b A' S) : ENext w0 w w' e b A' S := by
  obtain ⟨S', h1, h2, h3⟩ := h
  refine ⟨S', h1, fun k hk => ?_, ?_⟩
  · rcases h2 k hk with h | h
    · exact Or.inl h
    · have := hb.size; exact Or.inr (by omega)
  · have hu : Upd S w w1 := (Upd.of_below hb).mono (fun i hi hg => absurd hg (by omega))
    exact hu.trans h3 (fun _ _ h => h)
theorem ENext.trans {w1 w' : World} {A1 A' : Hp} {S1 : Nat → Prop} (h1 : EIn w0 w1 e b A1 S1) (hs : ∀ k, S1 k → S k ∨ w.heap.size ≤ k) (hu : Upd S w w1) (h : ENext w0 w1 w' e b A' S1) : ENext w0 w w' e b A' S := by
  obtain ⟨S', h1, h2, h3⟩ := h
  refine ⟨S', h1, fun k hk => ?_, hu.trans h3 ?_⟩
  · rcases h2 k hk with h | h
    · exact hs k h
    · have := hu.size; exact Or.inr (by omega)
  · intro i hi hS
    rcases hs i hS with h | h
    · exact h
    · omega
/-- New blocks behind it. -/
theorem ENext.then {w1 w' : World} {A' : Hp} (h : ENext w0 w w1 e b A' S) (hb : Below w1.heap.size w1 w') : ENext w0 w w' e b A' S := by
  obtain ⟨S', h1, h2, h3⟩ := h
  exact ⟨S', h1.below hb, h2, h3.trans ((Upd.of_below hb).mono (G := fun _ => False) (fun i hi hg => absurd hg (by omega))) (fun _ _ h => h.elim)⟩

def Hp.setE (A : Hp) (i : Int) : Int := if 0 ≤ i ∧ i < A.slots then 0 else 3
def Hp.setA (A : Hp) (i v : Int) : Hp := if 0 ≤ i ∧ i < A.slots then A.put i.toNat v else A

set_option maxHeartbeats 1000000
theorem eNew_ok (n : Nat) (w : World) (h : n ≤ 65536) :
    Calls Try.prog 25 #[.int .i64 n] w fun e w' => ∃ sb b S, e = .returned (.tuple #[.pointer (some ⟨sb, 0, none⟩), .int .i64 0]) ∧ EIn w w' sb b (Hp.new n) S := by
  go_enter Try.func25, Try.ntmps25
  go_wp2_with (go_at_call 45; refine (HIn.new (w := w) n h).mono ?_; rintro e w1 ⟨b, S1, rfl, h1⟩; have H1 := Lib.hid h1; clear h1)
  go_ret2
  refine ⟨w1.heap.size, b, S1, by simp, H1.out.below ((Below.refl _ _).alloc (Nat.le_refl _) _), by simp, fun hs => absurd (H1.out.1.foot hs).2 (by omega), H1.out.2.size⟩
theorem eNew_bad (n : Int) (w : World) (h : n < 0 ∨ 65536 < n) :
    Calls Try.prog 25 #[.int .i64 n] w fun e w' => e = .returned (.tuple #[.pointer none, .int .i64 2]) ∧ w = w' := by
  go_enter Try.func25, Try.ntmps25
  go_wp2_with (go_at_call 45; refine (hNew_bad n w h).mono ?_; rintro e w1 ⟨rfl, rfl⟩)
  go_ret2
  exact ⟨by simp, rfl⟩
theorem eLen_any (h : EIn w0 w e b A S) :
    Calls Try.prog 30 #[.pointer (some ⟨e, 0, none⟩)] w fun r w' => r = .returned (.int .i64 A.len) ∧ w = w' := by
  have HL := Lib.hid h.hin.len
  have c0 := h.cell
  clear h
  go_enter Try.func30, Try.ntmps30
  go_wp2_with (go_at_call 24; refine HL.out.mono ?_; rintro r w1 ⟨rfl, rfl⟩)
  go_ret
  exact ⟨by simp, rfl⟩

theorem eSet_any (h : EIn w0 w e b A S) (i x : Int) (hx : -9223372036854775808 ≤ x ∧ x ≤ 9223372036854775807) :
    Calls Try.prog 37 #[.pointer (some ⟨e, 0, none⟩), .int .i64 i, .int .i64 x] w fun r w' => r = .returned (.int .i64 (A.setE i)) ∧ ENext w0 w w' e b (A.setA i x) S := by
  have c0 := h.cell
  have hlt := h.lt
  have HB := Lib.hid (fun (o1 o2 : Obj) => ((Below.refl w.heap.size w).alloc (Nat.le_refl _) o1).alloc (by simp) o2)
  have HP := Lib.hid (fun (o1 o2 : Obj) => (h.below (HB.out o1 o2)).hin.push i x hx)
  have HE := Lib.hid h
  have HN := Lib.hid (show ∀ k, w.heap.size ≤ k → ¬ S k from fun k hk hs => absurd (h.foot hs).2 (by omega))
  by_cases hin : 0 ≤ i ∧ i < A.slots
  · cases hk : A.keys i.toNat with
    | none =>
      have E1 := Lib.hid (show A.pushE i = 0 by unfold Hp.pushE; rw [if_pos hin]; simp [hk])
      have E2 := Lib.hid (show A.setE i = 0 from if_pos hin)
      have E3 := Lib.hid (show A.setA i x = A.pushA i x by unfold Hp.setA Hp.pushA; rw [if_pos hin, if_pos ⟨hin.1, hin.2, hk⟩])
      clear h hin hk
      go_enter Try.func37, Try.ntmps37
      go_wp2_with (first
        | (go_at_call 50; refine (HP.out _ _).mono ?_; rintro r w1 ⟨rfl, h1⟩; rw [E1.out]; have H1 := Lib.hid h1; clear h1)
        | (go_at_call 61; go_in)
        | (go_at_call 67; go_in))
      go_ret
      exact ⟨by rw [E2.out]; simp, by rw [E3.out]; exact ENext.after (HB.out _ _) ((HE.out.below (HB.out _ _)).next H1.out)⟩
    | some y =>
      have E1 := Lib.hid (show A.pushE i = 6 by unfold Hp.pushE; rw [if_pos hin]; simp [hk])
      have E2 := Lib.hid (show A.setE i = 0 from if_pos hin)
      have E3 := Lib.hid (show A.setA i x = A.chgA i x by unfold Hp.setA Hp.chgA; rw [if_pos hin, if_pos ⟨hin.1, hin.2, by simp [hk]⟩])
      have E4 := Lib.hid (show A.pushA i x = A by unfold Hp.pushA; rw [if_neg (by simp [hk])])
      have E5 := Lib.hid (show A.remE i = 0 by unfold Hp.remE; rw [if_pos hin]; simp [hk])
      clear h hin hk
      go_enter Try.func37, Try.ntmps37
      go_wp2_with (first
        | (go_at_call 50; refine (HP.out _ _).mono ?_; rintro r w1 ⟨rfl, h1⟩; rw [E1.out]; have k1 := (HE.out.below (HB.out _ _)).next h1; rw [E4.out] at k1; obtain ⟨S1, a1, a2, a3⟩ := k1; have hz := a3.size; simp only [World.size_alloc] at hz; have hq1 := a3.cell_some (p := ⟨w.heap.size, 0, none⟩) (v := .int .i64 i) (by simp) (HN.out _ (Nat.le_refl _)); have hq2 := a3.cell_some (p := ⟨w.heap.size + 1, 0, none⟩) (v := .int .i64 x) (by simp) (HN.out _ (Nat.le_succ _)); have H1 := Lib.hid a1; have H2 := Lib.hid (And.intro a2 a3); clear h1 a1 a2 a3)
        | (go_at_call 49; refine (H1.out.hin.change i x hx).mono ?_; rintro r w2 ⟨rfl, h2⟩; rw [E5.out]; have H3 := Lib.hid (H1.out.next h2); clear h2)
        | (go_at_call 61; go_in)
        | (go_at_call 67; go_in))
      go_ret
      exact ⟨by rw [E2.out]; simp, by rw [E3.out]; exact ENext.after (HB.out _ _) (ENext.trans H1.out H2.out.1 H2.out.2 H3.out)⟩
  · have E1 := Lib.hid (show A.pushE i = 3 from if_neg hin)
    have E2 := Lib.hid (show A.setE i = 3 from if_neg hin)
    have E3 := Lib.hid (show A.setA i x = A.pushA i x by unfold Hp.setA Hp.pushA; rw [if_neg hin, if_neg (fun h => hin ⟨h.1, h.2.1⟩)])
    clear h hin
    go_enter Try.func37, Try.ntmps37
    go_wp2_with (first
        | (go_at_call 50; refine (HP.out _ _).mono ?_; rintro r w1 ⟨rfl, h1⟩; rw [E1.out]; have H1 := Lib.hid h1; clear h1)
        | (go_at_call 61; go_in)
        | (go_at_call 67; go_in))
    go_ret
    exact ⟨by rw [E2.out]; simp, by rw [E3.out]; exact ENext.after (HB.out _ _) ((HE.out.below (HB.out _ _)).next H1.out)⟩

theorem eDrop_any (h : EIn w0 w e b A S) (i : Int) :
    Calls Try.prog 35 #[.pointer (some ⟨e, 0, none⟩), .int .i64 i] w fun r w' => r = .returned (.int .i64 (A.remE i)) ∧ ENext w0 w w' e b (A.remA i) S := by
  have c0 := h.cell
  have hlt := h.lt
  have HB := Lib.hid (fun (o1 : Obj) => (Below.refl w.heap.size w).alloc (Nat.le_refl _) o1)
  have HP := Lib.hid (fun (o1 : Obj) => (h.below (HB.out o1)).hin.remove i)
  have HE := Lib.hid h
  clear h
  go_enter Try.func35, Try.ntmps35
  go_wp2_with (first
        | (go_at_call 44; refine (HP.out _).mono ?_; rintro r w1 ⟨rfl, h1⟩; have H1 := Lib.hid h1; clear h1)
        | (go_at_call 61; go_in)
        | (go_at_call 66; go_in))
  go_ret
  exact ⟨by simp, ENext.after (HB.out _) ((HE.out.below (HB.out _)).next H1.out)⟩
end
end Go.Proofs.Ytmlbacbcdjfioaa
