/- HeapH: layer 4: New, Push, Remove, Change, Pop, as the document has them. -/
import Derived.Test.YtmlbacbcdjfioaaHeapO
import Derived.Test.YtmlbacbcdjfioaaHeapO2
set_option linter.unusedSimpArgs false
set_option linter.unusedVariables false
namespace Go.Proofs.Ytmlbacbcdjfioaa
open Go.ChangeShapes Go.WideShapes Go.ChangeAt Go.RowKit

section
variable {B : Nat} {w : World} {b : Nat} {A : Hp} {S : Nat → Prop}
set_option maxHeartbeats 1000000

/-- What an operation leaves. -/
def Left (B : Nat) (w w' : World) (b : Nat) (A : Hp) (S : Nat → Prop) : Prop := ∃ S', HAt B w' b A S' ∧ (∀ k, S' k → S k ∨ w.heap.size ≤ k) ∧ Upd S w w'
theorem HAt.left (h : HAt B w b A S) : Left B w w b A S := ⟨S, h, fun _ h => Or.inl h, Upd.refl _ _⟩
theorem HAt.left_below {w' : World} (h : HAt B w b A S) (hb : Below w.heap.size w w') : Left B w w' b A S :=
  ⟨S, h.below hb, fun _ h => Or.inl h, (Upd.of_below hb).mono (fun i hi hg => absurd hg (by omega))⟩

theorem hCheck_at (h : HAt B w b A S) (i : Int) (he : A.remE i ≠ 0) :
    Calls Try.prog 76 #[.pointer (some ⟨b, 0, none⟩), .int .i64 i] w fun e w' => e = .returned (.tuple #[.int .i64 0, .int .i64 (A.remE i)]) ∧ w = w' := by
  obtain ⟨pb, v, n, f, hr, ho, hp, hok, rfl, h1, h2⟩ := h
  by_cases hi : i < 0 ∨ (A.slots : Int) ≤ i
  · have : A.remE i = 3 := by unfold Hp.remE; rw [if_neg (by omega)]
    rw [this]
    exact hCheck_out hr i hi
  · obtain ⟨j, rfl⟩ := Int.eq_ofNat_of_zero_le (show 0 ≤ i by omega)
    cases hk : A.keys j with
    | none =>
      have : A.remE (j : Int) = 5 := by unfold Hp.remE; rw [if_pos (by omega)]; simp [hk]
      rw [this]
      exact hCheck_none hr j (by omega) (hp.none_ne hk)
    | some x =>
      exact absurd (show A.remE (j : Int) = 0 by unfold Hp.remE; rw [if_pos (by omega)]; simp [hk]) he

theorem hRemove_at (h : HAt B w b A S) (i : Int) :
    Calls Try.prog 44 #[.pointer (some ⟨b, 0, none⟩), .int .i64 i] w fun e w' => e = .returned (.int .i64 (A.remE i)) ∧ Left B w w' b (A.remA i) S := by
  by_cases he : A.remE i = 0
  · obtain ⟨pb, v, n, f, hr, ho, hp, hok, rfl, h1, h2⟩ := h
    have hin : 0 ≤ i ∧ i < A.slots := by
      unfold Hp.remE at he
      by_cases hc : 0 ≤ i ∧ i < A.slots
      · exact hc
      · rw [if_neg hc] at he; omega
    obtain ⟨j, rfl⟩ := Int.eq_ofNat_of_zero_le hin.1
    cases hk : A.keys j with
    | none => unfold Hp.remE at he; rw [if_pos hin] at he; simp [hk] at he
    | some x =>
      obtain ⟨k, hkn, e⟩ := hp.back j x hk
      have ej : (f k).1 = j := by rw [e]
      rw [he]
      refine (hRemove_some hr ho hkn ej).mono ?_
      rintro e w' ⟨rfl, v', f', h3, h4, h5, h6, h7⟩
      have hA : A.remA (j : Int) = A.del j := by unfold Hp.remA; rw [if_pos ⟨by omega, by omega, by simp [hk]⟩]; simp
      rw [hA]
      exact ⟨rfl, _, ⟨pb, v', n - 1, f', h3, h4, (hp.del hkn ej).same h5, A.del_ok hok j, rfl, h1, h2⟩, fun k hk => Or.inl (h7 k hk), h6⟩
  · have HC := Lib.hid (hCheck_at h i he)
    have HL := Lib.hid h.left
    have hA : A.remA i = A := by
      unfold Hp.remA
      rw [if_neg]
      rintro ⟨a, c, d⟩
      apply he
      unfold Hp.remE
      rw [if_pos ⟨a, c⟩, if_neg d]
    rw [hA]
    have hb : (A.remE i == 0) = false := by simp [he]
    clear h he hA
    go_enter Try.func44, Try.ntmps44
    go_wp2_with (go_at_call 76; refine HC.out.mono ?_; rintro e w' ⟨rfl, rfl⟩)
    all_goals go_ret
    all_goals exact ⟨by simp, HL.out⟩

theorem hChange_at (h : HAt B w b A S) (i x : Int) (hx : -9223372036854775808 ≤ x ∧ x ≤ 9223372036854775807) :
    Calls Try.prog 49 #[.pointer (some ⟨b, 0, none⟩), .int .i64 i, .int .i64 x] w fun e w' => e = .returned (.int .i64 (A.remE i)) ∧ Left B w w' b (A.chgA i x) S := by
  by_cases he : A.remE i = 0
  · obtain ⟨pb, v, n, f, hr, ho, hp, hok, rfl, h1, h2⟩ := h
    have hin : 0 ≤ i ∧ i < A.slots := by
      unfold Hp.remE at he
      by_cases hc : 0 ≤ i ∧ i < A.slots
      · exact hc
      · rw [if_neg hc] at he; omega
    obtain ⟨j, rfl⟩ := Int.eq_ofNat_of_zero_le hin.1
    cases hk : A.keys j with
    | none => unfold Hp.remE at he; rw [if_pos hin] at he; simp [hk] at he
    | some y =>
      obtain ⟨k, hkn, e⟩ := hp.back j y hk
      have ej : (f k).1 = j := by rw [e]
      rw [he]
      have HC := hChange_some hr ho hkn x
      rw [ej] at HC
      refine HC.mono ?_
      rintro e w' ⟨rfl, f', h3, h4, h5, h6⟩
      have hA : A.chgA (j : Int) x = A.put j x := by unfold Hp.chgA; rw [if_pos ⟨by omega, by omega, by simp [hk]⟩]; simp
      rw [hA]
      exact ⟨rfl, _, ⟨pb, v, n, f', h3, h4, (hp.change x hkn ej).same h5, A.put_ok hok (by omega) hx, rfl, h1, h2⟩, fun k hk => Or.inl hk, h6⟩
  · have HC := Lib.hid (hCheck_at h i he)
    have HL := Lib.hid h.left
    have hA : A.chgA i x = A := by
      unfold Hp.chgA
      rw [if_neg]
      rintro ⟨a, c, d⟩
      apply he
      unfold Hp.remE
      rw [if_pos ⟨a, c⟩, if_neg d]
    rw [hA]
    have hb : (A.remE i == 0) = false := by simp [he]
    clear h he hA
    go_enter Try.func49, Try.ntmps49
    go_wp2_with (go_at_call 76; refine HC.out.mono ?_; rintro e w' ⟨rfl, rfl⟩)
    all_goals go_ret
    all_goals exact ⟨by simp, HL.out⟩

theorem hPush_at (h : HAt B w b A S) (i x : Int) (hx : -9223372036854775808 ≤ x ∧ x ≤ 9223372036854775807) :
    Calls Try.prog 50 #[.pointer (some ⟨b, 0, none⟩), .int .i64 i, .int .i64 x] w fun e w' => e = .returned (.int .i64 (A.pushE i)) ∧ Left B w w' b (A.pushA i x) S := by
  by_cases hi : i < 0 ∨ (A.slots : Int) ≤ i
  · have HL := Lib.hid h.left
    obtain ⟨pb, v, n, f, hr, ho, hp, hok, rfl, h1, h2⟩ := h
    have HC := Lib.hid (hCheck_out hr i hi)
    have hE : A.pushE i = 3 := by unfold Hp.pushE; rw [if_neg (by omega)]
    have hA : A.pushA i x = A := by unfold Hp.pushA; rw [if_neg (by omega)]
    rw [hE, hA]
    clear hr ho hp hok hi hE hA
    go_enter Try.func50, Try.ntmps50
    go_wp2_with (go_at_call 76; refine HC.out.mono ?_; rintro e w' ⟨rfl, rfl⟩)
    all_goals go_ret
    all_goals exact ⟨by simp, HL.out⟩
  · obtain ⟨j, rfl⟩ := Int.eq_ofNat_of_zero_le (show 0 ≤ i by omega)
    cases hk : A.keys j with
    | some y =>
      have HL := Lib.hid h.left
      obtain ⟨pb, v, n, f, hr, ho, hp, hok, rfl, h1, h2⟩ := h
      obtain ⟨k, hkn, e⟩ := hp.back j y hk
      have ej : (f k).1 = j := by rw [e]
      have HC := hCheck_some hr hkn
      rw [ej] at HC
      have HC := Lib.hid HC
      have hE : A.pushE (j : Int) = 6 := by unfold Hp.pushE; rw [if_pos (by omega)]; simp [hk]
      have hA : A.pushA (j : Int) x = A := by unfold Hp.pushA; rw [if_neg (by simp [hk])]
      rw [hE, hA]
      clear hr ho hp hok hi hE hA hk e ej
      go_enter Try.func50, Try.ntmps50
      go_wp2_with (go_at_call 76; refine HC.out.mono ?_; rintro e w' ⟨rfl, rfl⟩)
      all_goals go_ret
      all_goals exact ⟨by simp, HL.out⟩
    | none =>
      obtain ⟨pb, v, n, f, hr, ho, hp, hok, rfl, h1, h2⟩ := h
      have hE : A.pushE (j : Int) = 0 := by unfold Hp.pushE; rw [if_pos (by omega)]; simp [hk]
      have hA : A.pushA (j : Int) x = A.put j x := by unfold Hp.pushA; rw [if_pos ⟨by omega, by omega, by simp [hk]⟩]; simp
      rw [hE, hA]
      refine (hPush_new hr ho (show j < A.slots by omega) (hp.none_ne hk) x).mono ?_
      rintro e w' ⟨rfl, v', f', h3, h4, h5, h6, h7⟩
      exact ⟨rfl, _, ⟨pb, v', n + 1, f', h3, h4, (hp.push x hk).same h5, A.put_ok hok (by omega) hx, rfl, h1, h2⟩, h7, h6⟩
end
end Go.Proofs.Ytmlbacbcdjfioaa
