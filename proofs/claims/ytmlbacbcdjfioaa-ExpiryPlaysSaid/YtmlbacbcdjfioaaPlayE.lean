/- PlayE: layer 35: a schedule and the document's, side by side, step by step; nil ones too. -/
import Derived.Test.YtmlbacbcdjfioaaRf35G
set_option linter.unusedSimpArgs false
set_option linter.unusedVariables false
namespace Go.Proofs.Ytmlbacbcdjfioaa
open Go.ChangeShapes Go.WideShapes Go.ChangeAt Go.RowKit

/-- Both are nil, or both are in the same state; l: what else is there. -/
def Pl (w0 w : World) (pe pr : Option Addr) (l : List Thing) : Prop := (pe = none ∧ pr = none ∧ Sep w0 w l) ∨
  ∃ (e b g : Nat) (A : Hp) (S : Nat → Prop) (L : List Ent) (bk : Option Nat), pe = some ⟨e, 0, none⟩ ∧ pr = some ⟨g, 0, none⟩ ∧ Srt A L ∧ Sep w0 w (schedT w0.heap.size e b A S :: refT w0.heap.size g A.slots L bk :: l)

set_option maxHeartbeats 2000000 in
set_option maxRecDepth 100000 in
theorem agree_l {w0 w : World} {l : List Thing} {e b g n : Nat} {A : Hp} {S : Nat → Prop} {bk : Option Nat} {L : List Ent} (h : Sep w0 w (schedT w0.heap.size e b A S :: refT w0.heap.size g n L bk :: l)) (hs : Srt A L) (ha : A.slots = n) (slot now : Int) (hnow : -9223372036854775808 ≤ now ∧ now ≤ 9223372036854775807) :
    Calls Try.prog 27 #[.pointer (some ⟨e, 0, none⟩), .pointer (some ⟨g, 0, none⟩), .int .i64 slot, .int .i64 now] w fun r w' => r = .returned (.bool true) ∧ ∃ S', Sep w0 w' (schedT w0.heap.size e b A S' :: refT w0.heap.size g n L bk :: l) := by
  have HS := Lib.hid h
  have HR := Lib.hid (And.intro hs ha)
  obtain ⟨x0, x1, x2, hx⟩ : ∃ x0 x1 x2, minV L.head? = .tuple #[.agg #[.int .i64 x0, .int .i64 x1], .bool x2] := by
    cases L.head? with
    | none => exact ⟨0, 0, false, rfl⟩
    | some x => exact ⟨_, _, true, rfl⟩
  obtain ⟨d0, d1, hd⟩ : ∃ d0 d1, A.leftR slot now = (d0, d1) := ⟨_, _, rfl⟩
  have HX := Lib.hid hx
  have HD := Lib.hid hd
  clear h hs ha hx hd
  go_enter Try.func27, Try.ntmps27
  go_wp2_with (first
    | (go_at_call 60; refine (s35Len_any (H3.out.get 3 rfl : (refT _ _ _ _ _).P _).choose_spec.2).mono ?_; rintro r wz ⟨rfl, rfl⟩)
    | (go_at_call 30; refine (Sep.eLen H3.out 2 rfl HR.out.1).mono ?_; rintro r wz ⟨rfl, rfl⟩)
    | (go_at_call 59; refine (s35Left_any (H3.out.get 3 rfl : (refT _ _ _ _ _).P _).choose_spec.2 HR.out.1 HR.out.2 slot now hnow).mono ?_; rintro r wz ⟨rfl, rfl⟩; rw [HD.out]; simp only [leftV])
    | (go_at_call 34; refine (Sep.eLeft H2.out 2 rfl slot now hnow).mono ?_; rintro r w3 ⟨rfl, S3, h⟩; rw [HD.out]; simp only [leftV]; have kb1 := (h.get 1 rfl : (blockT _ _).P _); have kb0 := (h.get 0 rfl : (blockT _ _).P _); obtain ⟨k0, k1, kf, _⟩ := row_two kb0; obtain ⟨l0, l1, lf, _⟩ := row_two kb1; have H3 := Lib.hid h; clear h H2 kb0 kb1)
    | (go_at_call 58; refine (s35Next_any (H1.out.get 2 rfl : (refT _ _ _ _ _).P _).choose_spec.2).mono ?_; rintro r w2 ⟨rfl, hb⟩; rw [HX.out]; have h2 := (H1.out.keep hb).add ((Below.refl _ _).alloc (Nat.le_refl _) (.cells #[.int .i64 x0, .int .i64 x1] 28)) (blockT w2.heap.size (.cells #[.int .i64 x0, .int .i64 x1] 28)) (heap_alloc_new _ _) (by rintro q rfl; exact Nat.le_refl _); have H2 := Lib.hid h2; clear h2 hb H1)
    | (go_at_call 31; refine (Sep.eNext HS.out 0 rfl HR.out.1).mono ?_; rintro r w1 ⟨rfl, h, _⟩; rw [HX.out]; have h1 := h.add ((Below.refl _ _).alloc (Nat.le_refl _) (.cells #[.int .i64 x0, .int .i64 x1] 28)) (blockT w1.heap.size (.cells #[.int .i64 x0, .int .i64 x1] 28)) (heap_alloc_new _ _) (by rintro q rfl; exact Nat.le_refl _); have H1 := Lib.hid h1; clear h h1 HS))
  go_ret
  exact ⟨by simp, S3, H3.out.tail.tail⟩

section
variable {w0 w : World} {pe pr : Option Addr} {l : List Thing}
theorem Pl.get (h : Pl w0 w pe pr l) (i : Nat) {t : Thing} (hi : l[i]? = some t) : t.P w := by
  rcases h with ⟨_, _, h⟩ | ⟨e, b, g, A, S, L, bk, _, _, _, h⟩
  · exact h.get i hi
  · exact h.get (i + 2) (by simpa using hi)
theorem Pl.below (h : Pl w0 w pe pr l) : Below w0.heap.size w0 w := by
  rcases h with ⟨_, _, h⟩ | ⟨e, b, g, A, S, L, bk, _, _, _, h⟩
  · exact h.below
  · exact h.below
theorem Pl.keep {w' : World} (h : Pl w0 w pe pr l) (hb : Below w.heap.size w w') : Pl w0 w' pe pr l := by
  rcases h with ⟨h1, h2, h⟩ | ⟨e, b, g, A, S, L, bk, h1, h2, h3, h⟩
  · exact Or.inl ⟨h1, h2, h.keep hb⟩
  · exact Or.inr ⟨e, b, g, A, S, L, bk, h1, h2, h3, h.keep hb⟩

theorem setA_slots (A : Hp) (k x : Int) : (A.setA k x).slots = A.slots := by unfold Hp.setA; split <;> rfl
theorem remA_slots (A : Hp) (k : Int) : (A.remA k).slots = A.slots := by unfold Hp.remA; split <;> rfl

theorem Pl.set (h : Pl w0 w pe pr l) (k x : Int) (hx : -9223372036854775808 ≤ x ∧ x ≤ 9223372036854775807) :
    Calls Try.prog 37 #[.pointer pe, .int .i64 k, .int .i64 x] w fun r w1 => ∃ c, r = .returned (.int .i64 c) ∧ (∀ (i : Nat) (t : Thing), l[i]? = some t → t.P w1) ∧
      Calls Try.prog 38 #[.pointer pr, .int .i64 k, .int .i64 x] w1 fun r w' => r = .returned (.int .i64 c) ∧ Pl w0 w' pe pr l := by
  rcases h with ⟨rfl, rfl, h⟩ | ⟨e, b, g, A, S, L, bk, rfl, rfl, hs, h⟩
  · refine (xeSet (Or.inl rfl) k x).mono ?_
    rintro r w1 ⟨rfl, hb⟩
    refine ⟨1, rfl, fun i t hi => (h.keep hb).get i hi, (xs35Set _ _ _).mono ?_⟩
    rintro r w' ⟨rfl, rfl⟩
    exact ⟨rfl, Or.inl ⟨rfl, rfl, h.keep hb⟩⟩
  · have hok := (h.sched 0 rfl).ok
    refine (h.eSet 0 rfl k x hx).mono ?_
    rintro r w1 ⟨rfl, S1, h1⟩
    have h1' : Sep w0 w1 (schedT w0.heap.size e b (A.setA k x) S1 :: refT w0.heap.size g A.slots L bk :: l) := h1
    refine ⟨_, rfl, fun i t hi => h1'.get (i + 2) (by simpa using hi), (h1'.s35Set (i := 1) rfl hs hok rfl k x hx).mono ?_⟩
    rintro r w' ⟨rfl, L', bk', hs', h2⟩
    exact ⟨rfl, Or.inr ⟨e, b, g, A.setA k x, S1, L', bk', rfl, rfl, hs', by rw [setA_slots]; exact h2⟩⟩
theorem Pl.drop (h : Pl w0 w pe pr l) (k : Int) :
    Calls Try.prog 35 #[.pointer pe, .int .i64 k] w fun r w1 => ∃ c, r = .returned (.int .i64 c) ∧ (∀ (i : Nat) (t : Thing), l[i]? = some t → t.P w1) ∧
      Calls Try.prog 39 #[.pointer pr, .int .i64 k] w1 fun r w' => r = .returned (.int .i64 c) ∧ Pl w0 w' pe pr l := by
  rcases h with ⟨rfl, rfl, h⟩ | ⟨e, b, g, A, S, L, bk, rfl, rfl, hs, h⟩
  · refine (xeDrop (Or.inl rfl) k).mono ?_
    rintro r w1 ⟨rfl, hb⟩
    refine ⟨1, rfl, fun i t hi => (h.keep hb).get i hi, (xs35Drop _ _).mono ?_⟩
    rintro r w' ⟨rfl, rfl⟩
    exact ⟨rfl, Or.inl ⟨rfl, rfl, h.keep hb⟩⟩
  · have hok := (h.sched 0 rfl).ok
    refine (h.eDrop 0 rfl k).mono ?_
    rintro r w1 ⟨rfl, S1, h1⟩
    have h1' : Sep w0 w1 (schedT w0.heap.size e b (A.remA k) S1 :: refT w0.heap.size g A.slots L bk :: l) := h1
    refine ⟨_, rfl, fun i t hi => h1'.get (i + 2) (by simpa using hi), (h1'.s35Drop (i := 1) rfl hs hok rfl k).mono ?_⟩
    rintro r w' ⟨rfl, L', bk', hs', h2⟩
    exact ⟨rfl, Or.inr ⟨e, b, g, A.remA k, S1, L', bk', rfl, rfl, hs', by rw [remA_slots]; exact h2⟩⟩
theorem Pl.copy (h : Pl w0 w pe pr l) :
    Calls Try.prog 36 #[.pointer pe] w fun r w1 => ∃ pe', r = .returned (.pointer pe') ∧
      Calls Try.prog 41 #[.pointer pr] w1 fun r w' => ∃ pr', r = .returned (.pointer pr') ∧ Pl w0 w' pe' pr' l := by
  rcases h with ⟨rfl, rfl, h⟩ | ⟨e, b, g, A, S, L, bk, rfl, rfl, hs, h⟩
  · refine (xeCopy (Or.inl rfl)).mono ?_
    rintro r w1 ⟨rfl, rfl⟩
    refine ⟨none, rfl, (xs35Copy _).mono ?_⟩
    rintro r w' ⟨rfl, rfl⟩
    exact ⟨none, rfl, Or.inl ⟨rfl, rfl, h⟩⟩
  · refine (h.eCopy 0 rfl).mono ?_
    rintro r w1 ⟨e', b', S', rfl, h1⟩
    refine ⟨_, rfl, (h1.s35Copy (i := 2) rfl).mono ?_⟩
    rintro r w' ⟨g', bk', rfl, h2⟩
    refine ⟨_, rfl, Or.inr ⟨e', b', g', A, S', L, bk', rfl, rfl, hs, ?_⟩⟩
    refine h2.sub (fun i => if i = 0 then 1 else if i = 1 then 0 else i + 2) _ ?_ ?_
    · intro i j e
      rcases i with _ | _ | i <;> rcases j with _ | _ | j <;> simp_all
    · intro i z hi
      match i, hi with
      | 0, hi => exact hi
      | 1, hi => exact hi
      | i + 2, hi => simpa using hi
theorem Pl.agree (h : Pl w0 w pe pr l) (slot now : Int) (hnow : -9223372036854775808 ≤ now ∧ now ≤ 9223372036854775807) :
    Calls Try.prog 27 #[.pointer pe, .pointer pr, .int .i64 slot, .int .i64 now] w fun r w' => r = .returned (.bool true) ∧ Pl w0 w' pe pr l := by
  rcases h with ⟨rfl, rfl, h⟩ | ⟨e, b, g, A, S, L, bk, rfl, rfl, hs, h⟩
  · exact (agree_nil h slot now).mono fun r w' ⟨h1, h2⟩ => ⟨h1, Or.inl ⟨rfl, rfl, h2⟩⟩
  · refine (agree_l h hs rfl slot now hnow).mono ?_
    rintro r w' ⟨h1, S', h2⟩
    exact ⟨h1, Or.inr ⟨e, b, g, A, S', L, bk, rfl, rfl, hs, h2⟩⟩
/-- Both Dues, one after the other, are equal lists. -/
theorem Pl.due (h : Pl w0 w pe pr l) (now : Int) (hnow : -9223372036854775808 ≤ now ∧ now ≤ 9223372036854775807) :
    Calls Try.prog 32 #[.pointer pe, .int .i64 now] w fun r w1 => ∃ a1 n1 c1, r = .returned (.slice a1 n1 c1) ∧ (∀ (i : Nat) (t : Thing), l[i]? = some t → t.P w1) ∧
      Calls Try.prog 40 #[.pointer pr, .int .i64 now] w1 fun r w2 => ∃ a2 n2 c2, r = .returned (.slice a2 n2 c2) ∧ Pl w0 w2 pe pr l ∧
        ∀ m, Calls Try.prog 33 #[.slice a1 n1 c1, .slice a2 n2 c2] (w2.drewN m) fun r w' => r = .returned (.bool true) ∧ Pl w0 w' pe pr l := by
  rcases h with ⟨rfl, rfl, h⟩ | ⟨e, b, g, A, S, L, bk, rfl, rfl, hs, h⟩
  · refine (xeDue (Or.inl rfl) now).mono ?_
    rintro r w1 ⟨rfl, hb⟩
    have h1 := h.keep hb
    refine ⟨none, 0, 0, rfl, fun i t hi => h1.get i hi, (xs35Due _ _).mono ?_⟩
    rintro r w' ⟨rfl, rfl⟩
    refine ⟨none, 0, 0, rfl, Or.inl ⟨rfl, rfl, h1⟩, fun m => ?_⟩
    have hn : ∀ w : World, IntsIn w .i64 none 0 0 [] := fun w => ⟨rfl, Nat.le_refl _, by decide, fun i hi => by omega, by simp⟩
    refine (Sep.l35sameEq (h1.drewN m) rfl (hn _) (hn _)).mono ?_
    rintro r w' ⟨rfl, h2⟩
    exact ⟨rfl, Or.inl ⟨rfl, rfl, h2⟩⟩
  · have hok := (h.sched 0 rfl).ok
    refine (h.eDue 0 rfl hs now).mono ?_
    rintro r w1 ⟨a1, c1, A1, S1, rfl, hsl, hs1, _, h1⟩
    have h1' : Sep w0 w1 (intsT .i64 a1 (dueOf L now).length c1 (nats (dueOf L now)) :: schedT w0.heap.size e b A1 S1 :: refT w0.heap.size g A.slots L bk :: l) := h1
    refine ⟨a1, _, c1, rfl, fun i t hi => h1'.get (i + 3) (by simpa using hi), (h1'.s35Due (i := 2) rfl hs hok rfl now hnow).mono ?_⟩
    rintro r w2 ⟨a2, c2, bk2, rfl, h2⟩
    have h2' : Sep w0 w2 (intsT .i64 a2 (dueOf L now).length c2 (nats (dueOf L now)) :: intsT .i64 a1 (dueOf L now).length c1 (nats (dueOf L now)) :: schedT w0.heap.size e b A1 S1 :: refT w0.heap.size g A.slots (lateOf L now) bk2 :: l) := h2
    refine ⟨a2, _, c2, rfl, Or.inr ⟨e, b, g, A1, S1, _, bk2, rfl, rfl, hs1, by rw [hsl]; exact h2'.tail.tail⟩, fun m => ?_⟩
    have h3 := h2'.drewN m
    refine (Sep.l35sameEq h3 rfl (h3.get 1 rfl : IntsIn _ _ _ _ _ _) (h3.get 0 rfl : IntsIn _ _ _ _ _ _)).mono ?_
    rintro r w' ⟨rfl, h4⟩
    exact ⟨rfl, Or.inr ⟨e, b, g, A1, S1, _, bk2, rfl, rfl, hs1, by rw [hsl]; exact h4.tail.tail⟩⟩
end
end Go.Proofs.Ytmlbacbcdjfioaa
