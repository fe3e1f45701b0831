/- ExpS: layer 35: a schedule among the things that a law holds; its methods. -/
import Derived.Test.YtmlbacbcdjfioaaExpF
import Derived.Test.YtmlbacbcdjfioaaSep
set_option linter.unusedSimpArgs false
set_option linter.unusedVariables false
namespace Go.Proofs.Ytmlbacbcdjfioaa
open Go.ChangeShapes Go.WideShapes Go.ChangeAt Go.RowKit

/-- A schedule at block e, its heap at block b. -/
def schedT (B e b : Nat) (A : Hp) (S : Nat → Prop) : Thing where
  P w := HAt B w b A S ∧ w.cell? ⟨e, 0, none⟩ = some (.pointer (some ⟨b, 0, none⟩)) ∧ ¬ S e
  S q := S q ∨ q = e
  st w w' h hk hs := ⟨h.1.same (fun q hq => hk q (Or.inl hq)) hs, by rw [World.cell?_of_block (w := w) (hk e (Or.inr rfl))]; exact h.2.1, h.2.2⟩
  lt w h q hq := by
    rcases hq with hq | rfl
    · exact (h.1.foot hq).2
    · exact World.block_lt_of_cell? w ⟨q, 0, none⟩ h.2.1

section
variable {w0 w w' : World} {l : List Thing} {i e b : Nat} {A A' : Hp} {S : Nat → Prop}
theorem Sep.sched (h : Sep w0 w l) (i : Nat) (hi : l[i]? = some (schedT w0.heap.size e b A S)) : EIn w0 w e b A S := by
  obtain ⟨h1, h2, h3⟩ := h.get i hi
  exact ⟨⟨h1, h.below⟩, h2, h3, h.ge i hi (Or.inr rfl)⟩
theorem EIn.thing (h : EIn w0 w e b A S) : (schedT w0.heap.size e b A S).P w := ⟨h.hin.1, h.cell, h.ne⟩
theorem Sep.sched_next (h : Sep w0 w l) (i : Nat) (hi : l[i]? = some (schedT w0.heap.size e b A S)) (hn : ENext w0 w w' e b A' S) : ∃ S', Sep w0 w' (l.set i (schedT w0.heap.size e b A' S')) := by
  obtain ⟨S', h1, h2, h3⟩ := hn
  refine ⟨S', h.set i hi h3 (fun q hq => Or.inl (Or.inl hq)) _ h1.thing ?_⟩
  intro q hq
  rcases hq with hq | rfl
  · rcases h2 q hq with h4 | h4
    · exact Or.inl (Or.inl h4)
    · exact Or.inr h4
  · exact Or.inl (Or.inr rfl)
theorem EIn.rebase {wm : World} (h : EIn wm w e b A S) (hb : Below w0.heap.size w0 wm) : EIn w0 w e b A S :=
  ⟨⟨h.hin.1.base hb.size, hb.trans (h.hin.2.mono hb.size)⟩, h.cell, h.ne, Nat.le_trans hb.size h.ge⟩
/-- A new schedule. -/
theorem Sep.sched_new (h : Sep w0 w l) (hn : EIn w w' e b A S) : Sep w0 w' (schedT w0.heap.size e b A S :: l) := by
  refine h.add hn.hin.2 _ (hn.rebase h.below).thing ?_
  rintro q (hq | rfl)
  · exact (hn.foot hq).1
  · exact hn.ge

theorem Sep.eSet (h : Sep w0 w l) (i : Nat) (hi : l[i]? = some (schedT w0.heap.size e b A S)) (k x : Int) (hx : -9223372036854775808 ≤ x ∧ x ≤ 9223372036854775807) :
    Calls Try.prog 37 #[.pointer (some ⟨e, 0, none⟩), .int .i64 k, .int .i64 x] w fun r w' => r = .returned (.int .i64 (A.setE k)) ∧ ∃ S', Sep w0 w' (l.set i (schedT w0.heap.size e b (A.setA k x) S')) :=
  (eSet_any (h.sched i hi) k x hx).mono fun _ _ ⟨h1, h2⟩ => ⟨h1, h.sched_next i hi h2⟩
theorem Sep.eDrop (h : Sep w0 w l) (i : Nat) (hi : l[i]? = some (schedT w0.heap.size e b A S)) (k : Int) :
    Calls Try.prog 35 #[.pointer (some ⟨e, 0, none⟩), .int .i64 k] w fun r w' => r = .returned (.int .i64 (A.remE k)) ∧ ∃ S', Sep w0 w' (l.set i (schedT w0.heap.size e b (A.remA k) S')) :=
  (eDrop_any (h.sched i hi) k).mono fun _ _ ⟨h1, h2⟩ => ⟨h1, h.sched_next i hi h2⟩
theorem Sep.eLeft (h : Sep w0 w l) (i : Nat) (hi : l[i]? = some (schedT w0.heap.size e b A S)) (k now : Int) (hn : -9223372036854775808 ≤ now ∧ now ≤ 9223372036854775807) :
    Calls Try.prog 34 #[.pointer (some ⟨e, 0, none⟩), .int .i64 k, .int .i64 now] w fun r w' => r = .returned (leftV (A.leftR k now)) ∧ ∃ S', Sep w0 w' (l.set i (schedT w0.heap.size e b A S')) :=
  (eLeft_any (h.sched i hi) k now hn).mono fun _ _ ⟨h1, h2⟩ => ⟨h1, h.sched_next i hi h2⟩
theorem Sep.eNext (h : Sep w0 w l) (i : Nat) (hi : l[i]? = some (schedT w0.heap.size e b A S)) {L : List Ent} (hs : Srt A L) :
    Calls Try.prog 31 #[.pointer (some ⟨e, 0, none⟩)] w fun r w' => r = .returned (minV L.head?) ∧ Sep w0 w' l ∧ Below w.heap.size w w' := by
  rw [← hs.first_eq]
  exact (eNext_any (h.sched i hi)).mono fun _ _ ⟨h1, h2⟩ => ⟨h1, h.keep h2, h2⟩
theorem Sep.eLen (h : Sep w0 w l) (i : Nat) (hi : l[i]? = some (schedT w0.heap.size e b A S)) {L : List Ent} (hs : Srt A L) :
    Calls Try.prog 30 #[.pointer (some ⟨e, 0, none⟩)] w fun r w' => r = .returned (.int .i64 L.length) ∧ w = w' := eLen_of (h.sched i hi) hs
theorem Sep.eLenEq (h : Sep w0 w l) (i : Nat) (hi : l[i]? = some (schedT w0.heap.size e b A S)) {L : List Ent} (hs : Srt A L) {n : Nat} (hn : L.length = n) :
    Calls Try.prog 30 #[.pointer (some ⟨e, 0, none⟩)] w fun r w' => r = .returned (.int .i64 n) ∧ w = w' := by
  subst hn; exact eLen_of (h.sched i hi) hs
theorem Sep.eCopy (h : Sep w0 w l) (i : Nat) (hi : l[i]? = some (schedT w0.heap.size e b A S)) :
    Calls Try.prog 36 #[.pointer (some ⟨e, 0, none⟩)] w fun r w' => ∃ e' b' S', r = .returned (.pointer (some ⟨e', 0, none⟩)) ∧ Sep w0 w' (schedT w0.heap.size e' b' A S' :: l) := by
  refine (eCopy_any (h.sched i hi)).mono ?_
  rintro r w' ⟨e', b', S', rfl, h1, h2, h3, h4⟩
  refine ⟨e', b', S', rfl, h.add h4 _ h1.thing ?_⟩
  rintro q (hq | rfl)
  · exact h2 q hq
  · exact h3

/-- What stays behind a Due: those that are later. -/
def Hp.after (A : Hp) (now : Int) : Hp := { A with keys := fun i => match A.keys i with
  | some v => if v ≤ now then none else some v
  | none => none }
def dueOf (L : List Ent) (now : Int) : List Ent := L.filter fun x => decide (x.2 ≤ now)
def lateOf (L : List Ent) (now : Int) : List Ent := L.filter fun x => decide (now < x.2)
theorem dueOf_lt {A : Hp} {L : List Ent} (hs : Srt A L) (ho : A.Ok) (now : Int) : ∀ x ∈ dueOf L now, x.1 < 65536 := by
  intro x hx
  have h1 := (List.mem_filter.1 hx).1
  have := ho.lt _ _ ((hs.mem x.1 x.2).2 h1)
  have := ho.slots
  omega
def nats (L : List Ent) : List Int := L.map fun x => (x.1 : Int)

theorem Sep.eDue (h : Sep w0 w l) (i : Nat) (hi : l[i]? = some (schedT w0.heap.size e b A S)) {L : List Ent} (hs : Srt A L) (now : Int) :
    Calls Try.prog 32 #[.pointer (some ⟨e, 0, none⟩), .int .i64 now] w fun r w' => ∃ a cap A' S', r = .returned (.slice a (dueOf L now).length cap) ∧ A'.slots = A.slots ∧ Srt A' (lateOf L now) ∧ (a = none → (dueOf L now).length = 0 ∧ cap = 0) ∧
      Sep w0 w' (intsT .i64 a (dueOf L now).length cap (nats (dueOf L now)) :: l.set i (schedT w0.heap.size e b A' S')) := by
  have hin := h.sched i hi
  refine (eDue_any (now := now) hin hs).mono ?_
  rintro r w' ⟨v, k, A', S', rfl, q1, q2, q3, q4, q5, q6, q7, q8, q9, q10⟩
  obtain ⟨d1, d2⟩ := due_split now k q7 q8
  have hlt : ∀ x ∈ L, x.1 < 65536 := by
    intro x hx
    have := hin.ok.lt _ _ ((hs.mem x.1 x.2).2 hx)
    have := hin.ok.slots
    omega
  obtain ⟨a, cap, rfl, q11, q12, q13⟩ := DueOut.ints q2 q1 hlt
  have hk : (dueOf L now).length = k := by
    unfold dueOf; rw [← d1]; simp; omega
  rw [d1] at q12
  rw [d2] at q6
  have hset : Sep w0 w' (l.set i (schedT w0.heap.size e b A' S')) := h.set i hi q9 (fun q hq => Or.inl (Or.inl hq)) _ q3.thing (by
    rintro q (hq | rfl)
    · rcases q4 q hq with h1 | h1
      · exact Or.inl (Or.inl h1)
      · exact Or.inr h1
    · exact Or.inl (Or.inr rfl))
  refine ⟨a, cap, A', S', by rw [hk], q10, q6, by rw [hk]; exact q13, ?_⟩
  rw [hk]
  have hz := h.size
  have hP : (intsT .i64 a k cap (nats (dueOf L now))).P w' := q12
  refine ⟨?_, ?_, hset.below⟩
  · intro j x hj
    cases j with
    | zero =>
      simp only [List.getElem?_cons_zero, Option.some.injEq] at hj
      subst hj
      refine ⟨hP, ?_⟩
      rintro q ⟨_, ad, ha, rfl⟩
      have := (q11 ad ha).1; omega
    | succ j => exact hset.all j x (by simpa using hj)
  · have key : ∀ (j : Nat) (x : Thing), (l.set i (schedT w0.heap.size e b A' S'))[j]? = some x → ∀ q, (intsT .i64 a k cap (nats (dueOf L now))).S q → ¬ x.S q := by
      intro j x hj q hq hx
      obtain ⟨hk0, ad, ha, rfl⟩ := hq
      have hb := q11 ad ha
      by_cases e1 : j = i
      · subst e1
        rw [List.getElem?_set_self (List.getElem?_eq_some_iff.1 hi).1] at hj
        simp only [Option.some.injEq] at hj
        subst hj
        rcases hx with hx | hx
        · obtain ⟨b0, off, ha2, _, _⟩ := q12.hcell 0 hk0
          rw [ha] at ha2
          simp only [Option.some.injEq] at ha2
          refine q5 ad.block ?_ hx
          rw [ha, ha2]
          rfl
        · have := hin.lt; omega
      · rw [List.getElem?_set_ne (Ne.symm e1)] at hj
        have := x.lt w (h.get j hj) _ hx
        omega
    intro j j2 x y hne hj hj2 q hx hy
    cases j with
    | zero =>
      simp only [List.getElem?_cons_zero, Option.some.injEq] at hj
      subst hj
      cases j2 with
      | zero => exact hne rfl
      | succ j2 => exact key j2 y (by simpa using hj2) q hx hy
    | succ j =>
      cases j2 with
      | zero =>
        simp only [List.getElem?_cons_zero, Option.some.injEq] at hj2
        subst hj2
        exact key j x (by simpa using hj) q hy hx
      | succ j2 => exact hset.dis j j2 x y (by omega) (by simpa using hj) (by simpa using hj2) q hx hy

theorem Sep.eDueEq (h : Sep w0 w l) (i : Nat) (hi : l[i]? = some (schedT w0.heap.size e b A S)) {L D M : List Ent} (hs : Srt A L) (now : Int) (hd : dueOf L now = D) (hm : lateOf L now = M) :
    Calls Try.prog 32 #[.pointer (some ⟨e, 0, none⟩), .int .i64 now] w fun r w' => ∃ a cap A' S', r = .returned (.slice a D.length cap) ∧ A'.slots = A.slots ∧ Srt A' M ∧ (a = none → D.length = 0 ∧ cap = 0) ∧
      Sep w0 w' (intsT .i64 a D.length cap (nats D) :: l.set i (schedT w0.heap.size e b A' S')) := by
  subst hd hm
  exact h.eDue i hi hs now

theorem Sep.l35filled (h : Sep w0 w l) {a : Option Addr} {len cap : Nat} {zs : List Int} (back : Bool) (hx : IntsIn w .i64 a len cap zs) (hl : len ≤ 300) :
    Calls Try.prog 29 #[.slice a len cap, .bool back] w fun r w' => ∃ e b S, r = .returned (.pointer (some ⟨e, 0, none⟩)) ∧ Sep w0 w' (schedT w0.heap.size e b (Hp.upto zs len) S :: l) := by
  refine (l35filled_any back hx hl).mono ?_
  rintro r w' ⟨e, b, S, rfl, h1⟩
  exact ⟨e, b, S, rfl, h.sched_new h1⟩
theorem Sep.l35works (h : Sep w0 w l) : Calls Try.prog 28 #[] w fun r w' => r = .returned (.bool true) ∧ Sep w0 w' l :=
  (l35works_any w).mono fun _ _ ⟨h1, h2⟩ => ⟨h1, h.keep h2⟩
theorem Sep.l35same (h : Sep w0 w l) {a1 a2 : Option Addr} {n1 n2 c1 c2 : Nat} {xs ys : List Int} (hx : IntsIn w .i64 a1 n1 c1 xs) (hy : IntsIn w .i64 a2 n2 c2 ys) :
    Calls Try.prog 33 #[.slice a1 n1 c1, .slice a2 n2 c2] w fun r w' => r = .returned (.bool (decide (xs = ys))) ∧ Sep w0 w' l := by
  refine (l35same_any hx hy).mono ?_
  rintro r w' ⟨rfl, n, rfl⟩
  exact ⟨rfl, h.drewN n⟩
theorem Sep.l35sameEq (h : Sep w0 w l) {a1 a2 : Option Addr} {n1 n2 c1 c2 : Nat} {xs ys : List Int} (he : xs = ys) (hx : IntsIn w .i64 a1 n1 c1 xs) (hy : IntsIn w .i64 a2 n2 c2 ys) :
    Calls Try.prog 33 #[.slice a1 n1 c1, .slice a2 n2 c2] w fun r w' => r = .returned (.bool true) ∧ Sep w0 w' l := by
  have := h.l35same hx hy
  rwa [show decide (xs = ys) = true by simp [he]] at this
end
end Go.Proofs.Ytmlbacbcdjfioaa
