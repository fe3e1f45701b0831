/- HeapJ: layer 4: a heap among the things that a law holds; its methods. -/
import Derived.Test.YtmlbacbcdjfioaaHeapL
import Derived.Test.YtmlbacbcdjfioaaL4FillB
import Derived.Test.YtmlbacbcdjfioaaL4Same
set_option linter.unusedSimpArgs false
set_option linter.unusedVariables false
namespace Go.Proofs.Ytmlbacbcdjfioaa
open Go.ChangeShapes Go.WideShapes Go.ChangeAt Go.RowKit

/-- A heap at block b. -/
def heapT (B b : Nat) (A : Hp) (S : Nat → Prop) : Thing where
  P w := HAt B w b A S
  S q := S q
  st w w' h hk hs := h.same (fun q hq => hk q hq) hs
  lt w h q hq := (h.foot hq).2

section
variable {w0 w w' : World} {l : List Thing} {i b : Nat} {A A' : Hp} {S : Nat → Prop}
theorem Sep.heap (h : Sep w0 w l) (i : Nat) (hi : l[i]? = some (heapT w0.heap.size b A S)) : HIn w0 w b A S := ⟨h.get i hi, h.below⟩
theorem Sep.heap_next (h : Sep w0 w l) (i : Nat) (hi : l[i]? = some (heapT w0.heap.size b A S)) (hn : HNext w0 w w' b A' S) : ∃ S', Sep w0 w' (l.set i (heapT w0.heap.size b A' S')) := by
  obtain ⟨S', h1, h2, h3⟩ := hn
  exact ⟨S', h.set i hi h3 (fun q hq => Or.inl hq) _ h1.1 (fun q hq => h2 q hq)⟩
theorem HIn.rebase {wm : World} (h : HIn wm w b A S) (hb : Below w0.heap.size w0 wm) : HIn w0 w b A S :=
  ⟨h.1.base hb.size, hb.trans (h.2.mono hb.size)⟩
theorem Sep.heap_new (h : Sep w0 w l) (hn : HIn w w' b A S) : Sep w0 w' (heapT w0.heap.size b A S :: l) :=
  h.add hn.2 _ (hn.rebase h.below).1 (fun q hq => (hn.1.foot hq).1)
theorem Sep.heap_ok (h : Sep w0 w l) (i : Nat) (hi : l[i]? = some (heapT w0.heap.size b A S)) : A.Ok := (h.heap i hi).1.ok

theorem Sep.hNew (h : Sep w0 w l) (n : Nat) (hn : n ≤ 65536) :
    Calls Try.prog 45 #[.int .i64 n] w fun r w' => ∃ b S, r = .returned (.tuple #[.pointer (some ⟨b, 0, none⟩), .int .i64 0]) ∧ Sep w0 w' (heapT w0.heap.size b (Hp.new n) S :: l) :=
  (HIn.new (w := w) n hn).mono fun _ _ ⟨b, S, h1, h2⟩ => ⟨b, S, h1, h.heap_new h2⟩
theorem Sep.hPush (h : Sep w0 w l) (i : Nat) (hi : l[i]? = some (heapT w0.heap.size b A S)) (k x : Int) (hx : -9223372036854775808 ≤ x ∧ x ≤ 9223372036854775807) :
    Calls Try.prog 50 #[.pointer (some ⟨b, 0, none⟩), .int .i64 k, .int .i64 x] w fun r w' => r = .returned (.int .i64 (A.pushE k)) ∧ ∃ S', Sep w0 w' (l.set i (heapT w0.heap.size b (A.pushA k x) S')) :=
  ((h.heap i hi).push k x hx).mono fun _ _ ⟨h1, h2⟩ => ⟨h1, h.heap_next i hi h2⟩
theorem Sep.hChange (h : Sep w0 w l) (i : Nat) (hi : l[i]? = some (heapT w0.heap.size b A S)) (k x : Int) (hx : -9223372036854775808 ≤ x ∧ x ≤ 9223372036854775807) :
    Calls Try.prog 49 #[.pointer (some ⟨b, 0, none⟩), .int .i64 k, .int .i64 x] w fun r w' => r = .returned (.int .i64 (A.remE k)) ∧ ∃ S', Sep w0 w' (l.set i (heapT w0.heap.size b (A.chgA k x) S')) :=
  ((h.heap i hi).change k x hx).mono fun _ _ ⟨h1, h2⟩ => ⟨h1, h.heap_next i hi h2⟩
theorem Sep.hRemove (h : Sep w0 w l) (i : Nat) (hi : l[i]? = some (heapT w0.heap.size b A S)) (k : Int) :
    Calls Try.prog 44 #[.pointer (some ⟨b, 0, none⟩), .int .i64 k] w fun r w' => r = .returned (.int .i64 (A.remE k)) ∧ ∃ S', Sep w0 w' (l.set i (heapT w0.heap.size b (A.remA k) S')) :=
  ((h.heap i hi).remove k).mono fun _ _ ⟨h1, h2⟩ => ⟨h1, h.heap_next i hi h2⟩
theorem Sep.hPop (h : Sep w0 w l) (i : Nat) (hi : l[i]? = some (heapT w0.heap.size b A S)) {L : List Ent} (hs : Srt A L) :
    Calls Try.prog 23 #[.pointer (some ⟨b, 0, none⟩)] w fun r w' => r = .returned (minV L.head?) ∧ ∃ S', Sep w0 w' (l.set i (heapT w0.heap.size b A.popA S')) := by
  rw [← hs.first_eq]
  exact ((h.heap i hi).pop).mono fun _ _ ⟨h1, h2⟩ => ⟨h1, h.heap_next i hi h2⟩
theorem Sep.hMin (h : Sep w0 w l) (i : Nat) (hi : l[i]? = some (heapT w0.heap.size b A S)) {L : List Ent} (hs : Srt A L) :
    Calls Try.prog 57 #[.pointer (some ⟨b, 0, none⟩)] w fun r w' => r = .returned (minV L.head?) ∧ Sep w0 w' l ∧ Below w.heap.size w w' := by
  rw [← hs.first_eq]
  exact (hMin_at (h.heap i hi).1).mono fun _ _ ⟨h1, h2⟩ => ⟨h1, h.keep h2, h2⟩
theorem Sep.hKey (h : Sep w0 w l) (i : Nat) (hi : l[i]? = some (heapT w0.heap.size b A S)) (k : Int) :
    Calls Try.prog 51 #[.pointer (some ⟨b, 0, none⟩), .int .i64 k] w fun r w' => r = .returned (keyV (A.keyAt k)) ∧ w = w' := hKey_at (h.heap i hi).1 k
theorem Sep.hLenEq (h : Sep w0 w l) (i : Nat) (hi : l[i]? = some (heapT w0.heap.size b A S)) {L : List Ent} (hs : Srt A L) {n : Nat} (hn : L.length = n) :
    Calls Try.prog 24 #[.pointer (some ⟨b, 0, none⟩)] w fun r w' => r = .returned (.int .i64 n) ∧ w = w' := by
  have := hLen_at (h.heap i hi).1
  rwa [hs.len (h.heap_ok i hi), hn] at this
theorem Sep.hListEq (h : Sep w0 w l) (i : Nat) (hi : l[i]? = some (heapT w0.heap.size b A S)) {L : List Ent} (hs : Srt A L) {n : Nat} (hn : L.length = n) :
    Calls Try.prog 42 #[.pointer (some ⟨b, 0, none⟩)] w fun r w' => ∃ a cap, r = .returned (.slice a n cap) ∧ n ≤ cap ∧ cap ≤ 9223372036854775807 ∧ Sep w0 w' (entsT a n cap L :: l) := by
  subst hn
  refine (hList_at (h.heap i hi).1 hs).mono ?_
  rintro r w' ⟨a, cap, rfl, h1, h2, h3⟩
  refine ⟨a, cap, rfl, h1.hle, h1.hmax, h.add h3 _ h1 ?_⟩
  rintro q ⟨_, ad, ha, rfl⟩
  exact h2 ad ha
theorem Sep.hCopy (h : Sep w0 w l) (i : Nat) (hi : l[i]? = some (heapT w0.heap.size b A S)) :
    Calls Try.prog 48 #[.pointer (some ⟨b, 0, none⟩)] w fun r w' => ∃ b' S', r = .returned (.pointer (some ⟨b', 0, none⟩)) ∧ Sep w0 w' (heapT w0.heap.size b' A S' :: l) := by
  refine ((h.heap i hi).copy).mono ?_
  rintro r w' ⟨b', S', rfl, h1, h2, h3⟩
  exact ⟨b', S', rfl, h.add h3 _ h1.1 h2⟩
theorem Sep.l4filled (h : Sep w0 w l) {a : Option Addr} {len cap : Nat} {zs : List Int} (back : Bool) (hx : IntsIn w .i64 a len cap zs) (hl : len ≤ 300) :
    Calls Try.prog 22 #[.slice a len cap, .bool back] w fun r w' => ∃ b S, r = .returned (.pointer (some ⟨b, 0, none⟩)) ∧ Sep w0 w' (heapT w0.heap.size b (Hp.upto zs len) S :: l) := by
  refine (l4filled_any back hx hl).mono ?_
  rintro r w' ⟨b, S, rfl, h1⟩
  exact ⟨b, S, rfl, h.heap_new h1⟩
theorem Sep.l4works (h : Sep w0 w l) : Calls Try.prog 21 #[] w fun r w' => r = .returned (.bool true) ∧ Sep w0 w' l :=
  (l4works_any w).mono fun _ _ ⟨h1, h2⟩ => ⟨h1, h.keep h2⟩
theorem Sep.l4same (h : Sep w0 w l) {a1 a2 : Option Addr} {n1 n2 c1 c2 : Nat} {xs ys : List Ent} (hx : EntsIn w a1 n1 c1 xs) (hy : EntsIn w a2 n2 c2 ys) :
    Calls Try.prog 43 #[.slice a1 n1 c1, .slice a2 n2 c2] w fun r w' => r = .returned (.bool (decide (xs = ys))) ∧ Sep w0 w' l := by
  refine (l4same_any hx hy).mono ?_
  rintro r w' ⟨rfl, n, rfl⟩
  exact ⟨rfl, h.drewN n⟩
theorem Sep.l4sameEq (h : Sep w0 w l) {a1 a2 : Option Addr} {n1 n2 c1 c2 : Nat} {xs ys : List Ent} (he : xs = ys) (hx : EntsIn w a1 n1 c1 xs) (hy : EntsIn w a2 n2 c2 ys) :
    Calls Try.prog 43 #[.slice a1 n1 c1, .slice a2 n2 c2] w fun r w' => r = .returned (.bool true) ∧ Sep w0 w' l := by
  have := h.l4same hx hy
  rwa [show decide (xs = ys) = true by simp [he]] at this
end
end Go.Proofs.Ytmlbacbcdjfioaa
