/- ArT: layer 2: an arena among the things that a law or a layer above holds. -/
import Derived.Test.YthlfmlpdnbeelaaArenaR
import Derived.Test.YthlfmlpdnbeelaaArenaN
import Derived.Test.YthlfmlpdnbeelaaBun
set_option linter.unusedSimpArgs false
set_option linter.unusedVariables false
namespace Go.Proofs.Ythlfmlpdnbeelaa
open Go.ChangeShapes Go.WideShapes Go.ChangeAt Go.RowKit

def arT (b lb : Nat) (A : Ar) : Thing where
  P w := ArenaAt w b lb A ∧ lb < w.heap.size
  S q := q = b ∨ q = lb
  st w w' h hk hs := ⟨h.1.of_blocks (hk b (Or.inl rfl)) (hk lb (Or.inr rfl)), Nat.lt_of_lt_of_le h.2 hs⟩
  lt w h q hq := by
    rcases hq with rfl | rfl
    · exact h.1.b_lt
    · exact h.2

section
variable {w0 w w' : World} {l : List Thing} {b lb : Nat} {A A' : Ar}
theorem Sep.arena (h : Sep w0 w l) (i : Nat) (hi : l[i]? = some (arT b lb A)) : ArenaAt w b lb A := (h.get i hi).1
theorem Sep.arena_set (h : Sep w0 w l) (i : Nat) (hi : l[i]? = some (arT b lb A)) (ha : ArenaAt w' b lb A') (hu : Upd (fun k => k = b ∨ k = lb) w w') : Sep w0 w' (l.set i (arT b lb A')) :=
  h.set i hi hu (fun q hq => Or.inl hq) _ ⟨ha, Nat.lt_of_lt_of_le (h.get i hi).2 hu.size⟩ (fun q hq => Or.inl hq)
theorem Sep.aAlloc (h : Sep w0 w l) (i : Nat) (hi : l[i]? = some (arT b lb A)) {k : Nat} (hk : A.next = some k) :
    Calls Try.prog 62 #[.pointer (some ⟨b, 0, none⟩)] w fun r w' => r = .returned (.tuple #[.int .i64 k, .int .i64 0]) ∧ Sep w0 w' (l.set i (arT b lb (A.take k))) :=
  (aAlloc_some (h.arena i hi) k hk).mono fun _ _ ⟨h1, h2, h3⟩ => ⟨h1, h.arena_set i hi h2 h3⟩
theorem Sep.aFree (h : Sep w0 w l) (i : Nat) (hi : l[i]? = some (arT b lb A)) {k : Nat} (hk : A.used k = true) :
    Calls Try.prog 58 #[.pointer (some ⟨b, 0, none⟩), .int .i64 k] w fun r w' => r = .returned (.int .i64 0) ∧ Sep w0 w' (l.set i (arT b lb (A.freed k))) :=
  (aFree_used (h.arena i hi) k hk).mono fun _ _ ⟨h1, h2, h3⟩ => ⟨h1, h.arena_set i hi h2 h3⟩
theorem Sep.aNew (h : Sep w0 w l) (n : Nat) (hn : n ≤ 65536) :
    Calls Try.prog 55 #[.int .i64 n] w fun r w' => ∃ b lb, r = .returned (.tuple #[.pointer (some ⟨b, 0, none⟩), .int .i64 0]) ∧ Sep w0 w' (arT b lb (Ar.new n) :: l) := by
  refine (aNew_ok2 n w hn).mono ?_
  rintro r w' ⟨b, lb, rfl, h1, h2, h3, h4, h5⟩
  refine ⟨b, lb, rfl, h.add h5 _ ⟨h1, h4⟩ ?_⟩
  rintro q (rfl | rfl)
  · exact h2
  · exact h3
theorem Sep.aCopy (h : Sep w0 w l) (i : Nat) (hi : l[i]? = some (arT b lb A)) :
    Calls Try.prog 70 #[.pointer (some ⟨b, 0, none⟩)] w fun r w' => ∃ b' lb', r = .returned (.pointer (some ⟨b', 0, none⟩)) ∧ Sep w0 w' (arT b' lb' A :: l) := by
  refine (aCopy_any (h.arena i hi)).mono ?_
  rintro r w' ⟨b', lb', rfl, h1, h2, h3, h4, h5⟩
  refine ⟨b', lb', rfl, h.add h5 _ ⟨h1, h4⟩ ?_⟩
  rintro q (rfl | rfl)
  · exact h2
  · exact h3
theorem Sep.aList (h : Sep w0 w l) (i : Nat) (hi : l[i]? = some (arT b lb A)) :
    Calls Try.prog 68 #[.pointer (some ⟨b, 0, none⟩)] w fun r w' => ∃ a cap, r = .returned (.slice a A.list.length cap) ∧ A.list.length ≤ cap ∧ cap ≤ 9223372036854775807 ∧ Sep w0 w' (intsT .i64 a A.list.length cap (A.list.map fun (x : Nat) => (x : Int)) :: l) := by
  have hA := h.arena i hi
  refine (aList_any hA).mono ?_
  rintro r w' ⟨v, rfl, hown, hb⟩
  obtain ⟨a, cap, rfl, h1, h2⟩ := ints_of_owns hown (fun x hx => by
    have h3 := (List.mem_filter.1 hx).1
    rw [List.mem_range] at h3
    have := hA.ok.slots
    omega)
  refine ⟨a, cap, rfl, h2.hle, h2.hmax, h.add hb _ h2 ?_⟩
  rintro q ⟨_, ad, ha, rfl⟩
  exact (h1 ad ha).1
end
end Go.Proofs.Ythlfmlpdnbeelaa
