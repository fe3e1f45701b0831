/- R4E: layer 4: the document's heap: Min, Pop. -/
import Derived.Test.YtmlbacbcdjfioaaR4D
set_option linter.unusedSimpArgs false
set_option linter.unusedVariables false
namespace Go.Proofs.Ytmlbacbcdjfioaa
open Go.ChangeShapes Go.WideShapes Go.ChangeAt Go.RowKit

set_option maxHeartbeats 2000000
set_option maxRecDepth 100000
section
variable {B : Nat} {w : World} {g n : Nat} {v : Value} {L : List Ent} {A : Hp}
theorem r4Min_any (h : Ref4 B w g n v L) (hs : Lst A L) (ho : A.Ok) {M : List Ent} (hM : Srt A M) : Calls Try.prog 79 #[.pointer (some ⟨g, 0, none⟩)] w fun r w' => r = .returned (minV M.head?) ∧ Below w.heap.size w w' := by
  have HL := Lib.hid (fun (o : Obj) => r4List_any (h.below ((Below.refl _ _).alloc (Nat.le_refl _) o)) hs ho hM)
  cases M with
  | nil =>
    clear h hs ho hM
    go_enter Try.func79, Try.ntmps79
    go_wp2_with (go_at_call 82; refine (HL.out _).mono ?_; rintro r w1 ⟨a1, c1, rfl, he, _, hb⟩; have k0 := (hb.block w.heap.size (by simp)).trans (heap_alloc_new _ _); obtain ⟨q0, q1, qf, hq⟩ := row_two k0; have hle := he.hle; have hmx := he.hmax; have HB := Lib.hid (And.intro hb k0); clear hb k0 he)
    obtain ⟨hb, k0⟩ := HB.out
    have n1 := row_two_set k0 (.int .i64 0) (.int .i64 0)
    have hb2 : Below w.heap.size w w1 := ((Below.refl _ w).alloc (Nat.le_refl _) _).trans (hb.mono (by simp))
    have hb3 := ((hb2.setCell (p := ⟨w.heap.size, 0, none⟩) (Nat.le_refl _) (.int .i64 0)).setCell (p := ⟨w.heap.size, 1, none⟩) (Nat.le_refl _) (.int .i64 0))
    refine bodyPost_ret (results_2 rfl (.row (by rfl) n1 Try.underlying28 rfl (by kernel_rfl)) (.tmp 3 rfl)) rfl ?_
    exact ⟨rfl, hb3⟩
  | cons x N =>
    obtain ⟨xi, xk⟩ := x
    clear h hs ho hM
    go_enter Try.func79, Try.ntmps79
    go_wp2_with (go_at_call 82; refine (HL.out _).mono ?_; rintro r w1 ⟨a1, c1, rfl, he, _, hb⟩; have k0 := (hb.block w.heap.size (by simp)).trans (heap_alloc_new _ _); obtain ⟨q0, q1, qf, hq⟩ := row_two k0; have hle := he.hle; have hmx := he.hmax; obtain ⟨b, off, rfl⟩ := he.addr (by simp); obtain ⟨e0, e1, e2⟩ := he.cellsAt (i := 0) (by simp); have e3 : w1.cell? ⟨b, off, none⟩ = some (.int .i64 (xi : Int)) := (by simpa [entAt] using e1); have e4 : w1.cell? ⟨b, off + 1, none⟩ = some (.int .i64 xk) := (by simpa [entAt] using e2); clear e1 e2; have HB := Lib.hid (And.intro hb k0); clear hb k0 he)
    obtain ⟨hb, k0⟩ := HB.out
    have n1 := row_two_set k0 (.int .i64 (xi : Int)) (.int .i64 xk)
    have hb2 : Below w.heap.size w w1 := ((Below.refl _ w).alloc (Nat.le_refl _) _).trans (hb.mono (by simp))
    have hb3 := ((hb2.setCell (p := ⟨w.heap.size, 0, none⟩) (Nat.le_refl _) (.int .i64 (xi : Int))).setCell (p := ⟨w.heap.size, 1, none⟩) (Nat.le_refl _) (.int .i64 xk))
    refine bodyPost_ret (results_2 rfl (.row (by rfl) n1 Try.underlying28 rfl (by kernel_rfl)) (.tmp 3 rfl)) rfl ?_
    exact ⟨rfl, hb3⟩
end

section
variable {w0 w : World} {l : List Thing} {i g n : Nat} {A : Hp} {L M : List Ent} {bk : Option Nat}
theorem Sep.r4Min (h : Sep w0 w l) (hi : l[i]? = some (ref4T w0.heap.size g n L bk)) (hs : Lst A L) (ho : A.Ok) (hM : Srt A M) :
    Calls Try.prog 79 #[.pointer (some ⟨g, 0, none⟩)] w fun r w' => r = .returned (minV M.head?) ∧ Sep w0 w' l ∧ Below w.heap.size w w' := by
  obtain ⟨v, hv, hr⟩ := h.ref4 i hi
  exact (r4Min_any hr hs ho hM).mono fun _ _ ⟨h1, h2⟩ => ⟨h1, h.keep h2, h2⟩
theorem Sep.blockSet {j : Nat} {o o' : Obj} {q : Nat} (h : Sep w0 w l) (hj : l[j]? = some (blockT q o)) {w' : World} (hu : Upd (fun k => k = q) w w') (h' : w'.heap[q]? = some o') : Sep w0 w' (l.set j (blockT q o')) :=
  h.set j hj hu (fun k hk => Or.inl hk) (blockT q o') h' (fun k hk => Or.inl hk)
theorem Sep.two_set {j q : Nat} {a b : Value} {t : TypeId} (h : Sep w0 w l) (hj : l[j]? = some (blockT q (.cells #[a, b] t (0, 0)))) (x y : Value) : Sep w0 ((w.setCell ⟨q, 0, none⟩ x).setCell ⟨q, 1, none⟩ y) (l.set j (blockT q (.cells #[x, y] t (0, 0)))) :=
  h.blockSet hj (((Upd.refl (fun k => k = q) w).setCell (p := ⟨q, 0, none⟩) (fun _ => rfl) x).setCell (p := ⟨q, 1, none⟩) (fun _ => rfl) y) (row_two_set (h.get j hj) x y)
theorem Sep.r4Pop (h : Sep w0 w l) (hi : l[i]? = some (ref4T w0.heap.size g n L bk)) (hs : Lst A L) (ho : A.Ok) (hA : A.slots = n) (hM : Srt A M) :
    Calls Try.prog 55 #[.pointer (some ⟨g, 0, none⟩)] w fun r w' => r = .returned (minV M.head?) ∧ ∃ L' bk', Lst A.popA L' ∧ Sep w0 w' (l.set i (ref4T w0.heap.size g n L' bk')) := by
  have h0 := h.add ((Below.refl _ _).alloc (Nat.le_refl _) (.cells #[.int .i64 0, .int .i64 0] 28)) (blockT w.heap.size (.cells #[.int .i64 0, .int .i64 0] 28)) (heap_alloc_new _ _) (by rintro q rfl; exact Nat.le_refl _)
  have hi0 : (blockT w.heap.size (.cells #[.int .i64 0, .int .i64 0] 28 (0, 0)) :: l)[i + 1]? = some (ref4T w0.heap.size g n L bk) := by simpa using hi
  have HMIN := Lib.hid (h0.r4Min hi0 hs ho hM)
  have HI := Lib.hid (List.getElem?_eq_some_iff.1 hi).1
  cases M with
  | nil =>
    have HF := Lib.hid (show Lst A.popA L ∧ l.set i (ref4T w0.heap.size g n L bk) = l from by
      refine ⟨by rw [hM.popA_nil]; exact hs, ?_⟩
      rw [List.getElem?_eq_some_iff] at hi
      obtain ⟨h1, h2⟩ := hi
      rw [← h2, List.set_getElem_self])
    clear h hi hs ho hM h0 hi0
    go_enter Try.func55, Try.ntmps55
    go_wp2_with (go_at_call 79; refine HMIN.out.mono ?_; rintro r w1 ⟨rfl, h1, _⟩; simp only [List.head?_nil, minV]; have h2 := h1.add ((Below.refl _ _).alloc (Nat.le_refl _) (.cells #[.int .i64 0, .int .i64 0] 28)) (blockT w1.heap.size (.cells #[.int .i64 0, .int .i64 0] 28)) (heap_alloc_new _ _) (by rintro q rfl; exact Nat.le_refl _); have kb0 := (h2.get 0 rfl : (blockT _ _).P _); have kb1 := (h2.get 1 rfl : (blockT _ _).P _); obtain ⟨k0, k1, kf, _⟩ := row_two kb0; obtain ⟨l0, l1, lf, _⟩ := row_two kb1; have H2 := Lib.hid h2; clear h1 h2 kb0 kb1)
    have h5 := Sep.two_set (j := 1) H2.out rfl (.int .i64 0) (.int .i64 0)
    refine bodyPost_ret (results_2 rfl (.row (by rfl) (h5.get 1 rfl : (blockT _ _).P _) Try.underlying28 rfl (by kernel_rfl)) (.tmp 3 rfl)) rfl ?_
    exact ⟨rfl, L, bk, HF.out.1, by rw [HF.out.2]; exact h5.tail.tail⟩
  | cons x N =>
    obtain ⟨xi, xk⟩ := x
    have hlt : xi < A.slots := ho.lt _ _ ((hM.mem xi xk).2 (by simp))
    have hrem : A.remA (xi : Int) = A.popA := by
      have hk := (hM.mem xi xk).2 (by simp)
      rw [hM.popA_cons]
      unfold Hp.remA; rw [if_pos ⟨by omega, by omega, by simp [hk]⟩]; simp
    have HREM := Lib.hid (fun (w1 : World) (bb : Nat) (o1 o2 : Obj) (h1 : Sep w0 w1 (blockT bb o1 :: blockT w.heap.size o2 :: l)) => Sep.r4Remove (i := i + 2) h1 (by simpa using hi) hs ho hA (xi : Int))
    have HR := Lib.hid hrem
    clear h hi hs ho hM h0 hi0 hrem
    go_enter Try.func55, Try.ntmps55
    go_wp2_with (first
      | (go_at_call 54; refine (HREM.out _ _ _ _ H2.out).mono ?_; rintro r w3 ⟨rfl, L3, bk3, q1, h3⟩; simp only [List.set_cons_succ] at h3; have kb0 := (h3.get 0 rfl : (blockT _ _).P _); have kb1 := (h3.get 1 rfl : (blockT _ _).P _); obtain ⟨m0, m1, mf, _⟩ := row_two kb0; obtain ⟨n0, n1, nf, _⟩ := row_two kb1; rw [HR.out] at q1; have H3 := Lib.hid (And.intro q1 h3); clear q1 h3 kb0 kb1)
      | (go_at_call 79; refine HMIN.out.mono ?_; rintro r w1 ⟨rfl, h1, _⟩; simp only [List.head?_cons, minV, entV]; have h2 := h1.add ((Below.refl _ _).alloc (Nat.le_refl _) (.cells #[.int .i64 (xi : Int), .int .i64 xk] 28)) (blockT w1.heap.size (.cells #[.int .i64 (xi : Int), .int .i64 xk] 28)) (heap_alloc_new _ _) (by rintro q rfl; exact Nat.le_refl _); have kb0 := (h2.get 0 rfl : (blockT _ _).P _); have kb1 := (h2.get 1 rfl : (blockT _ _).P _); obtain ⟨k0, k1, kf, _⟩ := row_two kb0; obtain ⟨l0, l1, lf, _⟩ := row_two kb1; have H2 := Lib.hid h2; clear h1 h2 kb0 kb1))
    have h5 := Sep.two_set (j := 1) H3.out.2 rfl (.int .i64 (xi : Int)) (.int .i64 xk)
    refine bodyPost_ret (results_2 rfl (.row (by rfl) (h5.get 1 rfl : (blockT _ _).P _) Try.underlying28 rfl (by kernel_rfl)) (.tmp 3 rfl)) rfl ?_
    exact ⟨rfl, L3, bk3, H3.out.1, h5.tail.tail⟩
end
end Go.Proofs.Ytmlbacbcdjfioaa
