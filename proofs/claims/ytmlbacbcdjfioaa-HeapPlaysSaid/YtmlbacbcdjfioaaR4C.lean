/- R4C: layer 4: the document's heap: Change, Copy, Before. -/
import Derived.Test.YtmlbacbcdjfioaaR4B
set_option linter.unusedSimpArgs false
set_option linter.unusedVariables false
namespace Go.Proofs.Ytmlbacbcdjfioaa
open Go.ChangeShapes Go.WideShapes Go.ChangeAt Go.RowKit

section
variable {w0 w : World} {l : List Thing} {i g n : Nat} {A : Hp} {L : List Ent} {bk : Option Nat} {B : Nat} {v : Value}
theorem Ref4.below {w' : World} (h : Ref4 B w g n v L) (hb : Below w.heap.size w w') : Ref4 B w' g n v L :=
  ⟨(hb.block g (row_three h.row).2.2.2.2).trans h.row, owns_same h.own (fun q hq => hb.block q (h.own.lt q hq).2), h.ns, h.hl, h.ne⟩
theorem Ref4.all (h : Ref4 B w g n v L) : Calls Try.prog 86 #[v, .int .i64 (-1)] w fun r w' => ∃ v', r = .returned v' ∧ w'.ownsRow w.heap.size 28 2 v' L.length (flat L.length (entAt L)) ∧ Below w.heap.size w w' := by
  obtain ⟨a, cap, rfl, he⟩ := h.list
  have := r4Without_any he (by have := h.hl; have := h.ns; omega) (-1) (by omega)
  rwa [dropAt_neg] at this
set_option maxHeartbeats 1000000
set_option maxRecDepth 100000
theorem Sep.r4Change (h : Sep w0 w l) (hi : l[i]? = some (ref4T w0.heap.size g n L bk)) (hs : Lst A L) (ho : A.Ok) (hA : A.slots = n) (k x : Int) (hx : -9223372036854775808 ≤ x ∧ x ≤ 9223372036854775807) :
    Calls Try.prog 53 #[.pointer (some ⟨g, 0, none⟩), .int .i64 k, .int .i64 x] w fun r w' => r = .returned (.int .i64 (A.remE k)) ∧ ∃ L' bk', Lst (A.chgA k x) L' ∧ Sep w0 w' (l.set i (ref4T w0.heap.size g n L' bk')) := by
  have HREM := Lib.hid (h.r4Remove hi hs ho hA k)
  rcases A.rem_cases k with ⟨hE, hR, hC, _⟩ | ⟨j, u, hj, hjs, hjk, hE, hR, hC⟩
  · have HR := Lib.hid (show A.chgA k x = A.remA k by rw [hC, hR])
    clear h hi hs ho hC hR
    rcases hE with hE | hE
    all_goals
      have HE := Lib.hid hE
      rw [hE] at HREM
      clear hE
      go_enter Try.func53, Try.ntmps53
      go_wp2_with (go_at_call 54; refine HREM.out.mono ?_; rintro r w1 ⟨rfl, h⟩; have H1 := Lib.hid h; clear h)
      go_ret
      refine ⟨by rw [HE.out]; rfl, ?_⟩
      rw [HR.out]
      exact H1.out
  · subst hj
    rw [hE] at HREM ⊢
    have HP := Lib.hid (show (A.del j).pushE (j : Int) = 0 ∧ (A.del j).pushA (j : Int) x = A.put j x by
        constructor
        · unfold Hp.pushE; rw [if_pos ⟨by omega, by show (j : Int) < A.slots; omega⟩]; simp [Hp.del]
        · unfold Hp.pushA; rw [if_pos ⟨by omega, by show (j : Int) < A.slots; omega, by simp [Hp.del]⟩, Int.toNat_natCast, Hp.del_put])
    have HI := Lib.hid (List.getElem?_eq_some_iff.1 hi).1
    have HPUSH := Lib.hid (fun (w1 : World) (L1 : List Ent) (bk1 : Option Nat) (h1 : Lst (A.remA (j : Int)) L1) (h2 : Sep w0 w1 (l.set i (ref4T w0.heap.size g n L1 bk1))) => by
      rw [hR] at h1
      have := Sep.r4Push (i := i) h2 (by rw [List.getElem?_set_self HI.out]) h1 (Hp.del_ok ho j) hA (j : Int) x hx
      rw [HP.out.1, HP.out.2] at this
      exact this)
    have HC := Lib.hid (hC x)
    clear h hi hs ho hC hR hE
    go_enter Try.func53, Try.ntmps53
    go_wp2_with (first
      | (go_at_call 52; refine (HPUSH.out _ _ _ H1.out.1 H1.out.2).mono ?_; rintro r w2 ⟨rfl, h⟩; have H2 := Lib.hid h; clear h)
      | (go_at_call 54; refine HREM.out.mono ?_; rintro r w1 ⟨rfl, L1, bk1, h1, h2⟩; have H1 := Lib.hid (And.intro h1 h2); clear h1 h2))
    go_ret
    obtain ⟨L2, bk2, h1, h2⟩ := H2.out
    refine ⟨by simp, L2, bk2, by rw [HC.out]; exact h1, ?_⟩
    rwa [List.set_set] at h2

theorem r4Copy_any (h : Ref4 B w g n v L) : Calls Try.prog 56 #[.pointer (some ⟨g, 0, none⟩)] w fun r w' => ∃ g' v', r = .returned (.pointer (some ⟨g', 0, none⟩)) ∧ Ref4 w.heap.size w' g' n v' L ∧ w.heap.size ≤ g' ∧ Below w.heap.size w w' := by
  obtain ⟨c0, c1, c2, cf, hg⟩ := row_three h.row
  have HV := Lib.hid (r4Valid_any h)
  have HW := Lib.hid (fun (w1 : World) (hb : Below w.heap.size w w1) => (h.below hb).all)
  have HN := Lib.hid (And.intro h.ns h.hl)
  have HB0 := Lib.hid ((Below.refl w.heap.size w).drew)
  obtain ⟨a, cap, rfl, _⟩ := h.list
  clear h
  go_enter Try.func56, Try.ntmps56
  go_wp2_with (go_at_call 84; refine HV.out.mono ?_; rintro r wz ⟨rfl, rfl⟩)
  go_region_held3 (fun w' => w'.cell? ⟨g, 1, none⟩ = some (.int .i64 n) ∧ w'.cell? ⟨g, 2, none⟩ = some (.slice a L.length cap)) (go_keep)
    (first
      | (go_at_call 86; refine (HW.out _ HB0.out).mono ?_; rintro e w1 ⟨v', rfl, q1, q2⟩; obtain ⟨a', c', rfl⟩ := owns_shape q1; have hb1 := HB0.out.trans q2; have k1 := (hb1.cell (p := ⟨g, 1, none⟩) hg).trans c1; have k2 := (hb1.cell (p := ⟨g, 2, none⟩) hg).trans c2; have HQ := Lib.hid (And.intro q1 hb1); clear q1 q2 hb1))
  go_wp2
  go_ret
  obtain ⟨q1, hb1⟩ := HQ.out
  refine ⟨w1.heap.size, _, by simp, ⟨heap_alloc_new _ _, q1.alloc _, HN.out.1, HN.out.2, fun e => by have := (q1.lt _ e).2; omega⟩, hb1.size, hb1.alloc hb1.size _⟩
theorem Sep.r4Copy (h : Sep w0 w l) (hi : l[i]? = some (ref4T w0.heap.size g n L bk)) :
    Calls Try.prog 56 #[.pointer (some ⟨g, 0, none⟩)] w fun r w' => ∃ g' bk', r = .returned (.pointer (some ⟨g', 0, none⟩)) ∧ Sep w0 w' (ref4T w0.heap.size g' n L bk' :: l) := by
  obtain ⟨v, hv, hr⟩ := h.ref4 i hi
  refine (r4Copy_any hr).mono ?_
  rintro r w' ⟨g', v', rfl, h1, h2, h3⟩
  refine ⟨g', v'.ownBlock, rfl, h.add h3 _ ⟨v', rfl, ⟨h1.row, ownsRow_base h1.own h.size, h1.ns, h1.hl, h1.ne⟩⟩ ?_⟩
  rintro q (rfl | hq)
  · exact h2
  · exact (h1.own.lt q hq).1
end

/-- Before: it lays two blocks. -/
theorem r4Before_any (x y : Ent) (W : World) : Calls Try.prog 95 #[.agg #[.int .i64 (x.1 : Int), .int .i64 x.2], .agg #[.int .i64 (y.1 : Int), .int .i64 y.2]] W fun e w' => e = .returned (.bool (before x y)) ∧ Below W.heap.size W w' := by
  cases hb : before x y with
  | true =>
    rw [before_iff] at hb
    have hc : x.2 < y.2 ∨ (y.2 ≤ x.2 ∧ (x.2 == y.2) = true ∧ (x.1 : Int) < y.1) := by
      rcases hb with h | ⟨h, h2⟩
      · exact Or.inl h
      · exact Or.inr ⟨by omega, by simp [h], by omega⟩
    clear hb
    rcases hc with h1 | ⟨h1, h2, h3⟩
    all_goals
      go_enter Try.func95, Try.ntmps95
      go_wp2
      go_ret
      exact ⟨by first | rfl | (simp; done) | (simp; omega), ((Below.refl _ _).alloc (Nat.le_refl _) _).alloc (by simp) _⟩
  | false =>
    rw [not_before_iff] at hb
    have hc : (y.2 < x.2 ∧ (x.2 == y.2) = false) ∨ (y.2 ≤ x.2 ∧ (x.2 == y.2) = true ∧ (y.1 : Int) ≤ x.1) := by
      rcases hb with h | ⟨h, h2⟩
      · exact Or.inl ⟨h, by simp; omega⟩
      · exact Or.inr ⟨by omega, by simp [h], by omega⟩
    clear hb
    rcases hc with ⟨h1, h2⟩ | ⟨h1, h2, h3⟩
    all_goals
      go_enter Try.func95, Try.ntmps95
      go_wp2
      go_ret
      exact ⟨by first | rfl | (simp; done) | (simp; omega), ((Below.refl _ _).alloc (Nat.le_refl _) _).alloc (by simp) _⟩
end Go.Proofs.Ytmlbacbcdjfioaa
