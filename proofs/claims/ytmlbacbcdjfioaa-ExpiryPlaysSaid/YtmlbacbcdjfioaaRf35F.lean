/- Rf35F: layer 35: the document's schedule: Set, Copy, with every argument. -/
import Derived.Test.YtmlbacbcdjfioaaRf35E
set_option linter.unusedSimpArgs false
set_option linter.unusedVariables false
namespace Go.Proofs.Ytmlbacbcdjfioaa
open Go.ChangeShapes Go.WideShapes Go.ChangeAt Go.RowKit

section
variable {w0 w : World} {l : List Thing} {i g n : Nat} {A : Hp} {L : List Ent} {bk : Option Nat} {B : Nat} {v : Value}
theorem Sep.same_at (h : Sep w0 w l) {x : Thing} (hi : l[i]? = some x) : Sep w0 w (l.set i x) := h.turnAt i hi (h.get i hi) (fun _ hq => hq)
set_option maxHeartbeats 1000000
theorem Sep.s35Set (h : Sep w0 w l) (hi : l[i]? = some (refT w0.heap.size g n L bk)) (hs : Srt A L) (ho : A.Ok) (ha : A.slots = n) (k x : Int) (hx : -9223372036854775808 ≤ x ∧ x ≤ 9223372036854775807) :
    Calls Try.prog 38 #[.pointer (some ⟨g, 0, none⟩), .int .i64 k, .int .i64 x] w fun r w' => r = .returned (.int .i64 (A.setE k)) ∧ ∃ L' bk', Srt (A.setA k x) L' ∧ Sep w0 w' (l.set i (refT w0.heap.size g n L' bk')) := by
  by_cases hin : 0 ≤ k ∧ k < (n : Int)
  · obtain ⟨q, rfl⟩ := Int.eq_ofNat_of_zero_le hin.1
    have e1 : A.setE (q : Int) = 0 := by unfold Hp.setE; rw [if_pos (by omega)]
    have e2 : A.setA (q : Int) x = A.put q x := by unfold Hp.setA; rw [if_pos (by omega)]; simp
    have := h.s35Set_in hi hs ho ha q (by omega) x hx
    rw [e1, e2]
    exact this
  · obtain ⟨v, hv, hr⟩ := (h.get i hi : (refT _ _ _ _ _).P _)
    have HC0 := s35Check_any hr k
    rw [show chkE n k = 3 from if_neg hin] at HC0
    have HC := Lib.hid HC0
    have HR := Lib.hid (show A.setE k = 3 ∧ A.setA k x = A by
      unfold Hp.setE Hp.setA
      rw [if_neg (by rw [ha]; exact hin), if_neg (by rw [ha]; exact hin)]
      exact ⟨rfl, rfl⟩)
    have HS := Lib.hid (show ∃ L' bk', Srt A L' ∧ Sep w0 w (l.set i (refT w0.heap.size g n L' bk')) from ⟨L, bk, hs, h.same_at hi⟩)
    clear h hi hr hv hs ho ha HC0
    go_enter Try.func38, Try.ntmps38
    go_wp2_with (go_at_call 68; refine HC.out.mono ?_; rintro r wz ⟨rfl, rfl⟩)
    go_ret
    exact ⟨by rw [HR.out.1]; simp, by rw [HR.out.2]; exact HS.out⟩

theorem Ref35.below {w' : World} (h : Ref35 B w g n v L) (hb : Below w.heap.size w w') : Ref35 B w' g n v L :=
  ⟨(hb.block g (row_three h.row).2.2.2.2).trans h.row, owns_same h.own (fun q hq => hb.block q (h.own.lt q hq).2), h.ns, h.hl, h.wf⟩

theorem s35Copy_any (h : Ref35 B w g n v L) : Calls Try.prog 41 #[.pointer (some ⟨g, 0, none⟩)] w fun r w' => ∃ g' v', r = .returned (.pointer (some ⟨g', 0, none⟩)) ∧ Ref35 w.heap.size w' g' n v' L ∧ w.heap.size ≤ g' ∧ Below w.heap.size w w' := by
  obtain ⟨c0, c1, c2, cf, hg⟩ := row_three h.row
  have HV := Lib.hid (s35Valid_any h)
  have HW := Lib.hid (fun (w1 : World) (hb : Below w.heap.size w w1) => s35Without_any (h.below hb) (-1) (by omega))
  have HN := Lib.hid (And.intro h.ns (And.intro h.hl h.wf))
  have HB0 := Lib.hid ((Below.refl w.heap.size w).drew)
  clear h
  go_enter Try.func41, Try.ntmps41
  go_wp2_with (go_at_call 71; refine HV.out.mono ?_; rintro r wz ⟨rfl, rfl⟩)
  go_region_held3 (fun w' => w'.cell? ⟨g, 1, none⟩ = some (.int .i64 n)) (go_keep)
    (first
      | (go_at_call 69; refine (HW.out _ HB0.out).mono ?_; rintro e w1 ⟨v', rfl, q1, q2⟩; obtain ⟨a', c', rfl⟩ := owns_shape q1; have hb1 := HB0.out.trans q2; have k1 := (hb1.cell (p := ⟨g, 1, none⟩) hg).trans c1; have HQ := Lib.hid (And.intro q1 hb1); clear q1 q2 hb1))
  go_wp2
  go_ret
  obtain ⟨q1, hb1⟩ := HQ.out
  have e : dropAt L (-1) = L := by unfold dropAt; rw [if_neg (by omega)]
  rw [e] at q1
  refine ⟨w1.heap.size, _, by simp, ⟨heap_alloc_new _ _, q1.alloc _, HN.out.1, HN.out.2.1, HN.out.2.2⟩, hb1.size, hb1.alloc hb1.size _⟩
theorem Sep.s35Copy (h : Sep w0 w l) (hi : l[i]? = some (refT w0.heap.size g n L bk)) :
    Calls Try.prog 41 #[.pointer (some ⟨g, 0, none⟩)] w fun r w' => ∃ g' bk', r = .returned (.pointer (some ⟨g', 0, none⟩)) ∧ Sep w0 w' (refT w0.heap.size g' n L bk' :: l) := by
  obtain ⟨v, hv, hr⟩ := (h.get i hi : (refT _ _ _ _ _).P _)
  refine (s35Copy_any hr).mono ?_
  rintro r w' ⟨g', v', rfl, h1, h2, h3⟩
  refine ⟨g', v'.ownBlock, rfl, h.add h3 _ ⟨v', rfl, ⟨h1.row, ownsRow_base h1.own h.size, h1.ns, h1.hl, h1.wf⟩⟩ ?_⟩
  rintro q (rfl | hq)
  · exact h2
  · exact (h1.own.lt q hq).1
end
end Go.Proofs.Ytmlbacbcdjfioaa
