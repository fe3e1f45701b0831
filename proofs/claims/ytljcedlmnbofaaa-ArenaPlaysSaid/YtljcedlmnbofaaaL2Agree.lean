/- L2Agree: an arena and the document's in the same state agree. -/
import Derived.Test.YtljcedlmnbofaaaRef2N
import Derived.Test.YtljcedlmnbofaaaL2Plain
namespace Go.Proofs.Ytljcedlmnbofaaa
open Go.ChangeShapes Go.WideShapes Go.ChangeAt Go.RowKit

/-- An arena and the document's, both made by the call that began in w0, in the same state. -/
structure Both (w0 w : World) (b lb b2 : Nat) (vi vc vr : Value) (A : Ar) : Prop where
  a : AIn w0 w b lb A
  r : RefAt w0.heap.size w b2 vi vc vr A
  d : ∀ k, RFoot b2 vi vc vr k → k ≠ b ∧ k ≠ lb
  t : A.TimesOk

section
variable {w0 w w' : World} {b lb b2 : Nat} {vi vc vr : Value} {A : Ar}
theorem Both.below (h : Both w0 w b lb b2 vi vc vr A) (hb : Below w.heap.size w w') : Both w0 w' b lb b2 vi vc vr A := ⟨h.a.below hb, h.r.below hb, h.d, h.t⟩
theorem Both.drewN (h : Both w0 w b lb b2 vi vc vr A) (n : Nat) : Both w0 (w.drewN n) b lb b2 vi vc vr A := ⟨h.a.drewN n, h.r.drewN n, h.d, h.t⟩
theorem Below.drewN_self (w : World) (n : Nat) : Below w.heap.size w (w.drewN n) := ⟨rfl, rfl, rfl, Nat.le_refl _, fun _ _ => rfl⟩

theorem rList_in (h : RefAt w0.heap.size w b vi vc vr A) :
    Calls Try.prog 37 #[.pointer (some ⟨b, 0, none⟩)] w fun e w' => ∃ a cap, e = .returned (.slice a A.list.length cap) ∧ IntsIn w' .i64 a A.list.length cap (A.list.map fun (x : Nat) => (x : Int)) ∧ Below w.heap.size w w' :=
  (rList_any h).mono fun e w' ⟨v, he, ho, hb⟩ => by
    obtain ⟨a, cap, rfl, h1, h2⟩ := ints_of_owns ho (fun x hx => by
      have := h.ok.slots
      have : x < A.slots := by simpa using (List.mem_filter.1 hx).1
      omega)
    exact ⟨a, cap, he, h2, hb⟩

set_option maxRecDepth 100000 in
set_option maxHeartbeats 2000000 in
theorem l2agree_any (h : Both w0 w b lb b2 vi vc vr A) (i : Int) :
    Calls Try.prog 23 #[.pointer (some ⟨b, 0, none⟩), .pointer (some ⟨b2, 0, none⟩), .int .i64 i] w fun e w' => e = .returned (.bool true) ∧ Below w.heap.size w w' := by
  have H := Lib.hid h
  have hs := h.a.ar.ok.slots
  have hll := Ar.list_len h.a.ar.ok
  have hfs := h.a.ar.ok.fresh
  have hl : (A.fresh : Int) - (A.stack.length : Int) = (A.list.length : Int) := by omega
  have hlm : A.list.length ≤ 65536 := by omega
  clear h hll hfs
  go_enter Try.func23, Try.ntmps23
  go_wp2_with fail
  refine (H.out.a.nextOf rfl).mono ?_
  rintro e w1 ⟨rfl, n1, rfl⟩
  have H1 := Lib.hid (H.out.drewN n1)
  have B1 := Lib.hid (Below.drewN_self w n1)
  rw [optNat_eq]
  generalize w.drewN n1 = w1 at *
  go_wp2_with fail
  refine (rNext_any H1.out.r H1.out.t).mono ?_
  rintro e w2 ⟨rfl, n2, rfl⟩
  have H2 := Lib.hid (H1.out.drewN n2)
  have B2 := Lib.hid (B1.out.trans ((Below.drewN_self w1 n2).mono B1.out.size))
  rw [optNat_eq]
  generalize w1.drewN n2 = w2 at *
  generalize nextI A.next = x at *
  generalize A.next.isSome = y at *
  go_wp2_with fail
  refine (H2.out.a.isUsed i rfl).mono ?_
  rintro e w3 ⟨rfl, rfl⟩
  go_wp2_with fail
  refine (rUsed_any H2.out.r i).mono ?_
  rintro e w3 ⟨rfl, rfl⟩
  generalize A.usedAt i = u at *
  go_wp2_with fail
  refine (H2.out.a.timesOf i rfl).mono ?_
  rintro e w3 ⟨rfl, rfl⟩
  go_wp2_with fail
  refine (rTimes_any H2.out.r i).mono ?_
  rintro e w3 ⟨rfl, rfl⟩
  generalize A.timesAt i = t at *
  go_wp2_with fail
  refine H2.out.a.len.mono ?_
  rintro e w3 ⟨rfl, rfl⟩
  go_wp2_with fail
  refine (rLen_any H2.out.r).mono ?_
  rintro e w3 ⟨rfl, hb⟩
  have H3 := Lib.hid (H2.out.below hb)
  have B3 := Lib.hid (B2.out.trans (hb.mono B2.out.size))
  clear hb
  go_wp2_with fail
  refine H3.out.a.cap.mono ?_
  rintro e w4 ⟨rfl, rfl⟩
  go_wp2_with fail
  refine (rCap_any H3.out.r).mono ?_
  rintro e w4 ⟨rfl, rfl⟩
  go_wp2_with fail
  refine H3.out.a.list.mono ?_
  rintro e w4 ⟨a1, c1, rfl, _, hi1, _, hb⟩
  have H4 := Lib.hid (H3.out.below hb)
  have B4 := Lib.hid (B3.out.trans (hb.mono B3.out.size))
  have HI1 := Lib.hid hi1
  clear hb hi1
  go_wp2_with fail
  refine (rList_in H4.out.r).mono ?_
  rintro e w5 ⟨a2, c2, rfl, hi2, hb⟩
  have B5 := Lib.hid (B4.out.trans (hb.mono B4.out.size))
  have HS := Lib.hid (l2same_any (HI1.out.of_below hb) hi2)
  clear hb hi2
  go_wp2_with fail
  refine HS.out.mono ?_
  rintro e w6 ⟨rfl, n6, rfl⟩
  go_wp2
  go_ret
  exact ⟨by simp, B5.out.trans ((Below.drewN_self w5 n6).mono B5.out.size)⟩
end
end Go.Proofs.Ytljcedlmnbofaaa
