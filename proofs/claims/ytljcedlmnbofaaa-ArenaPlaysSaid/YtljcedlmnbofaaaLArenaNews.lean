/- seepagelaw02.ArenaNews returns true for all numbers of slots and all slots. No condition. -/
import Derived.Test.YtljcedlmnbofaaaL2Agree
namespace Go.Proofs.Ytljcedlmnbofaaa
open Go.ChangeShapes Go.WideShapes Go.ChangeAt Go.RowKit

/-- Both are nil: they agree. -/
theorem l2agree_nil (w : World) (i : Int) :
    Calls Try.prog 23 #[.pointer none, .pointer none, .int .i64 i] w fun e w' => e = .returned (.bool true) ∧ Below w.heap.size w w' := by
  have n0 : ∀ w, NoArena w none := fun w => Or.inl rfl
  have N0 := Lib.hid n0
  have HI : ∀ w : World, IntsIn w .i64 none 0 0 [] := fun w => ⟨rfl, Nat.le_refl _, by omega, fun i hi => absurd hi (Nat.not_lt_zero _), by simp⟩
  have HS := Lib.hid (fun w => l2same_any (HI w) (HI w))
  clear n0 HI
  go_enter Try.func23, Try.ntmps23
  go_wp2_with (first
    | (go_at_call 17; refine (xNext (N0.out _)).mono ?_; rintro e w' ⟨rfl, rfl⟩)
    | (go_at_call 32; refine (yNext _).mono ?_; rintro e w' ⟨rfl, rfl⟩)
    | (go_at_call 15; refine (xUsed (N0.out _) i).mono ?_; rintro e w' ⟨rfl, rfl⟩)
    | (go_at_call 33; refine (yUsed _ i).mono ?_; rintro e w' ⟨rfl, rfl⟩)
    | (go_at_call 19; refine (xTimes (N0.out _) i).mono ?_; rintro e w' ⟨rfl, rfl⟩)
    | (go_at_call 34; refine (yTimes _ i).mono ?_; rintro e w' ⟨rfl, rfl⟩)
    | (go_at_call 20; refine (xLen (N0.out _)).mono ?_; rintro e w' ⟨rfl, rfl⟩)
    | (go_at_call 35; refine (yLen _).mono ?_; rintro e w' ⟨rfl, rfl⟩)
    | (go_at_call 25; refine (xCap (N0.out _)).mono ?_; rintro e w' ⟨rfl, rfl⟩)
    | (go_at_call 36; refine (yCap _).mono ?_; rintro e w' ⟨rfl, rfl⟩)
    | (go_at_call 24; refine (xList (N0.out _)).mono ?_; rintro e w' ⟨rfl, rfl⟩)
    | (go_at_call 37; refine (yList _).mono ?_; rintro e w' ⟨rfl, rfl⟩)
    | (go_at_call 26; refine (HS.out _).mono ?_; rintro e w' ⟨rfl, n, rfl⟩))
  go_ret
  exact ⟨by simp, Below.drewN_self w n⟩

/-- Two new ones. -/
theorem both_new {w w1 w2 : World} {b lb b2 : Nat} {vi vc vr : Value} {n : Nat} (hlt : lb < w1.heap.size) (ha : ArenaAt w1 b lb (Ar.new n)) (hb : w.heap.size ≤ b) (hl : w.heap.size ≤ lb) (hbel : Below w.heap.size w w1)
    (hr : RefAt w1.heap.size w2 b2 vi vc vr (Ar.new n)) (hb2 : Below w1.heap.size w1 w2) : Both w w2 b lb b2 vi vc vr (Ar.new n) := by
  have a1 : AIn w w1 b lb (Ar.new n) := ⟨ha, hb, hl, hlt, hbel⟩
  have hs := hbel.size
  have hb1 := ha.b_lt
  refine ⟨a1.below hb2, ?_, ?_, ?_⟩
  · have base : ∀ {e m : Nat} {v : Value} {xs : List Value}, w2.ownsRow w1.heap.size e 1 v m xs → w2.ownsRow w.heap.size e 1 v m xs := fun h => ⟨h.1, by
      rcases h.2 with hv | ⟨g, cap, cur, hv, hg, r⟩
      · exact Or.inl hv
      · exact Or.inr ⟨g, cap, cur, hv, by omega, r⟩⟩
    have := hr.hb
    exact ⟨hr.ok, by omega, hr.c0, hr.c1, hr.c2, hr.c3, hr.c4, hr.fz, base hr.oi, base hr.oc, base hr.ox, hr.ni, hr.nc, hr.nx, hr.ic, hr.ix, hr.cx⟩
  · intro k hk
    have := hr.foot hk
    omega
  · intro i _
    simp [Ar.new]

namespace ArenaNews
set_option maxHeartbeats 1000000 in
theorem walk (n : Int) (hn : -9223372036854775808 ≤ n ∧ n ≤ 9223372036854775807) (i : Int) (hi : -9223372036854775808 ≤ i ∧ i ≤ 9223372036854775807) (w : World) :
    Calls Try.prog 5 #[.int .i64 n, .int .i64 i] w fun e w' => e = .returned (.bool true) ∧ Below w.heap.size w w' := by
  by_cases h : 0 ≤ n ∧ n ≤ 65536
  · obtain ⟨m, rfl⟩ := Int.eq_ofNat_of_zero_le h.1
    have hm : m ≤ 65536 := by omega
    have HN := Lib.hid (aNew_ok2 m w hm)
    have HR := Lib.hid (fun w => rNew_ok m w hm)
    clear h
    go_enter Try.func5, Try.ntmps5
    go_wp2_with fail
    refine HN.out.mono ?_
    rintro e w1 ⟨b, lb, rfl, a0, hb, hl, hlt, hbel⟩
    have HA := Lib.hid (And.intro a0 (And.intro hb (And.intro hl (And.intro hlt hbel))))
    clear a0 hb hl hlt hbel
    go_wp2_with fail
    refine (HR.out w1).mono ?_
    rintro e w2 ⟨b2, vi, vc, vr, rfl, r0, hb2⟩
    have HB : Hid (Both w w2 b lb b2 vi vc vr (Ar.new m)) := both_new HA.out.2.2.2.1 HA.out.1 HA.out.2.1 HA.out.2.2.1 HA.out.2.2.2.2 r0 hb2
    clear r0 hb2
    go_wp2_with fail
    refine (l2agree_any HB.out i).mono ?_
    rintro e w3 ⟨rfl, hb3⟩
    have B3 := Lib.hid (HB.out.a.bel.trans (hb3.mono HB.out.a.bel.size))
    clear hb3
    go_wp2_with (go_at_call 13; refine (l2works_true _).mono ?_; rintro e w4 ⟨rfl, hb⟩; have HW := Lib.hid hb; clear hb)
    go_ret
    exact ⟨by simp, B3.out.trans (HW.out.mono B3.out.size)⟩
  · have HN := Lib.hid (aNew_bad n w (by omega))
    have HR := Lib.hid (rNew_bad n w (by omega))
    clear h
    go_enter Try.func5, Try.ntmps5
    go_wp2_with fail
    refine HN.out.mono ?_
    rintro e w1 ⟨rfl, rfl⟩
    go_wp2_with fail
    refine HR.out.mono ?_
    rintro e w1 ⟨rfl, rfl⟩
    go_wp2_with fail
    refine (l2agree_nil w i).mono ?_
    rintro e w3 ⟨rfl, hb3⟩
    have B3 := Lib.hid hb3
    clear hb3
    go_wp2_with (go_at_call 13; refine (l2works_true _).mono ?_; rintro e w4 ⟨rfl, hb⟩; have HW := Lib.hid hb; clear hb)
    go_ret
    exact ⟨by simp, B3.out.trans (HW.out.mono B3.out.size)⟩
end ArenaNews
end Go.Proofs.Ytljcedlmnbofaaa
