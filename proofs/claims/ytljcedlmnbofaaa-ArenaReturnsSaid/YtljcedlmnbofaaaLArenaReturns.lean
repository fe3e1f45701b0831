/- seepagelaw02.ArenaReturns returns true for every number of slots, every list of bytes and every slot; its arguments read as before. No condition. -/
import Derived.Test.YtljcedlmnbofaaaLArenaCounts
namespace Go.Proofs.Ytljcedlmnbofaaa
open Go.ChangeShapes Go.WideShapes Go.ChangeAt Go.RowKit
namespace ArenaReturns

theorem back_list {A : Ar} (h : A.Ok) {i : Nat} (hu : A.used i = true) : ((A.freed i).take i).list = A.list := by
  have h1 := Ar.freed_ok h hu
  have hn : (A.freed i).next = some i := rfl
  have e : ∀ j, ((A.freed i).take i).used j = A.used j := by
    intro j
    rw [(Ar.take_used h1 hn).2 j, Ar.freed_used hu]
    by_cases e : j = i
    · subst e; simp [hu]
    · simp [e]
  unfold Ar.list Ar.listTo
  rw [show ((A.freed i).take i).slots = A.slots from rfl]
  exact List.filter_congr (fun j _ => by rw [e])

theorem back_next {A : Ar} (i : Nat) : ((A.freed i).take i).next = A.next := by
  simp [Ar.next, Ar.take, Ar.freed]

theorem back_times {A : Ar} {j : Nat} (hj : j < A.slots) (ht : A.times j ≤ 500) : ((A.freed j).take j).timesAt (j : Int) = A.times j + 1 := by
  simp [Ar.timesAt, Ar.take, Ar.freed, hj]
  omega

theorem freed_len {A : Ar} (h : A.Ok) {i : Nat} (hu : A.used i = true) : (A.freed i).list.length + 1 = A.list.length := by
  have h1 := Ar.list_len (Ar.freed_ok h hu)
  have h2 := Ar.list_len h
  simp only [Ar.freed, List.length_cons] at h1
  simp only [Ar.freed]
  omega

def nextI (o : Option Nat) : Int := match o with | some i => i | none => 0
theorem optNat_eq (o : Option Nat) : optNat o = .tuple #[.int .i64 (nextI o), .bool o.isSome] := by cases o <;> rfl

set_option maxRecDepth 100000 in
set_option maxHeartbeats 2000000 in
theorem walk (slots : Nat) (hs : slots < 256) (a : Option Addr) (len cap : Nat) (zs : List Int) (i : Int) (hi : -9223372036854775808 ≤ i ∧ i ≤ 9223372036854775807) (w : World) (hin : IntsIn w .u8 a len cap zs) :
    Calls Try.prog 8 #[.int .u8 slots, .slice a len cap, .int .i64 i] w fun e w' => e = .returned (.bool true) ∧ Below w.heap.size w w' := by
  have HP := Lib.hid (l2play_in slots hs a len cap zs w hin)
  clear hin
  go_enter Try.func8, Try.ntmps8
  go_wp2_with fail
  refine HP.out.mono ?_
  rintro e w1 ⟨b, lb, s, rfl, ha, hinv⟩
  obtain ⟨A, allocs, frees⟩ := s
  have HA := Lib.hid ha
  have HI := Lib.hid hinv
  have hslots := ha.ar.ok.slots
  have hb1 := ha.ar.b_lt
  have hl1 := ha.hlt
  clear ha hinv
  go_wp2_with fail
  refine HA.out.list.mono ?_
  rintro e w2 ⟨la, lc, rfl, hla, hii, ha2, _⟩
  have HA2 := Lib.hid ha2
  have HII := Lib.hid hii
  have HLA := Lib.hid hla
  clear ha2 hii hla
  go_wp2_with fail
  refine (HA2.out.nextOf rfl).mono ?_
  rintro e w3 ⟨rfl, q, rfl⟩
  rw [optNat_eq]
  have HA3 := Lib.hid (HA2.out.drewN q)
  have HII3 := Lib.hid (HII.out.drewN q)
  generalize w2.drewN q = w3 at *
  cases hu : A.usedAt i with
  | false =>
    have HU := Lib.hid (HA3.out.isUsed i hu)
    have HUF := Lib.hid hu
    clear hu
    go_wp2_with fail
    refine HU.out.mono ?_
    rintro e w4 ⟨rfl, rfl⟩
    by_cases hr : 0 ≤ i ∧ i < A.slots
    · obtain ⟨j, rfl⟩ := Int.eq_ofNat_of_zero_le hr.1
      have hj : j < A.slots := by omega
      clear hr
      have HF := Lib.hid (aFree_unused HA3.out.ar j hj (by simpa [Ar.usedAt] using HUF.out))
      go_wp2_with fail
      refine HF.out.mono ?_
      rintro e w4 ⟨rfl, rfl⟩
      go_wp2_with (first
        | (go_at_call 25; refine HA3.out.cap.mono ?_; rintro e w4 ⟨rfl, rfl⟩)
        | (go_at_call 24; refine HA3.out.list.mono ?_; rintro e w4 ⟨la2, lc2, rfl, hla2, hii2, ha4, hb4⟩; have HA4 := Lib.hid ha4; have HS := Lib.hid (l2same_any hii2 (HII3.out.of_below hb4)); clear ha4 hla2 hii2 hb4)
        | (go_at_call 26; refine HS.out.mono ?_; rintro e w5 ⟨rfl, q5, rfl⟩)
        | (go_at_call 13; refine (l2works_true _).mono ?_; rintro e w6 ⟨rfl, hb⟩; have HB := Lib.hid hb; clear hb))
      go_ret
      exact ⟨by simp, (HA4.out.drewN q5).bel.trans (HB.out.mono HA4.out.bel.size)⟩
    · have HF := Lib.hid (aFree_out HA3.out.ar i (by omega))
      go_wp2_with fail
      refine HF.out.mono ?_
      rintro e w4 ⟨rfl, rfl⟩
      have hr2 : i < 0 ∨ (0 ≤ i ∧ A.slots ≤ i) := by omega
      rcases hr2 with hr2 | ⟨hr2, hr3⟩
      all_goals
        go_wp2_with (first
          | (go_at_call 25; refine HA3.out.cap.mono ?_; rintro e w4 ⟨rfl, rfl⟩)
          | (go_at_call 24; refine HA3.out.list.mono ?_; rintro e w4 ⟨la2, lc2, rfl, hla2, hii2, ha4, hb4⟩; have HA4 := Lib.hid ha4; have HS := Lib.hid (l2same_any hii2 (HII3.out.of_below hb4)); clear ha4 hla2 hii2 hb4)
          | (go_at_call 26; refine HS.out.mono ?_; rintro e w5 ⟨rfl, q5, rfl⟩)
          | (go_at_call 13; refine (l2works_true _).mono ?_; rintro e w6 ⟨rfl, hb⟩; have HB := Lib.hid hb; clear hb))
        go_ret
        exact ⟨by first | (simp; done) | (simp; omega), (HA4.out.drewN q5).bel.trans (HB.out.mono HA4.out.bel.size)⟩
  | true =>
    have HU := Lib.hid (HA3.out.isUsed i hu)
    have hi0 : 0 ≤ i := by
      simp only [Ar.usedAt, Bool.and_eq_true, decide_eq_true_eq] at hu
      exact hu.1
    obtain ⟨j, rfl⟩ := Int.eq_ofNat_of_zero_le hi0
    have huj : A.used j = true := by simpa [Ar.usedAt] using hu
    have hok := HA3.out.ar.ok
    have hjs : j < A.slots := by
      simp only [Ar.used, decide_eq_true_eq] at huj
      have := hok.fresh
      omega
    have htimes : A.times j ≤ 500 := by
      have h1 := HI.out.sum
      have h2 := HI.out.most
      have h3 := HI.out.slots
      simp only at h1 h2 h3
      have := sumTo_le A.times (show j < 1 + slots % 40 by omega)
      omega
    have HT := Lib.hid (HA3.out.timesOf (j : Int) (show A.timesAt (j : Int) = A.times j by simp [Ar.timesAt, hjs]))
    have HFR := Lib.hid (HA3.out.free huj)
    have HUJ := Lib.hid huj
    have HOK := Lib.hid hok
    have HFL := Lib.hid (freed_len hok huj)
    have HLEN := Lib.hid (Ar.list_len (Ar.freed_ok hok huj))
    have hfl1 := HFL.out
    have hll := Ar.list_len hok
    have hof := hok.fresh
    clear hu huj hok
    go_wp2_with fail
    refine HU.out.mono ?_
    rintro e w4 ⟨rfl, rfl⟩
    go_wp2_with fail
    refine HT.out.mono ?_
    rintro e w4 ⟨rfl, rfl⟩
    go_wp2_with fail
    refine HFR.out.mono ?_
    rintro e w4 ⟨rfl, ha4, hu4⟩
    have HA4 := Lib.hid ha4
    have HII4 := Lib.hid (HII3.out.of_upd hu4 (fun ad had e => by have := HLA.out ad had; omega))
    have HU4 := Lib.hid (ha4.isUsed (j : Int) (show (A.freed j).usedAt (j : Int) = false by simp [Ar.usedAt, Ar.freed_used HUJ.out]))
    have HL4 : Hid (Calls Try.prog 20 #[.pointer (some ⟨b, 0, none⟩)] w4 fun e w' => e = .returned (.int .i64 ((A.list.length : Int) - 1)) ∧ w4 = w') := by
      have := ha4.len
      have e1 := HLEN.out
      rwa [show (((A.freed j).fresh : Int) - ((A.freed j).stack.length : Int)) = (A.list.length : Int) - 1 by omega] at this
    clear ha4 hu4
    go_wp2_with (first
      | (go_at_call 15; refine HU4.out.mono ?_; rintro e w5 ⟨rfl, rfl⟩)
      | (go_at_call 20; refine HL4.out.mono ?_; rintro e w5 ⟨rfl, rfl⟩))
    refine (HA4.out.nextOf (show (A.freed j).next = some j from rfl)).mono ?_
    rintro e w5 ⟨rfl, r, rfl⟩
    have HA5 := Lib.hid (HA4.out.drewN r)
    have HII5 := Lib.hid (HII4.out.drewN r)
    simp only [optNat]
    generalize w4.drewN r = w5 at *
    go_wp2_with fail
    refine (HA5.out.alloc (show (A.freed j).next = some j from rfl)).mono ?_
    rintro e w6 ⟨rfl, ha6, hu6⟩
    have HA6 := Lib.hid ha6
    have HII6 := Lib.hid (HII5.out.of_upd hu6 (fun ad had e => by have := HLA.out ad had; omega))
    clear ha6 hu6
    go_wp2_with fail
    refine (HA6.out.nextOf (back_next j)).mono ?_
    rintro e w7 ⟨rfl, r2, rfl⟩
    have HA7 := Lib.hid (HA6.out.drewN r2)
    have HII7 := Lib.hid (HII6.out.drewN r2)
    rw [optNat_eq]
    generalize w6.drewN r2 = w7 at *
    have HT7 := Lib.hid (HA7.out.timesOf (j : Int) (back_times hjs htimes))
    have HBL := Lib.hid (back_list HOK.out HUJ.out)
    go_wp2_with (first
      | (go_at_call 19; refine HT7.out.mono ?_; rintro e w8 ⟨rfl, rfl⟩)
      | (go_at_call 24; refine HA7.out.list.mono ?_; rintro e w8 ⟨la2, lc2, rfl, hla2, hii2, ha8, hb8⟩; rw [HBL.out] at hii2; rw [HBL.out]; have HA8 := Lib.hid ha8; have HS := Lib.hid (l2same_any hii2 (HII7.out.of_below hb8)); clear ha8 hla2 hii2 hb8)
      | (go_at_call 26; refine HS.out.mono ?_; rintro e w9 ⟨rfl, q5, rfl⟩)
      | (go_at_call 13; refine (l2works_true _).mono ?_; rintro e w10 ⟨rfl, hb⟩; have HB := Lib.hid hb; clear hb))
    go_ret
    exact ⟨by simp, (HA8.out.drewN q5).bel.trans (HB.out.mono HA8.out.bel.size)⟩
end ArenaReturns
end Go.Proofs.Ytljcedlmnbofaaa
