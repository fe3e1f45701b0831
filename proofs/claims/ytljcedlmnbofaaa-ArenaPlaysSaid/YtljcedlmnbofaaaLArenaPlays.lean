/- seepagelaw02.ArenaPlays returns true for every number of slots, every script and every slot; its arguments read as before. No condition. -/
import Derived.Test.YtljcedlmnbofaaaLArenaNews
namespace Go.Proofs.Ytljcedlmnbofaaa
open Go.ChangeShapes Go.WideShapes Go.ChangeAt Go.RowKit

section
variable {w0 w w' : World} {b lb b2 : Nat} {vi vc vr vr' : Value} {A : Ar}

theorem Ar.take_timesOk (h : A.Ok) (ht : A.TimesOk) {i : Nat} (hi : A.next = some i) (hm : A.times i < 18446744073709551615) : (A.take i).TimesOk := by
  intro j hj
  have h0 := ht j hj
  have h1 := h.lt
  unfold Ar.next at hi
  simp only [Ar.take]
  split at hi
  · rename_i x s hs
    rw [hs] at h1 ⊢
    simp only [Option.some.injEq] at hi
    subst hi
    have hx := h1 x (by simp)
    simp only [reduceCtorEq, if_false]
    by_cases e : j = x
    · subst e
      rw [if_pos rfl]
      constructor
      · intro h2; omega
      · intro h2; omega
    · rw [if_neg e]; exact h0
  · rename_i hs
    split at hi
    · simp only [Option.some.injEq] at hi
      subst hi
      rw [hs]
      simp only [if_true]
      by_cases e : j = A.fresh
      · subst e
        rw [if_pos rfl]
        constructor
        · intro h2; omega
        · intro h2; omega
      · rw [if_neg e, h0]; omega
    · simp at hi

/-- An allocation in the first, and the same in the second. -/
theorem Both.alloc1 (h : Both w0 w b lb b2 vi vc vr A) {i : Nat} (hi : A.next = some i) :
    Calls Try.prog 18 #[.pointer (some ⟨b, 0, none⟩)] w fun e w' => e = .returned (.tuple #[.int .i64 i, .int .i64 0]) ∧ AIn w0 w' b lb (A.take i) ∧ RefAt w0.heap.size w' b2 vi vc vr A ∧ w.heap.size ≤ w'.heap.size :=
  (h.a.alloc hi).mono fun e w' ⟨he, ha, hu⟩ => ⟨he, ha, h.r.same fun k hk => hu.keep k (h.r.foot hk).2 (fun e => by have := h.d k hk; omega), hu.size⟩
theorem Both.free1 (h : Both w0 w b lb b2 vi vc vr A) {i : Nat} (hi : A.used i = true) :
    Calls Try.prog 16 #[.pointer (some ⟨b, 0, none⟩), .int .i64 i] w fun e w' => e = .returned (.int .i64 0) ∧ AIn w0 w' b lb (A.freed i) ∧ RefAt w0.heap.size w' b2 vi vc vr A ∧ w.heap.size ≤ w'.heap.size :=
  (h.a.free hi).mono fun e w' ⟨he, ha, hu⟩ => ⟨he, ha, h.r.same fun k hk => hu.keep k (h.r.foot hk).2 (fun e => by have := h.d k hk; omega), hu.size⟩

theorem both_second {w1 : World} {A' : Ar} (hd : ∀ k, RFoot b2 vi vc vr k → k ≠ b ∧ k ≠ lb) (hB : ∀ k, RFoot b2 vi vc vr k → w0.heap.size ≤ k) (ha : AIn w0 w1 b lb A') (hr : RefAt w0.heap.size w' b2 vi vc vr' A') (hu : Upd (RFoot b2 vi vc vr) w1 w')
    (hv : ∀ k, vr'.ownBlock = some k → vr.ownBlock = some k ∨ w1.heap.size ≤ k) (ht : A'.TimesOk) : Both w0 w' b lb b2 vi vc vr' A' := by
  have hb1 := ha.ar.b_lt
  have hl1 := ha.hlt
  refine ⟨ha.upd hu (fun k hk => ⟨hB k hk, hd k hk⟩), hr, ?_, ht⟩
  intro k hk
  rcases hk with rfl | hk | hk | hk
  · exact hd _ (Or.inl rfl)
  · exact hd _ (Or.inr (Or.inl hk))
  · exact hd _ (Or.inr (Or.inr (Or.inl hk)))
  · rcases hv k hk with h1 | h1
    · exact hd _ (Or.inr (Or.inr (Or.inr h1)))
    · omega
end

def sk : Nat → IntKind := fun _ => .i64

namespace ArenaPlays
/-- The state at the head of the loop: both nil, or both in the same state, in which no slot was allocated more than k times. -/
def St (w0 wr : World) (pa pr : Option Addr) (k : Nat) : Prop :=
  (pa = none ∧ pr = none ∧ Below w0.heap.size w0 wr) ∨ ∃ b lb b2 vi vc vr A, pa = some ⟨b, 0, none⟩ ∧ pr = some ⟨b2, 0, none⟩ ∧ Both w0 wr b lb b2 vi vc vr A ∧ ∀ i, A.times i ≤ k

theorem St.below {w0 wr w' : World} {pa pr : Option Addr} {k : Nat} (h : St w0 wr pa pr k) (hb : Below wr.heap.size wr w') : St w0 w' pa pr k := by
  rcases h with ⟨h1, h2, h3⟩ | ⟨b, lb, b2, vi, vc, vr, A, h1, h2, h3, h4⟩
  · exact Or.inl ⟨h1, h2, h3.trans (hb.mono h3.size)⟩
  · exact Or.inr ⟨b, lb, b2, vi, vc, vr, A, h1, h2, h3.below hb, h4⟩
theorem St.bel {w0 wr : World} {pa pr : Option Addr} {k : Nat} (h : St w0 wr pa pr k) : Below w0.heap.size w0 wr := by
  rcases h with ⟨_, _, h3⟩ | ⟨b, lb, b2, vi, vc, vr, A, _, _, h3, _⟩
  · exact h3
  · exact h3.a.bel
theorem St.succ {w0 wr : World} {pa pr : Option Addr} {k : Nat} (h : St w0 wr pa pr k) : St w0 wr pa pr (k + 1) := by
  rcases h with h | ⟨b, lb, b2, vi, vc, vr, A, h1, h2, h3, h4⟩
  · exact Or.inl h
  · exact Or.inr ⟨b, lb, b2, vi, vc, vr, A, h1, h2, h3, fun i => Nat.le_succ_of_le (h4 i)⟩
theorem agree {w0 wr : World} {pa pr : Option Addr} {k : Nat} (h : St w0 wr pa pr k) (i : Int) :
    Calls Try.prog 23 #[.pointer pa, .pointer pr, .int .i64 i] wr fun e w' => e = .returned (.bool true) ∧ St w0 w' pa pr k := by
  rcases h with ⟨rfl, rfl, h3⟩ | ⟨b, lb, b2, vi, vc, vr, A, rfl, rfl, h3, h4⟩
  · exact (l2agree_nil wr i).mono fun _ _ ⟨he, hb⟩ => ⟨he, Or.inl ⟨rfl, rfl, h3.trans (hb.mono h3.size)⟩⟩
  · exact (l2agree_any h3 i).mono fun _ _ ⟨he, hb⟩ => ⟨he, Or.inr ⟨b, lb, b2, vi, vc, vr, A, rfl, rfl, h3.below hb, h4⟩⟩
/-- Alloc of both: the same result. -/
theorem alloc {w0 wr : World} {pa pr : Option Addr} {k : Nat} (h : St w0 wr pa pr k) (hk : k < 1000) :
    ∃ x y : Int, Calls Try.prog 18 #[.pointer pa] wr fun e w1 => e = .returned (.tuple #[.int .i64 x, .int .i64 y]) ∧ Calls Try.prog 28 #[.pointer pr] w1 fun e w' => e = .returned (.tuple #[.int .i64 x, .int .i64 y]) ∧ St w0 w' pa pr (k + 1) := by
  rcases h with ⟨rfl, rfl, h3⟩ | ⟨b, lb, b2, vi, vc, vr, A, rfl, rfl, h3, h4⟩
  · exact ⟨0, 1, (xAlloc (Or.inl rfl)).mono fun e w1 ⟨he, hw⟩ => ⟨he, by subst hw; exact (yAlloc wr).mono fun e w' ⟨he, hw⟩ => ⟨he, by subst hw; exact Or.inl ⟨rfl, rfl, h3⟩⟩⟩⟩
  · cases hn : A.next with
    | none =>
      refine ⟨0, 4, (aAlloc_none h3.a.ar hn).mono fun e w1 ⟨he, n, hw⟩ => ⟨he, ?_⟩⟩
      subst hw
      have h5 := h3.drewN n
      exact (rAlloc_none h5.r h5.t hn).mono fun e w' ⟨he, m, hw⟩ => ⟨he, by subst hw; exact (Or.inr ⟨b, lb, b2, vi, vc, vr, A, rfl, rfl, h5.drewN m, fun i => Nat.le_succ_of_le (h4 i)⟩)⟩
    | some i =>
      refine ⟨i, 0, (h3.alloc1 hn).mono fun e w1 ⟨he, ha, hr, hs⟩ => ⟨he, ?_⟩⟩
      refine (rAlloc_some hr h3.t i hn).mono fun e w' ⟨vr', he, hr', hu, hv⟩ => ⟨he, Or.inr ⟨b, lb, b2, vi, vc, vr', A.take i, rfl, rfl, ?_, ?_⟩⟩
      · refine both_second h3.d (fun k hk => (h3.r.foot hk).1) ha hr' hu (fun k hk => ?_) (Ar.take_timesOk h3.a.ar.ok h3.t hn (by have := h4 i; omega))
        rcases hv with e | e
        · rw [e] at hk; cases hk
        · rw [e] at hk; exact Or.inl hk
      · intro j
        simp only [Ar.take]
        by_cases e : j = i
        · rw [if_pos e]; have := h4 i; omega
        · rw [if_neg e]; exact Nat.le_succ_of_le (h4 j)
/-- Free of both: the same result. -/
theorem free {w0 wr : World} {pa pr : Option Addr} {k : Nat} (h : St w0 wr pa pr k) (i : Int) :
    ∃ y : Int, Calls Try.prog 16 #[.pointer pa, .int .i64 i] wr fun e w1 => e = .returned (.int .i64 y) ∧ Below w0.heap.size w0 w1 ∧ Calls Try.prog 29 #[.pointer pr, .int .i64 i] w1 fun e w' => e = .returned (.int .i64 y) ∧ St w0 w' pa pr k := by
  rcases h with ⟨rfl, rfl, h3⟩ | ⟨b, lb, b2, vi, vc, vr, A, rfl, rfl, h3, h4⟩
  · exact ⟨1, (xFree (Or.inl rfl) i).mono fun e w1 ⟨he, hw⟩ => ⟨he, by subst hw; exact h3, by subst hw; exact (yFree wr i).mono fun e w' ⟨he, hw⟩ => ⟨he, by subst hw; exact Or.inl ⟨rfl, rfl, h3⟩⟩⟩⟩
  · by_cases hi : 0 ≤ i ∧ i < A.slots
    · obtain ⟨j, rfl⟩ := Int.eq_ofNat_of_zero_le hi.1
      have hj : j < A.slots := by omega
      cases hu : A.used j with
      | false =>
        exact ⟨5, (aFree_unused h3.a.ar j hj hu).mono fun e w1 ⟨he, hw⟩ => ⟨he, by subst hw; exact h3.a.bel, by subst hw; exact (rFree_unused h3.r j hj hu).mono fun e w' ⟨he, hw⟩ => ⟨he, by subst hw; exact Or.inr ⟨b, lb, b2, vi, vc, vr, A, rfl, rfl, h3, h4⟩⟩⟩⟩
      | true =>
        refine ⟨0, (h3.free1 hu).mono fun e w1 ⟨he, ha, hr, hs⟩ => ⟨he, ha.bel, ?_⟩⟩
        refine (rFree_used hr j hu).mono fun e w' ⟨vr', he, hr', hu', hv⟩ => ⟨he, Or.inr ⟨b, lb, b2, vi, vc, vr', A.freed j, rfl, rfl, ?_, h4⟩⟩
        exact both_second h3.d (fun k hk => (h3.r.foot hk).1) ha hr' hu' hv h3.t
    · have hi2 : i < 0 ∨ (A.slots : Int) ≤ i := by omega
      exact ⟨3, (aFree_out h3.a.ar i hi2).mono fun e w1 ⟨he, hw⟩ => ⟨he, by subst hw; exact h3.a.bel, by subst hw; exact (rFree_out h3.r i hi2).mono fun e w' ⟨he, hw⟩ => ⟨he, by subst hw; exact Or.inr ⟨b, lb, b2, vi, vc, vr, A, rfl, rfl, h3, h4⟩⟩⟩⟩
/-- Copy of both. -/
theorem copy {w0 wr : World} {pa pr : Option Addr} {k : Nat} (h : St w0 wr pa pr k) :
    Calls Try.prog 27 #[.pointer pa] wr fun e w1 => ∃ pa', e = .returned (.pointer pa') ∧ Calls Try.prog 30 #[.pointer pr] w1 fun e w' => ∃ pr', e = .returned (.pointer pr') ∧ St w0 w' pa' pr' k := by
  rcases h with ⟨rfl, rfl, h3⟩ | ⟨b, lb, b2, vi, vc, vr, A, rfl, rfl, h3, h4⟩
  · exact (xCopy (Or.inl rfl)).mono fun e w1 ⟨he, hw⟩ => ⟨none, he, by subst hw; exact (yCopy wr).mono fun e w' ⟨he, hw⟩ => ⟨none, he, by subst hw; exact Or.inl ⟨rfl, rfl, h3⟩⟩⟩
  · refine (aCopy_any h3.a.ar).mono fun e w1 ⟨b', lb', he, ha, h5, h6, h7, hb⟩ => ⟨some ⟨b', 0, none⟩, he, ?_⟩
    have hs := h3.a.bel.size
    have a1 : AIn w0 w1 b' lb' A := ⟨ha, by omega, by omega, h7, h3.a.bel.trans (hb.mono hs)⟩
    refine (rCopy_any (h3.r.below hb)).mono fun e w' ⟨b2', vi', vc', vr', he, hr, hb2⟩ => ⟨some ⟨b2', 0, none⟩, he, Or.inr ⟨b', lb', b2', vi', vc', vr', A, rfl, rfl, ?_, h4⟩⟩
    have hs1 := hb.size
    have hb1 := ha.b_lt
    have base : ∀ {e m : Nat} {v : Value} {xs : List Value}, w'.ownsRow w1.heap.size e 1 v m xs → w'.ownsRow w0.heap.size e 1 v m xs := fun h => ⟨h.1, by
      rcases h.2 with hv | ⟨g, cap, cur, hv, hg, r⟩
      · exact Or.inl hv
      · exact Or.inr ⟨g, cap, cur, hv, by omega, r⟩⟩
    have := hr.hb
    refine ⟨a1.below hb2, ⟨hr.ok, by omega, hr.c0, hr.c1, hr.c2, hr.c3, hr.c4, hr.fz, base hr.oi, base hr.oc, base hr.ox, hr.ni, hr.nc, hr.nx, hr.ic, hr.ix, hr.cx⟩, ?_, h3.t⟩
    intro k hk
    have := hr.foot hk
    omega

set_option maxRecDepth 100000 in
set_option maxHeartbeats 4000000 in
theorem walk (n : Int) (hn : -9223372036854775808 ≤ n ∧ n ≤ 9223372036854775807) (a : Option Addr) (len cap : Nat) (zs : Nat → Nat → Int) (i : Int) (hi : -9223372036854775808 ≤ i ∧ i ≤ 9223372036854775807) (w : World) (hin : RowsIn w 2 sk a len cap zs) :
    Calls Try.prog 10 #[.int .i64 n, .slice a len cap, .int .i64 i] w fun e w' => e = .returned (.bool true) ∧ Below w.heap.size w w' := by
  have hle := hin.hle
  have hmax := hin.hmax
  by_cases hbig : 500 < n ∨ 200 < len
  · clear hin
    have hb2 : 500 < n ∨ (n ≤ 500 ∧ 200 < len) := by omega
    rcases hb2 with hb2 | ⟨hb2, hb3⟩
    all_goals
      go_enter Try.func10, Try.ntmps10
      go_wp2_with (go_at_call 13; refine (l2works_true _).mono ?_; rintro e w4 ⟨rfl, hb⟩; have HW := Lib.hid hb; clear hb)
      go_ret
      exact ⟨by simp, HW.out⟩
  · have h5 : n ≤ 500 := by omega
    have h2 : len ≤ 200 := by omega
    have HIN := Lib.hid hin
    clear hin hbig
    have start : ∃ p : Int, Calls Try.prog 21 #[.int .i64 n] w fun e w1 => ∃ pa, e = .returned (.tuple #[.pointer pa, .int .i64 p]) ∧ Calls Try.prog 22 #[.int .i64 n] w1 fun e w' => ∃ pr, e = .returned (.tuple #[.pointer pr, .int .i64 p]) ∧ (pa.isNone == pr.isNone) = true ∧ St w w' pa pr 0 := by
      by_cases h : 0 ≤ n ∧ n ≤ 65536
      · obtain ⟨m, rfl⟩ := Int.eq_ofNat_of_zero_le h.1
        have hm : m ≤ 65536 := by omega
        refine ⟨0, (aNew_ok2 m w hm).mono fun e w1 ⟨b, lb, he, ha, hb, hl, hlt, hbel⟩ => ⟨some ⟨b, 0, none⟩, he, ?_⟩⟩
        exact (rNew_ok m w1 hm).mono fun e w' ⟨b2, vi, vc, vr, he, hr, hb2⟩ => ⟨some ⟨b2, 0, none⟩, he, rfl, Or.inr ⟨b, lb, b2, vi, vc, vr, Ar.new m, rfl, rfl, both_new hlt ha hb hl hbel hr hb2, fun _ => Nat.le_refl _⟩⟩
      · exact ⟨2, (aNew_bad n w (by omega)).mono fun e w1 ⟨he, hw⟩ => ⟨none, he, by subst hw; exact (rNew_bad n w (by omega)).mono fun e w' ⟨he, hw⟩ => ⟨none, he, rfl, by subst hw; exact Or.inl ⟨rfl, rfl, Below.refl _ _⟩⟩⟩⟩
    obtain ⟨p, hs⟩ := start
    have HS := Lib.hid hs
    clear hs
    go_enter Try.func10, Try.ntmps10
    go_wp2_with fail
    refine HS.out.mono ?_
    rintro e w1 ⟨pa, rfl, hr⟩
    have HR := Lib.hid hr
    clear hr
    go_wp2_with fail
    refine HR.out.mono ?_
    rintro e w2 ⟨pr, rfl, hxy, hst⟩
    have HST := Lib.hid hst
    clear hst
    go_wp2
    go_loopw [7, 9, 11] (fun va vr vk wr => ∃ k : Nat, ∃ pa pr, k ≤ len ∧ va = .pointer pa ∧ vr = .pointer pr ∧ vk = .int .i64 k ∧ St w wr pa pr k) (fun _ _ vk _ => len - (intOf vk).toNat)
    case atStart => exact ⟨0, pa, pr, Nat.zero_le _, rfl, rfl, rfl, HST.out⟩
    case round =>
      clear hxy HST
      obtain ⟨k, pa, pr, hk, rfl, rfl, rfl, hrel⟩ := hrel
      have HQ := Lib.hid hrel
      clear hrel
      by_cases hlt : k < len
      · obtain ⟨bi, oi, rfl, hbi, hci⟩ := HIN.out.hcell k hlt
        have HCI := Lib.hid hci
        have dat : ∀ w3, Below w.heap.size w w3 → w3.cell? ⟨bi, oi + k * 2, none⟩ = some (.int .i64 (zs k 0)) ∧ w3.cell? ⟨bi, oi + k * 2 + 1, none⟩ = some (.int .i64 (zs k 1)) := fun w3 hb => by
          have h0 := (hb.cell (p := ⟨bi, oi + k * 2 + 0, none⟩) hbi).trans (HCI.out 0 (by omega))
          have h1 := (hb.cell (p := ⟨bi, oi + k * 2 + 1, none⟩) hbi).trans (HCI.out 1 (by omega))
          exact ⟨h0, h1⟩
        have HD := Lib.hid dat
        have e0 := (dat _ HQ.out.bel).1
        have e1 := (dat _ HQ.out.bel).2
        clear dat hci
        generalize zs k 0 = z0 at *
        generalize zs k 1 = z1 at *
        by_cases h0 : z0 = 0
        · subst h0
          obtain ⟨x, y, hal⟩ := alloc HQ.out (show k < 1000 by omega)
          have HAL := Lib.hid hal
          clear hal
          go_wp2_with fail
          refine HAL.out.mono ?_
          rintro e w3 ⟨rfl, hr⟩
          have HR := Lib.hid hr
          clear hr
          go_wp2_with fail
          refine HR.out.mono ?_
          rintro e w4 ⟨rfl, hst⟩
          have d4 := (HD.out w4 hst.bel).2
          have H4 := Lib.hid hst
          clear hst
          go_wp2_with fail
          refine (agree H4.out z1).mono ?_
          rintro e w5 ⟨rfl, hst5⟩
          have H5 := Lib.hid hst5
          clear hst5
          go_wp2_with fail
          refine (agree H5.out i).mono ?_
          rintro e w6 ⟨rfl, hst6⟩
          have H6 := Lib.hid hst6
          clear hst6
          go_wp2
          go_roundw
          case rel => exact ⟨k + 1, _, _, by omega, rfl, rfl, by simp, H6.out⟩
          case measure => simp [intOf]; omega
        · have h0b : (z0 == 0) = false := by simpa using h0
          by_cases h1 : z0 = 1
          · subst h1
            obtain ⟨y, hfr⟩ := free (HQ.out.below ((Below.refl wr.heap.size wr).drew)) z1
            have HFR := Lib.hid hfr
            clear hfr
            go_wp2
            go_region_with (first
              | (go_at_call 16; refine HFR.out.mono ?_; rintro e w3 ⟨rfl, hb3, hr⟩; have d3 := (HD.out w3 hb3).2; have HR := Lib.hid hr; clear hr hb3)
              | (go_at_call 29; refine HR.out.mono ?_; rintro e w4 ⟨rfl, hst⟩; have d4 := (HD.out w4 hst.bel).2; have H4 := Lib.hid hst.succ; clear hst))
            all_goals
              go_wp2_with fail
              refine (agree H4.out z1).mono ?_
              rintro e w5 ⟨rfl, hst5⟩
              have H5 := Lib.hid hst5
              clear hst5
              go_wp2_with fail
              refine (agree H5.out i).mono ?_
              rintro e w6 ⟨rfl, hst6⟩
              have H6 := Lib.hid hst6
              clear hst6
              go_wp2
              go_roundw
              case rel => exact ⟨k + 1, _, _, by omega, rfl, rfl, by simp, H6.out⟩
              case measure => simp [intOf]; omega
          · have h1b : (z0 == 1) = false := by simpa using h1
            by_cases h2 : z0 = 2
            · subst h2
              have HCP := Lib.hid (copy HQ.out)
              go_wp2_with fail
              refine HCP.out.mono ?_
              rintro e w3 ⟨pa', rfl, hr⟩
              have HR := Lib.hid hr
              clear hr
              go_wp2_with fail
              refine HR.out.mono ?_
              rintro e w4 ⟨pr', rfl, hst⟩
              have d4 := (HD.out w4 hst.bel).2
              have H4 := Lib.hid hst.succ
              clear hst
              go_wp2_with fail
              refine (agree H4.out z1).mono ?_
              rintro e w5 ⟨rfl, hst5⟩
              have H5 := Lib.hid hst5
              clear hst5
              go_wp2_with fail
              refine (agree H5.out i).mono ?_
              rintro e w6 ⟨rfl, hst6⟩
              have H6 := Lib.hid hst6
              clear hst6
              go_wp2
              go_roundw
              case rel => exact ⟨k + 1, _, _, by omega, rfl, rfl, by simp, H6.out⟩
              case measure => simp [intOf]; omega
            · have h2b : (z0 == 2) = false := by simpa using h2
              have H4 := Lib.hid HQ.out.succ
              go_wp2_with fail
              refine (agree H4.out z1).mono ?_
              rintro e w5 ⟨rfl, hst5⟩
              have H5 := Lib.hid hst5
              clear hst5
              go_wp2_with fail
              refine (agree H5.out i).mono ?_
              rintro e w6 ⟨rfl, hst6⟩
              have H6 := Lib.hid hst6
              clear hst6
              go_wp2
              go_roundw
              case rel => exact ⟨k + 1, _, _, by omega, rfl, rfl, by simp, H6.out⟩
              case measure => simp [intOf]; omega
      · go_wp2_with (go_at_call 13; refine (l2works_true _).mono ?_; rintro e w4 ⟨rfl, hb⟩; have HW := Lib.hid hb; clear hb)
        go_ret
        exact ⟨by simp, HQ.out.bel.trans (HW.out.mono HQ.out.bel.size)⟩
end ArenaPlays
end Go.Proofs.Ytljcedlmnbofaaa
