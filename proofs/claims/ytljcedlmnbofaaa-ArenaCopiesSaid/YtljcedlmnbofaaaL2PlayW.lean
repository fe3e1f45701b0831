/- L2PlayW: the walk of seepagelaw02.play. -/
import Derived.Test.YtljcedlmnbofaaaL2Play
namespace Go.Proofs.Ytljcedlmnbofaaa
open Go.ChangeShapes Go.WideShapes Go.ChangeAt Go.RowKit

theorem toList_madeBools (n : Nat) : (madeCells (Value.bool false).cells (n * 1)).toList = List.replicate n (.bool false) := by
  rw [Nat.mul_one]; exact toList_madeCells_one _ _

set_option maxRecDepth 100000 in
set_option maxHeartbeats 1000000 in
theorem l2play_any (slots : Nat) (hs : slots < 256) (a : Option Addr) (len cap : Nat) (zs : List Int) (w : World) (hin : IntsIn w .u8 a len cap zs) :
    Calls Try.prog 12 #[.int .u8 slots, .slice a len cap] w fun e w' => ∃ b lb, ∃ s : PSt, s = prun (1 + slots % 40) zs 500 ∧
      e = .returned (.tuple #[.pointer (some ⟨b, 0, none⟩), .int .i64 s.allocs, .int .i64 s.frees, .bool true]) ∧ ArenaAt w' b lb s.A ∧ w.heap.size ≤ b ∧ w.heap.size ≤ lb ∧ lb < w'.heap.size ∧ Below w.heap.size w w' := by
  obtain ⟨n, hn⟩ : ∃ n, n = 1 + slots % 40 := ⟨_, rfl⟩
  have hn1 : 1 ≤ n ∧ n ≤ 40 := by omega
  have HN := Lib.hid (aNew_ok n w (by omega))
  have hcast : (1 : Int) + (slots : Int) % 40 = (n : Int) := by omega
  have HC := Lib.hid hcast
  have HIN := Lib.hid hin
  have hle := hin.hle
  have hmax := hin.hmax
  rw [← hn]
  clear hcast hin hn
  go_enter Try.func12, Try.ntmps12
  go_wp2_with fail
  rw [HC.out]
  refine HN.out.mono ?_
  rintro e w1 ⟨b, lb, rfl, a0, hb, hl, hbel⟩
  have hw1 := hbel.size
  have hb1 := a0.b_lt
  have hl1 := a0.lb_lt (by simp only [Ar.new]; omega)
  have H0 := Lib.hid a0
  have HB := Lib.hid hbel
  clear a0 hbel
  go_wp2_with (at_make; refine wpList_makeN _ _ 65 rfl rfl infoBool Try.underlying65 _ _ _ _ n rfl rfl rfl rfl (by omega) (by unfold maxLen; omega) ?_; intro w2 hown hgr)
  have R0 : PRel w w2 b lb w1.heap.size n (prun n zs 0) := by
    have hu : Upd (fun _ => False) w1 w2 := (Upd.refl _ w1).grown hgr (by simp)
    refine ⟨H0.out.upd hu (by simp) (by simp) hl1, ⟨(hown.lt _ rfl).2, ?_, hown.frozenAt⟩, by omega, by omega, hb, hl, hw1, HB.out.trans (hu.below _ hw1 (by simp))⟩
    intro i hi
    rw [hown.cellAt i (by omega), toList_madeBools]
    simp [hi, prun, Ar.new, Ar.used]
  have HR := Lib.hid R0
  clear hown hgr R0
  go_loopw [4, 5, 6, 11] (fun va vm vf vk wr => ∃ k : Nat, k ≤ len ∧ k ≤ 500 ∧ va = .pointer (some ⟨b, 0, none⟩) ∧ vm = .int .i64 (prun n zs k).allocs ∧ vf = .int .i64 (prun n zs k).frees ∧ vk = .int .i64 k ∧ PRel w wr b lb w1.heap.size n (prun n zs k)) (fun _ _ _ vk _ => 500 - (intOf vk).toNat)
  case atStart => exact ⟨0, Nat.zero_le _, Nat.zero_le _, rfl, rfl, rfl, rfl, HR.out⟩
  case round =>
    obtain ⟨k, hk1, hk2, rfl, rfl, rfl, rfl, hrel⟩ := hrel
    have HREL := Lib.hid hrel
    clear hrel
    by_cases hlt : k < len ∧ k < 500
    · obtain ⟨bi, oi, rfl, hbi, hci⟩ := HIN.out.hcell k hlt.1
      have hlen := HIN.out.hlen
      have hci2 : wr.cell? ⟨bi, oi + k, none⟩ = some (.int .u8 (zs.getD k 0)) := (HREL.out.below.cell (p := ⟨bi, oi + k, none⟩) hbi).trans hci
      have hwf := HIN.out.getD_wf k hlt.1
      have hx : 0 ≤ zs.getD k 0 ∧ zs.getD k 0 ≤ 255 := by simpa [Lit.wf, IntKind.min, IntKind.max, IntKind.signed, IntKind.bits] using hwf
      have HS := Lib.hid (prun_succ n zs k (by omega))
      have hcnt := prun_counts n zs k
      obtain ⟨h1, h2⟩ := hlt
      generalize zs.getD k 0 = x at *
      clear hci hwf hlen
      have HR := HREL.out
      have hslots : (prun n zs k).A.slots = n := prun_slots n zs k
      have hm5 : (prun n zs k).allocs ≤ 500 ∧ (prun n zs k).frees ≤ 500 := by omega
      by_cases hx1 : x < 128
      · cases hnext : (prun n zs k).A.next with
        | none =>
          have HA := Lib.hid (aAlloc_none HR.ar hnext)
          have HS2 := Lib.hid (show prun n zs (k + 1) = prun n zs k by rw [HS.out]; simp [pstep, hx1, hnext])
          clear hnext HR HS hslots
          go_wp2_with (go_at_call 18; refine HA.out.mono ?_; rintro e w' ⟨rfl, m, rfl⟩)
          go_roundw
          case rel => exact ⟨k + 1, by omega, by omega, rfl, by rw [HS2.out], by rw [HS2.out], by simp, by rw [HS2.out]; exact HREL.out.drewN m⟩
          case measure => simp [intOf]; omega
        | some i =>
          have hin : i < n := by have := Ar.next_lt HR.ar.ok hnext; omega
          have HA := Lib.hid (aAlloc_some HR.ar i hnext)
          have HS2 := Lib.hid (show prun n zs (k + 1) = { A := (prun n zs k).A.take i, allocs := (prun n zs k).allocs + 1, frees := (prun n zs k).frees } by rw [HS.out]; simp [pstep, hx1, hnext])
          have hu := (Ar.take_used HR.ar.ok hnext).1
          have HU := Lib.hid hu
          have HNX := Lib.hid hnext
          clear hnext HR HS hslots hu
          go_wp2_with (go_at_call 18; refine HA.out.mono ?_; rintro e w' ⟨rfl, ha, hupd⟩; have HO := Lib.hid (HREL.out.out.upd hupd (by have := HREL.out.gb; have := HREL.out.gl; omega)); have ho1 := HO.out.cell i hin; rw [HU.out] at ho1; have ho2 := HO.out.fz i; have HAR := Lib.hid (And.intro ha hupd); clear ha hupd)
          go_roundw
          case rel => exact ⟨k + 1, by omega, by omega, rfl, by rw [HS2.out]; simp, by rw [HS2.out], by simp, by rw [HS2.out]; exact HREL.out.alloc HNX.out hin HAR.out.1 HAR.out.2 _ _⟩
          case measure => simp [intOf]; omega
      · obtain ⟨y, rfl⟩ := Int.eq_ofNat_of_zero_le hx.1
        have hyn : y % n < n := Nat.mod_lt _ (by omega)
        have HTN := Lib.hid (show ((y : Int) % (n : Int)).toNat = y % n by omega)
        have HMD := Lib.hid (show ((y : Int) % (n : Int)) = ((y % n : Nat) : Int) by omega)
        cases hused : (prun n zs k).A.used (y % n) with
        | true =>
          have HA := Lib.hid (aFree_used HR.ar (y % n) hused)
          have HS2 := Lib.hid (show prun n zs (k + 1) = { A := (prun n zs k).A.freed (y % n), allocs := (prun n zs k).allocs, frees := (prun n zs k).frees + 1 } by rw [HS.out]; unfold pstep; rw [if_neg hx1, HTN.out, if_pos hused])
          have HU := Lib.hid hused
          clear hused HR HS hslots
          go_wp2_with (go_at_call 16; rw [HMD.out]; refine HA.out.mono ?_; rintro e w' ⟨rfl, ha, hupd⟩; have HO := Lib.hid (HREL.out.out.upd hupd (by have := HREL.out.gb; have := HREL.out.gl; omega)); have ho1 := HO.out.cell (y % n) hyn; rw [HU.out] at ho1; have ho2 := HO.out.fz (y % n); have HAR := Lib.hid (And.intro ha hupd); clear ha hupd)
          go_roundw
          case rel => exact ⟨k + 1, by omega, by omega, rfl, by rw [HS2.out], by rw [HS2.out]; simp, by simp, by rw [HS2.out]; exact HREL.out.free HU.out hyn HAR.out.1 HAR.out.2 _ _⟩
          case measure => simp [intOf]; omega
        | false =>
          have HA := Lib.hid (aFree_unused HR.ar (y % n) (by omega) hused)
          have HS2 := Lib.hid (show prun n zs (k + 1) = prun n zs k by rw [HS.out]; unfold pstep; rw [if_neg hx1, HTN.out, hused]; rfl)
          clear hused HR HS hslots
          go_wp2_with (go_at_call 16; rw [HMD.out]; refine HA.out.mono ?_; rintro e w' ⟨rfl, rfl⟩)
          go_roundw
          case rel => exact ⟨k + 1, by omega, by omega, rfl, by rw [HS2.out], by rw [HS2.out], by simp, by rw [HS2.out]; exact HREL.out⟩
          case measure => simp [intOf]; omega
    · have hend : k = zs.length ∨ k = 500 := by have := HIN.out.hlen; omega
      have HE := Lib.hid (prun_end n zs k hk2 hend)
      clear hend
      have hc : ¬ k < len ∨ (k < len ∧ ¬ k < 500) := by omega
      rcases hc with hc | ⟨hc, hc2⟩
      all_goals
        go_wp2
        go_loopw [4, 5, 6, 15] (fun va vm vf vi wq => va = .pointer (some ⟨b, 0, none⟩) ∧ vm = .int .i64 (prun n zs k).allocs ∧ vf = .int .i64 (prun n zs k).frees ∧ ∃ j : Nat, j ≤ n ∧ vi = .int .i64 j ∧ PRel w wq b lb w1.heap.size n (prun n zs k)) (fun _ _ _ vi _ => n - (intOf vi).toNat)
        case atStart => exact ⟨rfl, rfl, rfl, 0, Nat.zero_le _, rfl, HREL.out⟩
        case round =>
          obtain ⟨rfl, rfl, rfl, j, hj, rfl, hrel⟩ := hrel
          have HQ := Lib.hid hrel
          clear hrel
          by_cases hjn : j < n
          · have HU := Lib.hid (fun q => quietC (aUsed_any (HQ.out.ar.drewN q) (j : Int)))
            have ho := HQ.out.out.cell j hjn
            rw [show (prun n zs k).A.used j = (prun n zs k).A.usedAt (j : Int) by simp [Ar.usedAt]] at ho
            go_wp2
            go_quiet ((go_at_call 15; exact HU.out _))
            go_wp2
            all_goals go_roundw
            case rel => exact ⟨rfl, rfl, rfl, j + 1, by omega, by simp, HQ.out.drewN _⟩
            case measure => simp [intOf]; omega
          · go_wp2
            refine bodyPost_ret (results_four rfl _ _ _) rfl ?_
            refine ⟨b, lb, _, rfl, ?_, ?_, hb, hl, Nat.lt_of_lt_of_le hl1 (Nat.le_trans (Nat.le_of_lt HQ.out.out.lt) (Nat.le_refl _)), HQ.out.below⟩
            · rw [← HE.out]; simp
            · rw [← HE.out]; exact HQ.out.ar
end Go.Proofs.Ytljcedlmnbofaaa

