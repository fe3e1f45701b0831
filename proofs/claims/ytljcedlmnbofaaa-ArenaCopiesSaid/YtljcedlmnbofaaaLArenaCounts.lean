/- seepagelaw02.ArenaCounts returns true for every number of slots and every list of bytes; its arguments read as before. No condition. -/
import Derived.Test.YtljcedlmnbofaaaL2Plain
import Derived.Test.YtljcedlmnbofaaaL2PlayW
namespace Go.Proofs.Ytljcedlmnbofaaa
open Go.ChangeShapes Go.WideShapes Go.ChangeAt Go.RowKit

theorem l2play_in (slots : Nat) (hs : slots < 256) (a : Option Addr) (len cap : Nat) (zs : List Int) (w : World) (hin : IntsIn w .u8 a len cap zs) :
    Calls Try.prog 12 #[.int .u8 slots, .slice a len cap] w fun e w' => ∃ b lb, ∃ s : PSt, e = .returned (.tuple #[.pointer (some ⟨b, 0, none⟩), .int .i64 s.allocs, .int .i64 s.frees, .bool true]) ∧ AIn w w' b lb s.A ∧ PInv (1 + slots % 40) s 500 :=
  (l2play_any slots hs a len cap zs w hin).mono fun e w' ⟨b, lb, s, hs, he, h1, h2, h3, h4, h5⟩ => ⟨b, lb, s, he, ⟨h1, h2, h3, h4, h5⟩, by
    rw [hs]; exact prun_inv _ (by omega) _ _ (Nat.le_refl _)⟩

theorem pairwise_getD {l : List Nat} (h : l.Pairwise (· < ·)) {k : Nat} (hk : k + 1 < l.length) : l.getD k 0 < l.getD (k + 1) 0 := by
  have := List.pairwise_iff_getElem.1 h k (k + 1) (by omega) hk (by omega)
  simpa [List.getD, List.getElem?_eq_getElem hk, List.getElem?_eq_getElem (show k < l.length by omega)] using this

namespace ArenaCounts
theorem used_getD {A : Ar} {k : Nat} (hk : k < A.list.length) : A.used (A.list.getD k 0) = true := by
  have : A.list.getD k 0 ∈ A.list := by
    simp only [List.getD, List.getElem?_eq_getElem hk, Option.getD_some]
    exact List.getElem_mem hk
  exact Ar.list_used this
set_option maxRecDepth 100000 in
set_option maxHeartbeats 1000000 in
theorem walk (slots : Nat) (hs : slots < 256) (a : Option Addr) (len cap : Nat) (zs : List Int) (w : World) (hin : IntsIn w .u8 a len cap zs) :
    Calls Try.prog 7 #[.int .u8 slots, .slice a len cap] w fun e w' => e = .returned (.bool true) ∧ Below w.heap.size w w' := by
  have HP := Lib.hid (l2play_in slots hs a len cap zs w hin)
  clear hin
  obtain ⟨n, hn⟩ : ∃ n, n = 1 + slots % 40 := ⟨_, rfl⟩
  have hn1 : 1 ≤ n ∧ n ≤ 40 := by omega
  have hc : (1 : Int) + (slots : Int) % 40 = (n : Int) := by omega
  rw [← hn] at HP
  clear hn
  go_enter Try.func7, Try.ntmps7
  go_wp2_with fail
  refine HP.out.mono ?_
  rintro e w1 ⟨b, lb, s, rfl, ha, hinv⟩
  obtain ⟨A, allocs, frees⟩ := s
  have hlen := Ar.list_len hinv.ok
  have hcount := hinv.count
  have hm := hinv.most
  have hslots := hinv.slots
  simp only at hlen hcount hm hslots
  have hsub : (allocs : Int) - (frees : Int) = (A.list.length : Int) := by omega
  have hl2 : A.list.length ≤ 500 := by omega
  have hfr : frees ≤ 65536 := by have := hinv.ok.fresh; have := hinv.ok.slots; omega
  have HSUM := Lib.hid hinv.sum
  have HA := Lib.hid ha
  have HLI := Lib.hid ha.list
  have HL : Hid (∀ w2, AIn w w2 b lb A → Calls Try.prog 20 #[.pointer (some ⟨b, 0, none⟩)] w2 fun e w' => e = .returned (.int .i64 A.list.length) ∧ w2 = w') := fun w2 h => by
    have := aLen_any h.ar
    rwa [show (A.fresh : Int) - (A.stack.length : Int) = (A.list.length : Int) by omega] at this
  have HC : Hid (∀ w2, AIn w w2 b lb A → Calls Try.prog 25 #[.pointer (some ⟨b, 0, none⟩)] w2 fun e w' => e = .returned (.int .i64 n) ∧ w2 = w') := fun w2 h => by
    have := aCap_any h.ar
    rwa [hslots] at this
  have HT : Hid (∀ w2, AIn w w2 b lb A → ∀ j : Nat, j < n → Calls Try.prog 19 #[.pointer (some ⟨b, 0, none⟩), .int .i64 j] w2 fun e w' => e = .returned (.int .u64 (A.times j)) ∧ w2 = w') := fun w2 h j hj => by
    have := aTimes_any h.ar (j : Int)
    rwa [show A.timesAt (j : Int) = A.times j by simp [Ar.timesAt]; omega] at this
  have HU : Hid (∀ w2, AIn w w2 b lb A → ∀ k : Nat, k < A.list.length → Calls Try.prog 15 #[.pointer (some ⟨b, 0, none⟩), .int .i64 (A.list.getD k 0 : Nat)] w2 fun e w' => e = .returned (.bool true) ∧ w2 = w') := fun w2 h k hk => by
    have := aUsed_any h.ar ((A.list.getD k 0 : Nat) : Int)
    rwa [show A.usedAt ((A.list.getD k 0 : Nat) : Int) = true by simpa [Ar.usedAt] using used_getD hk] at this
  have HSORT := Lib.hid A.list_sorted
  have hlt64 : ∀ k, k ≤ n → sumTo A.times k ≤ 500 := fun k hk => by
    have := sumTo_mono A.times hk
    have := HSUM.out
    simp only at this
    omega
  have H64 := Lib.hid hlt64
  clear ha hinv hlen hcount hlt64 hslots
  go_wp2_with (first
    | (go_at_call 24; refine HLI.out.mono ?_; rintro e w2 ⟨la, lc, rfl, _, hii, hai, _⟩; have HAI := Lib.hid hai; have HII := Lib.hid hii; clear hai hii)
    | (go_at_call 20; refine (HL.out _ HAI.out).mono ?_; rintro e w3 ⟨rfl, rfl⟩)
    | (go_at_call 25; refine (HC.out _ HAI.out).mono ?_; rintro e w3 ⟨rfl, rfl⟩))
  go_loopw [10] (fun vk wr => ∃ k : Nat, k ≤ A.list.length ∧ vk = .int .i64 k ∧ AIn w wr b lb A ∧ IntsIn wr .i64 la A.list.length lc (A.list.map fun (x : Nat) => (x : Int))) (fun vk _ => A.list.length - (intOf vk).toNat)
  case atStart => exact ⟨0, Nat.zero_le _, rfl, HAI.out, HII.out⟩
  case round =>
    obtain ⟨k, hk, rfl, hai, hii⟩ := hrel
    have HI := Lib.hid hii
    have HQ := Lib.hid hai
    clear hii hai
    have hcap := HII.out.hle
    have hmax := HII.out.hmax
    by_cases hlt : k < A.list.length
    · have HUK := Lib.hid (fun q => quietC (HU.out _ (HQ.out.drewN q) k hlt))
      obtain ⟨bl, ol, rfl, _, d1⟩ := HI.out.hcell k hlt
      rw [map_getD] at d1
      cases k with
      | zero =>
        simp only [Nat.add_zero] at d1
        generalize A.list.getD 0 0 = x at *
        go_wp2
        go_quiet ((go_at_call 15; exact HUK.out _))
        go_wp2
        go_roundw
        case rel => exact ⟨1, by omega, by simp, HQ.out.drewN _, HI.out.drewN _⟩
        case measure => simp [intOf]; omega
      | succ j =>
        obtain ⟨bl', ol', he, _, d0⟩ := HI.out.hcell j (by omega)
        simp only [Option.some.injEq, Addr.mk.injEq, and_true] at he
        obtain ⟨rfl, rfl⟩ := he
        rw [map_getD] at d0
        have hord := pairwise_getD HSORT.out hlt
        have hordb : decide ((A.list.getD (j + 1) 0 : Int) ≤ (A.list.getD j 0 : Int)) = false := by simp only [decide_eq_false_iff_not]; omega
        generalize A.list.getD (j + 1) 0 = x at *
        generalize A.list.getD j 0 = y at *
        go_wp2
        go_quiet ((go_at_call 15; exact HUK.out _))
        go_wp2
        go_roundw
        case rel => exact ⟨j + 2, by omega, by simp; omega, HQ.out.drewN _, HI.out.drewN _⟩
        case measure => simp [intOf]; omega
    · go_wp2
      clear hc
      go_loopw [11, 12] (fun vs vj wr => ∃ j : Nat, j ≤ n ∧ vj = .int .i64 j ∧ vs = .int .u64 (sumTo A.times j) ∧ AIn w wr b lb A) (fun _ vj _ => n - (intOf vj).toNat)
      case atStart => exact ⟨0, Nat.zero_le _, rfl, rfl, HQ.out⟩
      case round =>
        obtain ⟨j, hj, rfl, rfl, hai⟩ := hrel
        have HR := Lib.hid hai
        clear hai
        by_cases hjn : j < n
        · have HTJ := Lib.hid (HT.out _ HR.out j hjn)
          have hs1 := H64.out (j + 1) hjn
          have HS := Lib.hid (show sumTo A.times (j + 1) = sumTo A.times j + A.times j from rfl)
          rw [HS.out] at hs1
          go_wp2_with (first
            | (go_at_call 25; refine (HC.out _ HR.out).mono ?_; rintro e w3 ⟨rfl, rfl⟩)
            | (go_at_call 19; refine HTJ.out.mono ?_; rintro e w3 ⟨rfl, rfl⟩))
          go_roundw
          case rel => exact ⟨j + 1, by omega, by simp, by rw [HS.out]; simp, HR.out⟩
          case measure => simp [intOf]; omega
        · have hjn2 : j = n := by omega
          have HF := Lib.hid (show sumTo A.times j = allocs by rw [hjn2]; exact HSUM.out)
          clear hjn2
          rw [HF.out]
          go_wp2_with (first
            | (go_at_call 25; refine (HC.out _ HR.out).mono ?_; rintro e w3 ⟨rfl, rfl⟩)
            | (go_at_call 13; refine (l2works_true _).mono ?_; rintro e w4 ⟨rfl, hb⟩; have HB := Lib.hid hb; clear hb))
          go_ret
          exact ⟨by simp, HR.out.bel.trans (HB.out.mono HR.out.bel.size)⟩
end ArenaCounts
end Go.Proofs.Ytljcedlmnbofaaa
