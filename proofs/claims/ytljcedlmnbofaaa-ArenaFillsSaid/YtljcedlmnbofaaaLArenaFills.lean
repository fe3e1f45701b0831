/- seepagelaw02.ArenaFills returns true for every number. No condition. -/
import Derived.Test.YtljcedlmnbofaaaL2Made
namespace Go.Proofs.Ytljcedlmnbofaaa
open Go.ChangeShapes Go.WideShapes Go.ChangeAt Go.RowKit
namespace ArenaFills

theorem list_len (n : Nat) : (Ar.filled n n).list.length = n := by
  have : (Ar.filled n n).list = List.range n := by
    show (List.range n).filter (Ar.filled n n).used = List.range n
    rw [List.filter_eq_self]
    intro x hx
    have : x < n := by simpa using hx
    simp [Ar.used, Ar.filled, this]
  rw [this]; simp

set_option maxRecDepth 100000 in
set_option maxHeartbeats 1000000 in
theorem walk (slots : Nat) (hs : slots < 65536) (w : World) :
    Calls Try.prog 6 #[.int .u16 slots] w fun e w' => e = .returned (.bool true) ∧ Below w.heap.size w w' := by
  have HM := Lib.hid (l2made_any slots 0 hs (by omega) w)
  go_enter Try.func6, Try.ntmps6
  go_wp2_with fail
  refine HM.out.mono ?_
  rintro e w1 ⟨b, lb, n, m, rfl, ha, hn, hm⟩
  have hn1 : 1 ≤ n ∧ n ≤ 300 := by omega
  simp only [Nat.zero_mod] at hm
  subst hm
  have HA := Lib.hid ha
  clear ha hn
  go_wp2
  go_loopw [6] (fun vk wr => ∃ k : Nat, k ≤ n ∧ vk = .int .i64 k ∧ AIn w wr b lb (Ar.filled n k)) (fun vk _ => n - (intOf vk).toNat)
  case atStart => exact ⟨0, Nat.zero_le _, rfl, HA.out⟩
  case round =>
    obtain ⟨k, hk, rfl, hrel⟩ := hrel
    have HR := Lib.hid hrel
    clear hrel
    by_cases hlt : k < n
    · have HT := Lib.hid (HR.out.alloc (Ar.filled_next hlt))
      have HTK := Lib.hid (Ar.filled_take n k)
      have HU : Hid (∀ w2, AIn w w2 b lb (Ar.filled n (k + 1)) → Calls Try.prog 15 #[.pointer (some ⟨b, 0, none⟩), .int .i64 k] w2 fun e w' => e = .returned (.bool true) ∧ w2 = w') := fun w2 h => by
        have := aUsed_any h.ar (k : Int)
        rwa [show (Ar.filled n (k + 1)).usedAt (k : Int) = true by simp [Ar.usedAt, Ar.used, Ar.filled]] at this
      have HV : Hid (∀ w2, AIn w w2 b lb (Ar.filled n (k + 1)) → Calls Try.prog 19 #[.pointer (some ⟨b, 0, none⟩), .int .i64 k] w2 fun e w' => e = .returned (.int .u64 1) ∧ w2 = w') := fun w2 h => by
        have := aTimes_any h.ar (k : Int)
        rwa [show (Ar.filled n (k + 1)).timesAt (k : Int) = 1 by simp [Ar.timesAt, Ar.filled, hlt]] at this
      go_wp2_with (first
        | (go_at_call 18; refine HT.out.mono ?_; rintro e w2 ⟨rfl, ha, _⟩; rw [HTK.out] at ha; have HS := Lib.hid ha; clear ha)
        | (go_at_call 15; refine (HU.out _ HS.out).mono ?_; rintro e w3 ⟨rfl, rfl⟩)
        | (go_at_call 19; refine (HV.out _ HS.out).mono ?_; rintro e w3 ⟨rfl, rfl⟩))
      go_roundw
      case rel => exact ⟨k + 1, by omega, by simp, HS.out⟩
      case measure => simp [intOf]; omega
    · have hkn : k = n := by omega
      have HF := Lib.hid (show AIn w wr b lb (Ar.filled n n) by have h := HR.out; rw [hkn] at h; exact h)
      clear hkn HR
      have HT := Lib.hid (aAlloc_none HF.out.ar (Ar.filled_none (Nat.le_refl n)))
      have HX : Hid (∀ q, Calls Try.prog 17 #[.pointer (some ⟨b, 0, none⟩)] (wr.drewN q) fun e w' => e = .returned (.tuple #[.int .i64 0, .bool false]) ∧ ∃ r, w' = (wr.drewN q).drewN r) := fun q => by
        have := aNext_any (HF.out.ar.drewN q)
        rwa [Ar.filled_none (Nat.le_refl n)] at this
      have HL : Hid (∀ q, Calls Try.prog 20 #[.pointer (some ⟨b, 0, none⟩)] (wr.drewN q) fun e w' => e = .returned (.int .i64 n) ∧ wr.drewN q = w') := fun q => by
        have := aLen_any (HF.out.ar.drewN q)
        simpa [Ar.filled] using this
      have HLI := Lib.hid (fun q => (HF.out.drewN q).list)
      have HLL := Lib.hid (list_len n)
      go_wp2_with fail
      refine HT.out.mono ?_
      rintro e w2 ⟨rfl, q, rfl⟩
      go_wp2_with fail
      refine (HX.out _).mono ?_
      rintro e w2 ⟨rfl, r, rfl⟩
      go_wp2_with (first
        | (go_at_call 20; refine (HL.out _).mono ?_; rintro e w3 ⟨rfl, rfl⟩)
        | (go_at_call 24; refine (HLI.out _).mono ?_; rintro e w3 ⟨a, cap, rfl, _, hii, hai, _⟩; rw [HLL.out]; have HAI := Lib.hid hai; clear hai hii)
        | (go_at_call 13; refine (l2works_true _).mono ?_; rintro e w4 ⟨rfl, hb⟩; have HB := Lib.hid hb; clear hb))
      go_ret
      exact ⟨by simp, HAI.out.bel.trans (HB.out.mono HAI.out.bel.size)⟩
end ArenaFills
end Go.Proofs.Ytljcedlmnbofaaa
