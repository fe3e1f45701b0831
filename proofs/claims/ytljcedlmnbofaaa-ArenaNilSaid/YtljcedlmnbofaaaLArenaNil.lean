/- seepagelaw02.ArenaNil returns true for every slot. No condition. -/
import Derived.Test.YtljcedlmnbofaaaArenaN
import Derived.Test.YtljcedlmnbofaaaL2Works
namespace Go.Proofs.Ytljcedlmnbofaaa
open Go.ChangeShapes Go.WideShapes Go.ChangeAt Go.RowKit
namespace ArenaNil

set_option maxRecDepth 100000 in
set_option maxHeartbeats 2000000 in
theorem walk (i : Int) (hi : -9223372036854775808 ≤ i ∧ i ≤ 9223372036854775807) (w : World) :
    Calls Try.prog 11 #[.int .i64 i] w fun e w' => e = .returned (.bool true) ∧ Below w.heap.size w w' := by
  go_enter Try.func11, Try.ntmps11
  go_wp2
  obtain ⟨W, hW⟩ : ∃ W, W = (w.alloc (.cells #[.bool false, .int .i64 0, .int .i64 0, .int .i64 0, .int .i64 0, .slice none 0 0] 63)).alloc (.cells #[.pointer none, .pointer (some ⟨w.heap.size, 0, none⟩)] 23) := ⟨_, rfl⟩
  have hb : Below w.heap.size w W := by rw [hW]; exact ((Below.refl _ w).alloc (Nat.le_refl _) _).alloc (by simp) _
  have n0 : NoArena W none := Or.inl rfl
  have n1 : NoArena W (some ⟨w.heap.size, 0, none⟩) := by
    refine Or.inr ⟨_, rfl, ?_, ?_, ?_⟩
    all_goals rw [hW, World.cell?_alloc_past _ _ _ (by simp), World.cell?_alloc_at _ _ _ _ rfl]; rfl
  have d0 : W.cell? ⟨w.heap.size + 1, 0, none⟩ = some (.pointer none) := by rw [hW, World.cell?_alloc_at _ _ _ _ (by simp)]; rfl
  have d1 : W.cell? ⟨w.heap.size + 1, 1, none⟩ = some (.pointer (some ⟨w.heap.size, 0, none⟩)) := by rw [hW, World.cell?_alloc_at _ _ _ _ (by simp)]; rfl
  rw [← hW]
  have HB := Lib.hid hb
  have N0 := Lib.hid n0
  have N1 := Lib.hid n1
  clear hW hb n0 n1
  go_loopw [5] (fun vk wr => ∃ k : Nat, k ≤ 2 ∧ vk = .int .i64 k ∧ wr = W) (fun vk _ => 2 - (intOf vk).toNat)
  case atStart => exact ⟨0, by omega, rfl, rfl⟩
  case round =>
    obtain ⟨k, hk, rfl, rfl⟩ := hrel
    have hk3 : k = 0 ∨ k = 1 ∨ k = 2 := by omega
    rcases hk3 with rfl | rfl | rfl
    · rw [show ((0 : Nat) : Int) = 0 from rfl]
      go_wp2_with (first
        | (go_at_call 18; refine (xAlloc N0.out).mono ?_; rintro e w' ⟨rfl, rfl⟩)
        | (go_at_call 17; refine (xNext N0.out).mono ?_; rintro e w' ⟨rfl, rfl⟩)
        | (go_at_call 16; refine (xFree N0.out i).mono ?_; rintro e w' ⟨rfl, rfl⟩)
        | (go_at_call 15; refine (xUsed N0.out i).mono ?_; rintro e w' ⟨rfl, rfl⟩)
        | (go_at_call 19; refine (xTimes N0.out i).mono ?_; rintro e w' ⟨rfl, rfl⟩)
        | (go_at_call 20; refine (xLen N0.out).mono ?_; rintro e w' ⟨rfl, rfl⟩)
        | (go_at_call 25; refine (xCap N0.out).mono ?_; rintro e w' ⟨rfl, rfl⟩)
        | (go_at_call 24; refine (xList N0.out).mono ?_; rintro e w' ⟨rfl, rfl⟩)
        | (go_at_call 27; refine (xCopy N0.out).mono ?_; rintro e w' ⟨rfl, rfl⟩))
      go_roundw
      case rel => exact ⟨1, by omega, by simp, trivial⟩
      case measure => simp [intOf]
    · rw [show ((1 : Nat) : Int) = 1 from rfl]
      go_wp2_with (first
        | (go_at_call 18; refine (xAlloc N1.out).mono ?_; rintro e w' ⟨rfl, rfl⟩)
        | (go_at_call 17; refine (xNext N1.out).mono ?_; rintro e w' ⟨rfl, rfl⟩)
        | (go_at_call 16; refine (xFree N1.out i).mono ?_; rintro e w' ⟨rfl, rfl⟩)
        | (go_at_call 15; refine (xUsed N1.out i).mono ?_; rintro e w' ⟨rfl, rfl⟩)
        | (go_at_call 19; refine (xTimes N1.out i).mono ?_; rintro e w' ⟨rfl, rfl⟩)
        | (go_at_call 20; refine (xLen N1.out).mono ?_; rintro e w' ⟨rfl, rfl⟩)
        | (go_at_call 25; refine (xCap N1.out).mono ?_; rintro e w' ⟨rfl, rfl⟩)
        | (go_at_call 24; refine (xList N1.out).mono ?_; rintro e w' ⟨rfl, rfl⟩)
        | (go_at_call 27; refine (xCopy N1.out).mono ?_; rintro e w' ⟨rfl, rfl⟩))
      go_roundw
      case rel => exact ⟨2, by omega, by simp, trivial⟩
      case measure => simp [intOf]
    · rw [show ((2 : Nat) : Int) = 2 from rfl]
      go_wp2_with (go_at_call 13; refine (l2works_true _).mono ?_; rintro e w4 ⟨rfl, hb⟩; have HBW := Lib.hid hb; clear hb)
      go_ret
      exact ⟨by simp, HB.out.trans (HBW.out.mono HB.out.size)⟩
end ArenaNil
end Go.Proofs.Ytljcedlmnbofaaa
