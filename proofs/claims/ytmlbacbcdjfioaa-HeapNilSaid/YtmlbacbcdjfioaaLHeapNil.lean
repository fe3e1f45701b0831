/- For every index and key seepagelaw04.HeapNil returns true. No condition. -/
import Derived.Test.YtmlbacbcdjfioaaHeapN
import Derived.Test.YtmlbacbcdjfioaaSep
import Derived.Test.YtmlbacbcdjfioaaClose
set_option linter.unusedSimpArgs false
set_option linter.unusedVariables false
namespace Go.Proofs.Ytmlbacbcdjfioaa
open Go.ChangeShapes Go.WideShapes Go.ChangeAt Go.RowKit
namespace HeapNil

set_option maxHeartbeats 4000000
set_option maxRecDepth 100000 in
theorem walk (i : Int) (hi : -9223372036854775808 ≤ i ∧ i ≤ 9223372036854775807) (key : Int) (hkey : -9223372036854775808 ≤ key ∧ key ≤ 9223372036854775807) (w : World) :
    Calls Try.prog 20 #[.int .i64 i, .int .i64 key] w fun e w' => e = .returned (.bool true) ∧ Below w.heap.size w w' := by
  have HZ := Lib.hid (fun (o1 o2 : Obj) => (show Sep w ((w.alloc o1).alloc o2) [blockT (w.heap.size + 1) o2, blockT w.heap.size o1] by
    have h1 := (Sep.start w).add ((Below.refl _ _).alloc (Nat.le_refl _) o1) (blockT w.heap.size o1) (heap_alloc_new _ _) (by rintro q rfl; exact Nat.le_refl _)
    have h2 := h1.add ((Below.refl _ _).alloc (Nat.le_refl _) o2) (blockT (w.alloc o1).heap.size o2) (heap_alloc_new _ _) (by rintro q rfl; exact Nat.le_refl _)
    simpa using h2))
  go_enter Try.func20, Try.ntmps20
  go_wp2
  go_loopw [4, 8] (fun u y wr => ∃ (k : Nat), u = .bool false ∧ y = .int .i64 k ∧ k ≤ 2 ∧ Sep w wr [blockT (w.heap.size + 1) (.cells #[.pointer none, .pointer (some ⟨w.heap.size, 0, none⟩)] 24 (0, 0)), blockT w.heap.size (.cells #[.bool false, .int .i64 0, .slice none 0 0, .slice none 0 0] 90 (0, 0))]) (fun _ y _ => 2 - (intOf y).toNat)
  case atStart => exact ⟨0, rfl, rfl, Nat.zero_le _, HZ.out _ _⟩
  case round =>
    obtain ⟨k, rfl, rfl, hk, hsep⟩ := hrel
    by_cases hlt : k < 2
    · obtain ⟨p, hc, hp⟩ : ∃ p, wr.cell? ⟨w.heap.size + 1, k, none⟩ = some (.pointer p) ∧ (p = none ∨ p = some ⟨w.heap.size, 0, none⟩) := by
        obtain ⟨r0, r1, _⟩ := row_two (hsep.get 0 rfl : wr.heap[w.heap.size + 1]? = _)
        have : k = 0 ∨ k = 1 := by omega
        rcases this with rfl | rfl
        · exact ⟨none, r0, Or.inl rfl⟩
        · exact ⟨_, r1, Or.inr rfl⟩
      have HN := Lib.hid (fun (w' : World) (hw : w'.heap[w.heap.size]? = some (.cells #[.bool false, .int .i64 0, .slice none 0 0, .slice none 0 0] 90 (0, 0))) => show NoHeap w' p by
        rcases hp with rfl | rfl
        · exact Or.inl rfl
        · exact Or.inr ⟨_, rfl, hw⟩)
      have HS := Lib.hid hsep
      clear hsep hp
      go_wp2_with (first
        | (go_at_call 48; refine (xhCopy (HN.out _ (H6.out.get 3 rfl))).mono ?_; rintro r wz ⟨rfl, rfl⟩)
        | (go_at_call 42; refine (xhList (HN.out _ (H6.out.get 3 rfl))).mono ?_; rintro r wz ⟨rfl, rfl⟩)
        | (go_at_call 24; refine (xhLen (HN.out _ (H6.out.get 3 rfl))).mono ?_; rintro r wz ⟨rfl, rfl⟩)
        | (go_at_call 44; refine (xhRemove (HN.out _ (H6.out.get 3 rfl)) _).mono ?_; rintro r wz ⟨rfl, rfl⟩)
        | (go_at_call 49; refine (xhChange (HN.out _ (H6.out.get 3 rfl)) _ _).mono ?_; rintro r wz ⟨rfl, rfl⟩)
        | (go_at_call 50; refine (xhPush (HN.out _ (H6.out.get 3 rfl)) _ _).mono ?_; rintro r wz ⟨rfl, rfl⟩)
        | (go_at_call 51; refine (xhKey (HN.out _ (H6.out.get 3 rfl)) _).mono ?_; rintro r wz ⟨rfl, rfl⟩)
        | (go_at_call 23; refine (xhPop (HN.out _ (H5.out.get 2 rfl))).mono ?_; rintro r w6 ⟨rfl, hb⟩; have h6 := (H5.out.keep hb).add ((Below.refl _ _).alloc (Nat.le_refl _) (.cells #[.int .i64 0, .int .i64 0] 28)) (blockT w6.heap.size (.cells #[.int .i64 0, .int .i64 0] 28)) (heap_alloc_new _ _) (by rintro q rfl; exact Nat.le_refl _); have kb1 := (h6.get 1 rfl : (blockT _ _).P _); obtain ⟨l0, l1, lf, _⟩ := row_two kb1; have H6 := Lib.hid h6; clear h6 hb H5 kb1)
        | (go_at_call 57; refine (xhMin (HN.out _ (HS.out.get 1 rfl))).mono ?_; rintro r w5 ⟨rfl, hb⟩; have h5 := (HS.out.keep hb).add ((Below.refl _ _).alloc (Nat.le_refl _) (.cells #[.int .i64 0, .int .i64 0] 28)) (blockT w5.heap.size (.cells #[.int .i64 0, .int .i64 0] 28)) (heap_alloc_new _ _) (by rintro q rfl; exact Nat.le_refl _); have H5 := Lib.hid h5; clear h5 hb HS))
      go_roundw
      case rel => exact ⟨k + 1, rfl, by simp, by omega, H6.out.tail.tail⟩
      case measure => simp [intOf]; omega
    · obtain rfl : k = 2 := by omega
      have HS := Lib.hid hsep
      clear hsep hlt hk
      go_wp2_with (go_at_call 21; refine (l4works_any _).mono ?_; rintro r w9 ⟨rfl, hb⟩; have H9 := Lib.hid (HS.out.keep hb); clear hb)
      go_ret
      exact ⟨by simp, H9.out.below⟩
end HeapNil
end Go.Proofs.Ytmlbacbcdjfioaa
