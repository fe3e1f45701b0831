/- For every slot and time seepagelaw35.ExpiryNil returns true. No condition. -/
import Derived.Test.YtmlbacbcdjfioaaExpN
import Derived.Test.YtmlbacbcdjfioaaExpT
import Derived.Test.YtmlbacbcdjfioaaClose
set_option linter.unusedSimpArgs false
set_option linter.unusedVariables false
namespace Go.Proofs.Ytmlbacbcdjfioaa
open Go.ChangeShapes Go.WideShapes Go.ChangeAt Go.RowKit
namespace ExpiryNil

set_option maxHeartbeats 4000000
set_option maxRecDepth 100000 in
theorem walk (slot : Int) (hslot : -9223372036854775808 ≤ slot ∧ slot ≤ 9223372036854775807) (t : Int) (ht : -9223372036854775808 ≤ t ∧ t ≤ 9223372036854775807) (w : World) :
    Calls Try.prog 12 #[.int .i64 slot, .int .i64 t] w fun e w' => e = .returned (.bool true) ∧ Below w.heap.size w w' := by
  have HZ := Lib.hid (fun (o1 o2 : Obj) => (show Sep w ((w.alloc o1).alloc o2) [blockT (w.heap.size + 1) o2, blockT w.heap.size o1] by
    have h1 := (Sep.start w).add ((Below.refl _ _).alloc (Nat.le_refl _) o1) (blockT w.heap.size o1) (heap_alloc_new _ _) (by rintro q rfl; exact Nat.le_refl _)
    have h2 := h1.add ((Below.refl _ _).alloc (Nat.le_refl _) o2) (blockT (w.alloc o1).heap.size o2) (heap_alloc_new _ _) (by rintro q rfl; exact Nat.le_refl _)
    simpa using h2))
  go_enter Try.func12, Try.ntmps12
  go_wp2
  go_loopw [4, 8] (fun u y wr => ∃ (k : Nat), u = .bool false ∧ y = .int .i64 k ∧ k ≤ 2 ∧ Sep w wr [blockT (w.heap.size + 1) (.cells #[.pointer none, .pointer (some ⟨w.heap.size, 0, none⟩)] 33 (0, 0)), blockT w.heap.size (.cells #[.pointer none] 65 (0, 0))]) (fun _ y _ => 2 - (intOf y).toNat)
  case atStart => exact ⟨0, rfl, rfl, Nat.zero_le _, HZ.out _ _⟩
  case round =>
    obtain ⟨k, rfl, rfl, hk, hsep⟩ := hrel
    by_cases hlt : k < 2
    · obtain ⟨p, hc, hp⟩ : ∃ p, wr.cell? ⟨w.heap.size + 1, k, none⟩ = some (.pointer p) ∧ (p = none ∨ p = some ⟨w.heap.size, 0, none⟩) := by
        obtain ⟨r0, r1, _⟩ := row_two (hsep.get 0 rfl : wr.heap[w.heap.size + 1]? = _)
        have : k = 0 ∨ k = 1 := by omega
        rcases this with rfl | rfl
        · exact ⟨none, r0, Or.inl rfl⟩
        · exact ⟨_, r1, Or.inr rfl⟩
      have HN := Lib.hid (fun (w' : World) (hw : w'.heap[w.heap.size]? = some (.cells #[.pointer none] 65 (0, 0))) => show NoSched w' p by
        rcases hp with rfl | rfl
        · exact Or.inl rfl
        · exact Or.inr ⟨_, rfl, (row_one hw).1⟩)
      have HS := Lib.hid hsep
      clear hsep hp
      go_wp2_with (first
        | (go_at_call 36; refine (xeCopy (HN.out _ (H9.out.get 2 rfl))).mono ?_; rintro r wz ⟨rfl, rfl⟩)
        | (go_at_call 30; refine (xeLen (HN.out _ (H9.out.get 2 rfl))).mono ?_; rintro r wz ⟨rfl, rfl⟩)
        | (go_at_call 32; refine (xeDue (HN.out _ (H8.out.get 2 rfl)) t).mono ?_; rintro r w9 ⟨rfl, hb⟩; have H9 := Lib.hid (H8.out.keep hb); clear hb H8)
        | (go_at_call 35; refine (xeDrop (HN.out _ (H7.out.get 2 rfl)) _).mono ?_; rintro r w8 ⟨rfl, hb⟩; have h8 := (H7.out.keep hb); have kb := h8.get 0 rfl; obtain ⟨k0, k1, kf, _⟩ := row_two kb; have H8 := Lib.hid h8; clear hb H7 h8 kb)
        | (go_at_call 37; refine (xeSet (HN.out _ (H6.out.get 2 rfl)) _ _).mono ?_; rintro r w7 ⟨rfl, hb⟩; have H7 := Lib.hid (H6.out.keep hb); clear hb H6)
        | (go_at_call 34; refine (xeLeft (HN.out _ (H5.out.get 2 rfl)) _ _).mono ?_; rintro r w6 ⟨rfl, hb⟩; have H6 := Lib.hid (H5.out.keep hb); clear hb H5)
        | (go_at_call 31; refine (xeNext (HN.out _ (HS.out.get 1 rfl))).mono ?_; rintro r w5 ⟨rfl, hb⟩; have h5 := (HS.out.keep hb).add ((Below.refl _ _).alloc (Nat.le_refl _) (.cells #[.int .i64 0, .int .i64 0] 28)) (blockT w5.heap.size (.cells #[.int .i64 0, .int .i64 0] 28)) (heap_alloc_new _ _) (by rintro q rfl; exact Nat.le_refl _); have H5 := Lib.hid h5; clear h5 hb HS))
      go_roundw
      case rel => exact ⟨k + 1, rfl, by simp, by omega, H9.out.tail⟩
      case measure => simp [intOf]; omega
    · obtain rfl : k = 2 := by omega
      have HS := Lib.hid hsep
      clear hsep hlt hk
      go_wp2_with (go_at_call 28; refine (Sep.l35works HS.out).mono ?_; rintro r w9 ⟨rfl, h⟩; have H9 := Lib.hid h; clear h)
      go_ret
      exact ⟨by simp, H9.out.below⟩
end ExpiryNil
end Go.Proofs.Ytmlbacbcdjfioaa
