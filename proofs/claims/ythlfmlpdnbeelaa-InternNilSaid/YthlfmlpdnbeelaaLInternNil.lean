/- For every id and every index seepagelaw03.InternNil returns true. No condition. -/
import Derived.Test.YthlfmlpdnbeelaaIntX
import Derived.Test.YthlfmlpdnbeelaaL3Fill
import Derived.Test.YthlfmlpdnbeelaaClose
set_option linter.unusedSimpArgs false
set_option linter.unusedVariables false
namespace Go.Proofs.Ythlfmlpdnbeelaa
open Go.ChangeShapes Go.WideShapes Go.ChangeAt Go.RowKit
namespace InternNil

set_option maxHeartbeats 4000000
set_option maxRecDepth 100000 in
theorem walk (x : Nat) (hx : x < 18446744073709551616) (i : Int) (hi : -9223372036854775808 ≤ i ∧ i ≤ 9223372036854775807) (w : World) :
    Calls Try.prog 12 #[.int .u64 x, .int .i64 i] w fun e w' => e = .returned (.bool true) ∧ Below w.heap.size w w' := by
  have HZ := Lib.hid (fun (o1 o2 : Obj) => (show Sep w ((w.alloc o1).alloc o2) [blockT (w.heap.size + 1) o2, blockT w.heap.size o1] by
    have h1 := (Sep.start w).add ((Below.refl _ _).alloc (Nat.le_refl _) o1) (blockT w.heap.size o1) (heap_alloc_new _ _) (by rintro q rfl; exact Nat.le_refl _)
    have h2 := h1.add ((Below.refl _ _).alloc (Nat.le_refl _) o2) (blockT (w.alloc o1).heap.size o2) (heap_alloc_new _ _) (by rintro q rfl; exact Nat.le_refl _)
    simpa using h2))
  go_enter Try.func12, Try.ntmps12
  go_wp2
  go_loopw [4, 8] (fun u y wr => ∃ (k : Nat), u = .bool false ∧ y = .int .i64 k ∧ k ≤ 2 ∧ Sep w wr [blockT (w.heap.size + 1) (.cells #[.pointer none, .pointer (some ⟨w.heap.size, 0, none⟩)] 25 (0, 0)), blockT w.heap.size (.cells #[.pointer none, .int .i64 0, .slice none 0 0, .slice none 0 0] 64 (0, 0))]) (fun _ y _ => 2 - (intOf y).toNat)
  case atStart => exact ⟨0, rfl, rfl, Nat.zero_le _, HZ.out _ _⟩
  case round =>
    obtain ⟨k, rfl, rfl, hk, hsep⟩ := hrel
    by_cases hlt : k < 2
    · obtain ⟨p, hc, hp⟩ : ∃ p, wr.cell? ⟨w.heap.size + 1, k, none⟩ = some (.pointer p) ∧ (p = none ∨ p = some ⟨w.heap.size, 0, none⟩) := by
        have r0 : wr.cell? ⟨w.heap.size + 1, 0, none⟩ = some (.pointer none) := by rw [cell_of_row wr _ 0 _ _ _ (hsep.get 0 rfl : wr.heap[w.heap.size + 1]? = _)]; rfl
        have r1 : wr.cell? ⟨w.heap.size + 1, 1, none⟩ = some (.pointer (some ⟨w.heap.size, 0, none⟩)) := by rw [cell_of_row wr _ 1 _ _ _ (hsep.get 0 rfl : wr.heap[w.heap.size + 1]? = _)]; rfl
        have : k = 0 ∨ k = 1 := by omega
        rcases this with rfl | rfl
        · exact ⟨none, r0, Or.inl rfl⟩
        · exact ⟨_, r1, Or.inr rfl⟩
      have HN := Lib.hid (show NoTable wr p by
        rcases hp with rfl | rfl
        · exact Or.inl rfl
        · exact Or.inr ⟨_, rfl, (hsep.get 1 rfl : wr.heap[w.heap.size]? = _)⟩)
      have HS := Lib.hid hsep
      clear hsep hp
      go_wp2_with (first
        | (go_at_call 32; refine (xiCopy HN.out).mono ?_; rintro r wz ⟨rfl, rfl⟩)
        | (go_at_call 31; refine (xiList HN.out).mono ?_; rintro r wz ⟨rfl, rfl⟩)
        | (go_at_call 23; refine (xiLen HN.out).mono ?_; rintro r wz ⟨rfl, rfl⟩)
        | (go_at_call 21; refine (xiDel HN.out _).mono ?_; rintro r wz ⟨rfl, rfl⟩)
        | (go_at_call 28; refine (xiID HN.out _).mono ?_; rintro r wz ⟨rfl, rfl⟩)
        | (go_at_call 27; refine (xiGet HN.out _).mono ?_; rintro r wz ⟨rfl, rfl⟩)
        | (go_at_call 22; refine (xiPut HN.out _).mono ?_; rintro r wz ⟨rfl, rfl⟩))
      go_roundw
      case rel => exact ⟨k + 1, rfl, by simp, by omega, HS.out⟩
      case measure => simp [intOf]; omega
    · obtain rfl : k = 2 := by omega
      have HS := Lib.hid hsep
      clear hsep hlt hk
      go_wp2_with (go_at_call 19; refine (Sep.l3works HS.out).mono ?_; rintro r w9 ⟨rfl, h⟩; have H9 := Lib.hid h; clear h)
      go_ret
      exact ⟨by simp, H9.out.below⟩
end InternNil
end Go.Proofs.Ythlfmlpdnbeelaa
