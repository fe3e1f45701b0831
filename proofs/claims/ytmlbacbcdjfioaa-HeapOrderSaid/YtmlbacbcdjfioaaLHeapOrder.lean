/- For every list of keys seepagelaw04.HeapOrder returns true, and its argument reads as before. No condition. -/
import Derived.Test.YtmlbacbcdjfioaaHeapI
import Derived.Test.YtmlbacbcdjfioaaClose
set_option linter.unusedSimpArgs false
set_option linter.unusedVariables false
namespace Go.Proofs.Ytmlbacbcdjfioaa
open Go.ChangeShapes Go.WideShapes Go.ChangeAt Go.RowKit
namespace HeapOrder

set_option maxHeartbeats 4000000
set_option maxRecDepth 100000 in
theorem walk (a : Option Addr) (len cap : Nat) (zs : List Int) (w : World) (hin : IntsIn w .i64 a len cap zs) :
    Calls Try.prog 14 #[.slice a len cap] w fun e w' => e = .returned (.bool true) ∧ Below w.heap.size w w' := by
  have hle := hin.hle
  have hmax := hin.hmax
  by_cases hl : len ≤ 300
  · have HI := Lib.hid hin
    have ho := upto_ok35 hin hl
    obtain ⟨A, hA⟩ : ∃ A, Hp.upto zs len = A := ⟨_, rfl⟩
    obtain ⟨L, hL⟩ : ∃ L, Srt A L := ⟨_, Hp.sorted_srt (hA ▸ ho)⟩
    have hLl : L.length = len := srt_upto_len (hA ▸ hL) ho
    have HA := Lib.hid hA
    have HL := Lib.hid hL
    have HLL := Lib.hid hLl
    clear hin ho hA hL hLl
    go_enter Try.func14, Try.ntmps14
    go_wp2_with (first
      | (go_at_call 43; refine (Sep.l4sameEq H4.out rfl (H4.out.get 1 rfl) (H4.out.get 0 rfl)).mono ?_; rintro r w5 ⟨rfl, h⟩; have H5 := Lib.hid h; clear h H4)
      | (go_at_call 42; refine (Sep.hListEq H3.out 1 rfl HL.out HLL.out).mono ?_; rintro r w4 ⟨a4, c4, rfl, q4, m4, h⟩; have H4 := Lib.hid h; clear h H3)
      | (go_at_call 42; refine (Sep.hListEq H2.out 1 rfl HL.out HLL.out).mono ?_; rintro r w3 ⟨a3, c3, rfl, q3, m3, h⟩; have H3 := Lib.hid h; clear h H2)
      | (go_at_call 22; refine (Sep.l4filled H1.out true (HI.out.of_below H1.out.below) hl).mono ?_; rintro r w2 ⟨b2, T2, rfl, h⟩; rw [HA.out] at h; have H2 := Lib.hid h; clear h H1)
      | (go_at_call 22; refine (Sep.l4filled (Sep.start w) false HI.out hl).mono ?_; rintro r w1 ⟨b1, T1, rfl, h⟩; rw [HA.out] at h; have H1 := Lib.hid h; clear h))
    go_loopw [2, 6] (fun u y wr => ∃ (k : Nat) (A' : Hp) (S' : Nat → Prop), u = .bool false ∧ y = .int .i64 k ∧ k ≤ len ∧ Srt A' (L.drop k) ∧ Sep w wr [entsT a4 len c4 L, entsT a3 len c3 L, heapT w.heap.size b2 A' S', heapT w.heap.size b1 A T1]) (fun _ y _ => len - (intOf y).toNat)
    case atStart => exact ⟨0, A, T2, rfl, rfl, Nat.zero_le _, HL.out, H5.out⟩
    case round =>
      obtain ⟨k, A', S', rfl, rfl, hk, hs, hsep⟩ := hrel
      have HS := Lib.hid hsep
      by_cases hlt : k < len
      · have hlL : k < L.length := by rw [HLL.out]; exact hlt
        have hd : L.drop k = entAt L k :: L.drop (k + 1) := by rw [entAt_eq hlL |>.symm]; exact List.drop_eq_getElem_cons hlL
        have HM := Lib.hid (show minV (L.drop k).head? = .tuple #[.agg #[.int .i64 ((entAt L k).1 : Int), .int .i64 (entAt L k).2], .bool true] by rw [hd]; rfl)
        have HX := Lib.hid (And.intro hs (show Srt A'.popA (L.drop (k + 1)) by have := hs.pop_tail; rwa [hd, List.tail_cons] at this))
        clear hs hsep hd
        go_wp2_with (go_at_call 23; refine (Sep.hPop HS.out 2 rfl HX.out.1).mono ?_; rintro r w5 ⟨rfl, S5, h⟩; rw [HM.out]; have h5 := h.add ((Below.refl _ _).alloc (Nat.le_refl _) (.cells #[.int .i64 ((entAt L k).1 : Int), .int .i64 (entAt L k).2] 28)) (blockT w5.heap.size (.cells #[.int .i64 ((entAt L k).1 : Int), .int .i64 (entAt L k).2] 28)) (heap_alloc_new _ _) (by rintro q rfl; exact Nat.le_refl _); have kb0 := (h5.get 0 rfl : (blockT _ _).P _); obtain ⟨k0, k1, kf, _⟩ := row_two kb0; obtain ⟨b0, off, rfl, hb0, e0, e1⟩ := EntsIn.hcell (show EntsIn _ a3 len c3 L from h5.get 2 rfl) k hlt; have H6 := Lib.hid h5; clear h h5 HS kb0)
        generalize ((entAt L k).1 : Int) = x0 at *
        generalize (entAt L k).2 = x1 at *
        go_quiet (fail)
        go_wp2
        go_roundw
        case rel => exact ⟨k + 1, A'.popA, S5, rfl, by simp, by omega, HX.out.2, (H6.out.drewN _).tail⟩
        case measure => simp [intOf]; omega
      · clear hs hsep
        go_wp2_with (go_at_call 21; refine (Sep.l4works HS.out).mono ?_; rintro r w9 ⟨rfl, h⟩; have H9 := Lib.hid h; clear h)
        go_ret
        exact ⟨by simp, H9.out.below⟩
  · clear hin
    go_enter Try.func14, Try.ntmps14
    go_wp2_with (go_at_call 21; refine (l4works_any _).mono ?_; rintro e w' ⟨rfl, hb⟩)
    go_ret
    exact ⟨by simp, by assumption⟩
end HeapOrder
end Go.Proofs.Ytmlbacbcdjfioaa
