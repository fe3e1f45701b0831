/- For every list of keys, every index and every key seepagelaw04.HeapCopies returns true, and its arguments read as before. No condition. -/
import Derived.Test.YtmlbacbcdjfioaaHeapI
import Derived.Test.YtmlbacbcdjfioaaClose
set_option linter.unusedSimpArgs false
set_option linter.unusedVariables false
namespace Go.Proofs.Ytmlbacbcdjfioaa
open Go.ChangeShapes Go.WideShapes Go.ChangeAt Go.RowKit
namespace HeapCopies

set_option maxHeartbeats 4000000
set_option maxRecDepth 100000 in
theorem walk (a : Option Addr) (len cap : Nat) (zs : List Int) (i : Int) (hi : -9223372036854775808 ≤ i ∧ i ≤ 9223372036854775807) (x : Int) (hx : -9223372036854775808 ≤ x ∧ x ≤ 9223372036854775807) (w : World) (hin : IntsIn w .i64 a len cap zs) :
    Calls Try.prog 17 #[.slice a len cap, .int .i64 i, .int .i64 x] w fun e w' => e = .returned (.bool true) ∧ Below w.heap.size w w' := by
  have hle := hin.hle
  have hmax := hin.hmax
  by_cases hl : len ≤ 300
  · have HI := Lib.hid hin
    have ho := upto_ok35 hin hl
    obtain ⟨A, hA⟩ : ∃ A, Hp.upto zs len = A := ⟨_, rfl⟩
    obtain ⟨L, hL⟩ : ∃ L, Srt A L := ⟨_, Hp.sorted_srt (hA ▸ ho)⟩
    have ho1 : (A.chgA i x).Ok := by
      rcases A.rem_cases i with ⟨_, _, h3, _⟩ | ⟨j, v, _, h2, _, _, _, h3⟩
      · rw [h3]; exact hA ▸ ho
      · rw [h3]; exact Hp.put_ok (hA ▸ ho) h2 hx
    obtain ⟨A1, hA1⟩ : ∃ A1, A.chgA i x = A1 := ⟨_, rfl⟩
    rw [hA1] at ho1
    have ho2 : (A1.pushA i x).Ok := by
      rcases A1.push_cases i with ⟨_, h3⟩ | ⟨j, _, h2, _, _, h3⟩
      · rw [h3]; exact ho1
      · rw [h3]; exact Hp.put_ok ho1 h2 hx
    obtain ⟨A2, hA2⟩ : ∃ A2, A1.pushA i x = A2 := ⟨_, rfl⟩
    rw [hA2] at ho2
    obtain ⟨M, hM⟩ : ∃ M, Srt A2 M := ⟨_, Hp.sorted_srt ho2⟩
    have hM3 := hM.pop_tail
    obtain ⟨A3, hA3⟩ : ∃ A3, A2.popA = A3 := ⟨_, rfl⟩
    rw [hA3] at hM3
    obtain ⟨M3, hM3e⟩ : ∃ M3, M.tail = M3 := ⟨_, rfl⟩
    rw [hM3e] at hM3
    have hoB : (A.remA i).Ok := by
      rcases A.rem_cases i with ⟨_, h3, _⟩ | ⟨j, v, _, h2, _, _, h3, _⟩
      · rw [h3]; exact hA ▸ ho
      · rw [h3]; exact Hp.del_ok (hA ▸ ho) j
    obtain ⟨B1, hB1⟩ : ∃ B1, A.remA i = B1 := ⟨_, rfl⟩
    rw [hB1] at hoB
    obtain ⟨N, hN⟩ : ∃ N, Srt B1 N := ⟨_, Hp.sorted_srt hoB⟩
    obtain ⟨r1, hr1⟩ : ∃ r1, A.remE i = r1 := ⟨_, rfl⟩
    obtain ⟨r2, hr2⟩ : ∃ r2, A1.pushE i = r2 := ⟨_, rfl⟩
    obtain ⟨x0, x1, x2, hm⟩ := minV_shape M.head?
    obtain ⟨y0, y1, y2, hm2⟩ := minV_shape N.head?
    have HA := Lib.hid hA
    have HL := Lib.hid hL
    have HA1 := Lib.hid hA1
    have HA2 := Lib.hid hA2
    have HA3 := Lib.hid hA3
    have HM := Lib.hid hM
    have HM3 := Lib.hid hM3
    have HB1 := Lib.hid hB1
    have HN := Lib.hid hN
    have HR1 := Lib.hid hr1
    have HR2 := Lib.hid hr2
    have HX := Lib.hid hm
    have HY := Lib.hid hm2
    clear hin ho hA hL ho1 hA1 ho2 hA2 hM hA3 hM3 hoB hB1 hN hr1 hr2 hm hm2 hM3e
    go_enter Try.func17, Try.ntmps17
    go_wp2_with (first
      | (go_at_call 21; refine (Sep.l4works H15.out).mono ?_; rintro r w16 ⟨rfl, h⟩; have H16 := Lib.hid h; clear h H15)
      | (go_at_call 43; refine (Sep.l4sameEq H14.out rfl (H14.out.get 0 rfl) (H14.out.get 1 rfl)).mono ?_; rintro r w15 ⟨rfl, h⟩; have H15 := Lib.hid h; clear h H14)
      | (go_at_call 42; refine (Sep.hListEq H13.out 3 rfl HM3.out rfl).mono ?_; rintro r w14 ⟨a14, c14, rfl, q14, m14, h⟩; have H14 := Lib.hid h; clear h H13)
      | (go_at_call 23; refine (Sep.hPop H12.out 5 rfl HN.out).mono ?_; rintro r w13 ⟨rfl, T13, h⟩; rw [HY.out]; have H13 := Lib.hid h; clear h H12)
      | (go_at_call 44; refine (Sep.hRemove H11.out 5 rfl i).mono ?_; rintro r w12 ⟨rfl, T12, h⟩; rw [HB1.out] at h; rw [HR1.out]; have H12 := Lib.hid h; clear h H11)
      | (go_at_call 42; refine (Sep.hListEq H10.out 2 rfl HM3.out rfl).mono ?_; rintro r w11 ⟨a11, c11, rfl, q11, m11, h⟩; have H11 := Lib.hid h; clear h H10)
      | (go_at_call 43; refine (Sep.l4sameEq H9.out rfl (H9.out.get 0 rfl) (H9.out.get 3 rfl)).mono ?_; rintro r w10 ⟨rfl, h⟩; have H10 := Lib.hid h; clear h H9)
      | (go_at_call 42; refine (Sep.hListEq H8.out 3 rfl HL.out rfl).mono ?_; rintro r w9 ⟨a9, c9, rfl, q9, m9, h⟩; have H9 := Lib.hid h; clear h H8)
      | (go_at_call 23; refine (Sep.hPop H7.out 1 rfl HM.out).mono ?_; rintro r w8 ⟨rfl, T8, h⟩; rw [HX.out]; rw [HA3.out] at h; have H8 := Lib.hid h; clear h H7)
      | (go_at_call 50; refine (Sep.hPush H6.out 1 rfl i x hx).mono ?_; rintro r w7 ⟨rfl, T7, h⟩; rw [HA2.out] at h; rw [HR2.out]; have H7 := Lib.hid h; clear h H6)
      | (go_at_call 49; refine (Sep.hChange H5.out 1 rfl i x hx).mono ?_; rintro r w6 ⟨rfl, T6, h⟩; rw [HA1.out] at h; rw [HR1.out]; have H6 := Lib.hid h; clear h H5)
      | (go_at_call 43; refine (Sep.l4sameEq H4.out rfl (H4.out.get 0 rfl) (H4.out.get 2 rfl)).mono ?_; rintro r w5 ⟨rfl, h⟩; have H5 := Lib.hid h; clear h H4)
      | (go_at_call 42; refine (Sep.hListEq H3.out 0 rfl HL.out rfl).mono ?_; rintro r w4 ⟨a4, c4, rfl, q4, m4, h⟩; have H4 := Lib.hid h; clear h H3)
      | (go_at_call 48; refine (Sep.hCopy H2.out 1 rfl).mono ?_; rintro r w3 ⟨b3, T3, rfl, h⟩; have H3 := Lib.hid h; clear h H2)
      | (go_at_call 42; refine (Sep.hListEq H1.out 0 rfl HL.out rfl).mono ?_; rintro r w2 ⟨a2, c2, rfl, q2, m2, h⟩; have H2 := Lib.hid h; clear h H1)
      | (go_at_call 22; refine (Sep.l4filled (Sep.start w) false HI.out hl).mono ?_; rintro r w1 ⟨b1, T1, rfl, h⟩; rw [HA.out] at h; have H1 := Lib.hid h; clear h))
    go_ret
    exact ⟨by simp, H16.out.below⟩
  · clear hin
    go_enter Try.func17, Try.ntmps17
    go_wp2_with (go_at_call 21; refine (l4works_any _).mono ?_; rintro e w' ⟨rfl, hb⟩)
    go_ret
    exact ⟨by simp, by assumption⟩
end HeapCopies
end Go.Proofs.Ytmlbacbcdjfioaa
