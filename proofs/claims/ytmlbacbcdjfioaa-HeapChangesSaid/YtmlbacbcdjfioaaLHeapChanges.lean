/- For every list of keys, every index and every key seepagelaw04.HeapChanges returns true, and its arguments read as before. No condition. -/
import Derived.Test.YtmlbacbcdjfioaaHeapI
import Derived.Test.YtmlbacbcdjfioaaClose
set_option linter.unusedSimpArgs false
set_option linter.unusedVariables false
namespace Go.Proofs.Ytmlbacbcdjfioaa
open Go.ChangeShapes Go.WideShapes Go.ChangeAt Go.RowKit
namespace HeapChanges

set_option maxHeartbeats 4000000
set_option maxRecDepth 100000 in
theorem walk (a : Option Addr) (len cap : Nat) (zs : List Int) (i : Int) (hi : -9223372036854775808 ≤ i ∧ i ≤ 9223372036854775807) (x : Int) (hx : -9223372036854775808 ≤ x ∧ x ≤ 9223372036854775807) (w : World) (hin : IntsIn w .i64 a len cap zs) :
    Calls Try.prog 18 #[.slice a len cap, .int .i64 i, .int .i64 x] w fun e w' => e = .returned (.bool true) ∧ Below w.heap.size w w' := by
  have hle := hin.hle
  have hmax := hin.hmax
  by_cases hl : len ≤ 300
  · have HI := Lib.hid hin
    have ho := upto_ok35 hin hl
    obtain ⟨A, hA⟩ : ∃ A, Hp.upto zs len = A := ⟨_, rfl⟩
    rw [hA] at ho
    have HA := Lib.hid hA
    rcases A.rem_cases i with ⟨hE, hR, hC, hK⟩ | ⟨j, v, hj, hjs, hjk, hE, hR, hC⟩
    · obtain ⟨L, hL⟩ : ∃ L, Srt A L := ⟨_, Hp.sorted_srt ho⟩
      have HL := Lib.hid hL
      have HC := Lib.hid (hC x)
      have HR := Lib.hid hR
      have HK := Lib.hid (show keyV (A.keyAt i) = .tuple #[.int .i64 0, .bool false] by rw [hK ho]; rfl)
      clear hin ho hA hL hC hR hK
      rcases hE with hE | hE
      all_goals have HE := Lib.hid hE
      all_goals clear hE
      all_goals
        go_enter Try.func18, Try.ntmps18
        go_wp2_with (first
          | (go_at_call 21; refine (Sep.l4works H7.out).mono ?_; rintro r w8 ⟨rfl, h⟩; have H8 := Lib.hid h; clear h H7)
          | (go_at_call 43; refine (Sep.l4sameEq H6.out rfl (H6.out.get 1 rfl) (H6.out.get 0 rfl)).mono ?_; rintro r w7 ⟨rfl, h⟩; have H7 := Lib.hid h; clear h H6)
          | (go_at_call 42; refine (Sep.hListEq H5.out 1 rfl HL.out rfl).mono ?_; rintro r w6 ⟨a6, c6, rfl, q6, m6, h⟩; have H6 := Lib.hid h; clear h H5)
          | (go_at_call 42; refine (Sep.hListEq H4.out 1 rfl HL.out rfl).mono ?_; rintro r w5 ⟨a5, c5, rfl, q5, m5, h⟩; have H5 := Lib.hid h; clear h H4)
          | (go_at_call 51; refine (Sep.hKey H4.out 1 rfl i).mono ?_; rintro r wz ⟨rfl, rfl⟩; rw [HK.out])
          | (go_at_call 44; refine (Sep.hRemove H3.out 0 rfl i).mono ?_; rintro r w4 ⟨rfl, T4, h⟩; rw [HR.out] at h; rw [HE.out]; have H4 := Lib.hid h; clear h H3)
          | (go_at_call 49; refine (Sep.hChange H2.out 1 rfl i x hx).mono ?_; rintro r w3 ⟨rfl, T3, h⟩; rw [HC.out] at h; rw [HE.out]; have H3 := Lib.hid h; clear h H2)
          | (go_at_call 22; refine (Sep.l4filled H1.out false (HI.out.of_below H1.out.below) hl).mono ?_; rintro r w2 ⟨b2, T2, rfl, h⟩; rw [HA.out] at h; have H2 := Lib.hid h; clear h H1)
          | (go_at_call 22; refine (Sep.l4filled (Sep.start w) false HI.out hl).mono ?_; rintro r w1 ⟨b1, T1, rfl, h⟩; rw [HA.out] at h; have H1 := Lib.hid h; clear h))
        go_ret
        exact ⟨by simp, H8.out.below⟩
    · subst hj
      obtain ⟨L, hL⟩ : ∃ L, Srt (A.put j x) L := ⟨_, Hp.sorted_srt (Hp.put_ok ho hjs hx)⟩
      have HL := Lib.hid hL
      have HC := Lib.hid (hC x)
      have HR := Lib.hid hR
      have HK := Lib.hid (show keyV ((A.put j x).keyAt (j : Int)) = .tuple #[.int .i64 x, .bool true] by simp [Hp.keyAt, Hp.put, keyV])
      have HE := Lib.hid hE
      have HP := Lib.hid (show (A.del j).pushE (j : Int) = 0 ∧ (A.del j).pushA (j : Int) x = A.put j x by
        constructor
        · unfold Hp.pushE; rw [if_pos ⟨by omega, by show (j : Int) < A.slots; omega⟩]; simp [Hp.del]
        · unfold Hp.pushA; rw [if_pos ⟨by omega, by show (j : Int) < A.slots; omega, by simp [Hp.del]⟩, Int.toNat_natCast, Hp.del_put])
      clear hin ho hA hL hC hR hE
      go_enter Try.func18, Try.ntmps18
      go_wp2_with (first
        | (go_at_call 21; refine (Sep.l4works H8.out).mono ?_; rintro r w9 ⟨rfl, h⟩; have H9 := Lib.hid h; clear h H8)
        | (go_at_call 43; refine (Sep.l4sameEq H7.out rfl (H7.out.get 1 rfl) (H7.out.get 0 rfl)).mono ?_; rintro r w8 ⟨rfl, h⟩; have H8 := Lib.hid h; clear h H7)
        | (go_at_call 42; refine (Sep.hListEq H6.out 1 rfl HL.out rfl).mono ?_; rintro r w7 ⟨a7, c7, rfl, q7, m7, h⟩; have H7 := Lib.hid h; clear h H6)
        | (go_at_call 42; refine (Sep.hListEq H5.out 1 rfl HL.out rfl).mono ?_; rintro r w6 ⟨a6, c6, rfl, q6, m6, h⟩; have H6 := Lib.hid h; clear h H5)
        | (go_at_call 51; refine (Sep.hKey H5.out 1 rfl (j : Int)).mono ?_; rintro r wz ⟨rfl, rfl⟩; rw [HK.out])
        | (go_at_call 50; refine (Sep.hPush H4.out 0 rfl (j : Int) x hx).mono ?_; rintro r w5 ⟨rfl, T5, h⟩; rw [HP.out.2] at h; rw [HP.out.1]; have H5 := Lib.hid h; clear h H4)
        | (go_at_call 44; refine (Sep.hRemove H3.out 0 rfl (j : Int)).mono ?_; rintro r w4 ⟨rfl, T4, h⟩; rw [HR.out] at h; rw [HE.out]; have H4 := Lib.hid h; clear h H3)
        | (go_at_call 49; refine (Sep.hChange H2.out 1 rfl (j : Int) x hx).mono ?_; rintro r w3 ⟨rfl, T3, h⟩; rw [HC.out] at h; rw [HE.out]; have H3 := Lib.hid h; clear h H2)
        | (go_at_call 22; refine (Sep.l4filled H1.out false (HI.out.of_below H1.out.below) hl).mono ?_; rintro r w2 ⟨b2, T2, rfl, h⟩; rw [HA.out] at h; have H2 := Lib.hid h; clear h H1)
        | (go_at_call 22; refine (Sep.l4filled (Sep.start w) false HI.out hl).mono ?_; rintro r w1 ⟨b1, T1, rfl, h⟩; rw [HA.out] at h; have H1 := Lib.hid h; clear h))
      go_ret
      exact ⟨by simp, H9.out.below⟩
  · clear hin
    go_enter Try.func18, Try.ntmps18
    go_wp2_with (go_at_call 21; refine (l4works_any _).mono ?_; rintro e w' ⟨rfl, hb⟩)
    go_ret
    exact ⟨by simp, by assumption⟩
end HeapChanges
end Go.Proofs.Ytmlbacbcdjfioaa
