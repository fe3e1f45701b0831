/- For every number of slots, slot and time seepagelaw35.ExpiryNews returns true. No condition. -/
import Derived.Test.YtmlbacbcdjfioaaRf35C
import Derived.Test.YtmlbacbcdjfioaaExpT
import Derived.Test.YtmlbacbcdjfioaaClose
set_option linter.unusedSimpArgs false
set_option linter.unusedVariables false
namespace Go.Proofs.Ytmlbacbcdjfioaa
open Go.ChangeShapes Go.WideShapes Go.ChangeAt Go.RowKit
namespace ExpiryNews

theorem sep_swap {w0 w : World} {x y : Thing} {l : List Thing} (h : Sep w0 w (x :: y :: l)) : Sep w0 w (y :: x :: l) := by
  refine h.sub (fun i => if i = 0 then 1 else if i = 1 then 0 else i) _ ?_ ?_
  · intro i j e
    rcases i with _ | _ | i <;> rcases j with _ | _ | j <;> simp_all
  · intro i z hi
    match i, hi with
    | 0, hi => exact hi
    | 1, hi => exact hi
    | i + 2, hi => simpa using hi

set_option maxHeartbeats 4000000
set_option maxRecDepth 100000 in
theorem walk (slots : Int) (hslots : -9223372036854775808 ≤ slots ∧ slots ≤ 9223372036854775807) (slot : Int) (hslot : -9223372036854775808 ≤ slot ∧ slot ≤ 9223372036854775807) (now : Int) (hnow : -9223372036854775808 ≤ now ∧ now ≤ 9223372036854775807) (w : World) :
    Calls Try.prog 4 #[.int .i64 slots, .int .i64 slot, .int .i64 now] w fun e w' => e = .returned (.bool true) ∧ Below w.heap.size w w' := by
  by_cases hin : 0 ≤ slots ∧ slots ≤ 65536
  · obtain ⟨n, rfl⟩ := Int.eq_ofNat_of_zero_le hin.1
    have hn : n ≤ 65536 := by omega
    have HSR := Lib.hid (show Srt (Hp.new n) [] ∧ (Hp.new n).slots = n from ⟨⟨fun i v => by simp [Hp.new], List.Pairwise.nil⟩, rfl⟩)
    clear hin
    go_enter Try.func4, Try.ntmps4
    go_wp2_with (first
      | (go_at_call 28; refine (Sep.l35works H3.out).mono ?_; rintro r w4 ⟨rfl, h⟩; have H4 := Lib.hid h; clear h)
      | (go_at_call 27; refine (agree_any H2.out HSR.out.1 HSR.out.2 slot now hnow).mono ?_; rintro r w3 ⟨rfl, S3, h⟩; have H3 := Lib.hid h; clear h H2)
      | (go_at_call 26; refine (s35New_ok n _ hn).mono ?_; rintro r w2 ⟨g, rfl, hr, hg, hb⟩; have h2 := H1.out.add hb (refT w.heap.size g n [] none) ⟨_, rfl, hr.row, World.ownsRow_nil _ _ _ _, hr.ns, hr.hl, hr.wf⟩ (by rintro q (rfl | hq); exact hg; simp at hq); have H2 := Lib.hid (sep_swap h2); clear h2 hr hb hg H1)
      | (go_at_call 25; refine (eNew_ok n w hn).mono ?_; rintro r w1 ⟨e, b, S, rfl, h⟩; have H1 := Lib.hid ((Sep.start w).sched_new h); clear h))
    go_ret
    exact ⟨by simp, H4.out.below⟩
  · have hbad : slots < 0 ∨ 65536 < slots := by omega
    have H0 := Lib.hid (Sep.start w)
    clear hin
    go_enter Try.func4, Try.ntmps4
    go_wp2_with (first
      | (go_at_call 28; refine (Sep.l35works H3.out).mono ?_; rintro r w4 ⟨rfl, h⟩; have H4 := Lib.hid h; clear h)
      | (go_at_call 27; refine (agree_nil H0.out slot now).mono ?_; rintro r w3 ⟨rfl, h⟩; have H3 := Lib.hid h; clear h)
      | (go_at_call 26; refine (s35New_bad _ _ hbad).mono ?_; rintro r wz ⟨rfl, rfl⟩)
      | (go_at_call 25; refine (eNew_bad _ _ hbad).mono ?_; rintro r wz ⟨rfl, rfl⟩))
    go_ret
    exact ⟨by simp, H4.out.below⟩
end ExpiryNews
end Go.Proofs.Ytmlbacbcdjfioaa
