/- Rf35C: layer 35: agree. -/
import Derived.Test.YtmlbacbcdjfioaaRf35B
import Derived.Test.YtmlbacbcdjfioaaExpN
set_option linter.unusedSimpArgs false
set_option linter.unusedVariables false
namespace Go.Proofs.Ytmlbacbcdjfioaa
open Go.ChangeShapes Go.WideShapes Go.ChangeAt Go.RowKit

/-- The document's schedule among the things that a law holds. -/
def refT (B g n : Nat) (L : List Ent) (bk : Option Nat) : Thing where
  P w := ∃ v, v.ownBlock = bk ∧ Ref35 B w g n v L
  S q := q = g ∨ bk = some q
  st w w' h hk hs := by
    obtain ⟨v, hv, h⟩ := h
    exact ⟨v, hv, ⟨(hk g (Or.inl rfl)).trans h.row, ownT.owns_keep h.own (fun q hq => hk q (Or.inr (by rw [← hv]; exact hq))), h.ns, h.hl, h.wf⟩⟩
  lt w h q hq := by
    obtain ⟨v, hv, h⟩ := h
    rcases hq with rfl | hq
    · exact (row_three h.row).2.2.2.2
    · exact (h.own.lt q (by rw [hv]; exact hq)).2

set_option maxHeartbeats 2000000
set_option maxRecDepth 100000 in
theorem agree_any {w0 w : World} {e b g n : Nat} {A : Hp} {S : Nat → Prop} {bk : Option Nat} {L : List Ent} (h : Sep w0 w [schedT w0.heap.size e b A S, refT w0.heap.size g n L bk]) (hs : Srt A L) (ha : A.slots = n) (slot now : Int) (hnow : -9223372036854775808 ≤ now ∧ now ≤ 9223372036854775807) :
    Calls Try.prog 27 #[.pointer (some ⟨e, 0, none⟩), .pointer (some ⟨g, 0, none⟩), .int .i64 slot, .int .i64 now] w fun r w' => r = .returned (.bool true) ∧ ∃ S', Sep w0 w' [schedT w0.heap.size e b A S', refT w0.heap.size g n L bk] := by
  have HS := Lib.hid h
  have HR := Lib.hid (And.intro hs ha)
  obtain ⟨x0, x1, x2, hx⟩ : ∃ x0 x1 x2, minV L.head? = .tuple #[.agg #[.int .i64 x0, .int .i64 x1], .bool x2] := by
    cases L.head? with
    | none => exact ⟨0, 0, false, rfl⟩
    | some x => exact ⟨_, _, true, rfl⟩
  obtain ⟨d0, d1, hd⟩ : ∃ d0 d1, A.leftR slot now = (d0, d1) := ⟨_, _, rfl⟩
  have HX := Lib.hid hx
  have HD := Lib.hid hd
  clear h hs ha hx hd
  go_enter Try.func27, Try.ntmps27
  go_wp2_with (first
    | (go_at_call 60; refine (s35Len_any (H3.out.get 3 rfl : (refT _ _ _ _ _).P _).choose_spec.2).mono ?_; rintro r wz ⟨rfl, rfl⟩)
    | (go_at_call 30; refine (Sep.eLen H3.out 2 rfl HR.out.1).mono ?_; rintro r wz ⟨rfl, rfl⟩)
    | (go_at_call 59; refine (s35Left_any (H3.out.get 3 rfl : (refT _ _ _ _ _).P _).choose_spec.2 HR.out.1 HR.out.2 slot now hnow).mono ?_; rintro r wz ⟨rfl, rfl⟩; rw [HD.out]; simp only [leftV])
    | (go_at_call 34; refine (Sep.eLeft H2.out 2 rfl slot now hnow).mono ?_; rintro r w3 ⟨rfl, S3, h⟩; rw [HD.out]; simp only [leftV]; have kb1 := (h.get 1 rfl : (blockT _ _).P _); have kb0 := (h.get 0 rfl : (blockT _ _).P _); obtain ⟨k0, k1, kf, _⟩ := row_two kb0; obtain ⟨l0, l1, lf, _⟩ := row_two kb1; have H3 := Lib.hid h; clear h H2 kb0 kb1)
    | (go_at_call 58; refine (s35Next_any (H1.out.get 2 rfl : (refT _ _ _ _ _).P _).choose_spec.2).mono ?_; rintro r w2 ⟨rfl, hb⟩; rw [HX.out]; have h2 := (H1.out.keep hb).add ((Below.refl _ _).alloc (Nat.le_refl _) (.cells #[.int .i64 x0, .int .i64 x1] 28)) (blockT w2.heap.size (.cells #[.int .i64 x0, .int .i64 x1] 28)) (heap_alloc_new _ _) (by rintro q rfl; exact Nat.le_refl _); have H2 := Lib.hid h2; clear h2 hb H1)
    | (go_at_call 31; refine (Sep.eNext HS.out 0 rfl HR.out.1).mono ?_; rintro r w1 ⟨rfl, h, _⟩; rw [HX.out]; have h1 := h.add ((Below.refl _ _).alloc (Nat.le_refl _) (.cells #[.int .i64 x0, .int .i64 x1] 28)) (blockT w1.heap.size (.cells #[.int .i64 x0, .int .i64 x1] 28)) (heap_alloc_new _ _) (by rintro q rfl; exact Nat.le_refl _); have H1 := Lib.hid h1; clear h h1 HS))
  go_ret
  exact ⟨by simp, S3, H3.out.tail.tail⟩

set_option maxRecDepth 100000 in
theorem agree_nil {w0 w : World} {l : List Thing} (h : Sep w0 w l) (slot now : Int) :
    Calls Try.prog 27 #[.pointer none, .pointer none, .int .i64 slot, .int .i64 now] w fun r w' => r = .returned (.bool true) ∧ Sep w0 w' l := by
  have HS := Lib.hid h
  have HN := Lib.hid (fun w : World => show NoSched w none from Or.inl rfl)
  clear h
  go_enter Try.func27, Try.ntmps27
  go_wp2_with (first
    | (go_at_call 60; refine (xs35Len _).mono ?_; rintro r wz ⟨rfl, rfl⟩)
    | (go_at_call 30; refine (xeLen (HN.out _)).mono ?_; rintro r wz ⟨rfl, rfl⟩)
    | (go_at_call 59; refine (xs35Left _ _ _).mono ?_; rintro r wz ⟨rfl, rfl⟩)
    | (go_at_call 34; refine (xeLeft (HN.out _) slot now).mono ?_; rintro r w3 ⟨rfl, hb⟩; have h := H2.out.keep hb; have kb1 := (h.get 1 rfl : (blockT _ _).P _); have kb0 := (h.get 0 rfl : (blockT _ _).P _); obtain ⟨k0, k1, kf, _⟩ := row_two kb0; obtain ⟨l0, l1, lf, _⟩ := row_two kb1; have H3 := Lib.hid h; clear h H2 kb0 kb1 hb)
    | (go_at_call 58; refine (xs35Next _).mono ?_; rintro r w2 ⟨rfl, hb⟩; have h2 := (H1.out.keep hb).add ((Below.refl _ _).alloc (Nat.le_refl _) (.cells #[.int .i64 0, .int .i64 0] 28)) (blockT w2.heap.size (.cells #[.int .i64 0, .int .i64 0] 28)) (heap_alloc_new _ _) (by rintro q rfl; exact Nat.le_refl _); have H2 := Lib.hid h2; clear h2 hb H1)
    | (go_at_call 31; refine (xeNext (HN.out _)).mono ?_; rintro r w1 ⟨rfl, hb⟩; have h1 := (HS.out.keep hb).add ((Below.refl _ _).alloc (Nat.le_refl _) (.cells #[.int .i64 0, .int .i64 0] 28)) (blockT w1.heap.size (.cells #[.int .i64 0, .int .i64 0] 28)) (heap_alloc_new _ _) (by rintro q rfl; exact Nat.le_refl _); have H1 := Lib.hid h1; clear hb h1 HS))
  go_ret
  exact ⟨by simp, H3.out.tail.tail⟩
end Go.Proofs.Ytmlbacbcdjfioaa
