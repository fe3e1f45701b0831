/- Rf35B: layer 35: the document's schedule: New, Left, Next; nil ones. -/
import Derived.Test.YtmlbacbcdjfioaaRf35A
set_option linter.unusedSimpArgs false
set_option linter.unusedVariables false
namespace Go.Proofs.Ytmlbacbcdjfioaa
open Go.ChangeShapes Go.WideShapes Go.ChangeAt Go.RowKit

set_option maxHeartbeats 1000000
theorem s35New_ok (n : Nat) (w : World) (hn : n ≤ 65536) : Calls Try.prog 26 #[.int .i64 n] w fun r w' => ∃ g, r = .returned (.tuple #[.pointer (some ⟨g, 0, none⟩), .int .i64 0]) ∧ Ref35 w.heap.size w' g n (.slice none 0 0) [] ∧ w.heap.size ≤ g ∧ Below w.heap.size w w' := by
  have HB := Lib.hid (fun o => (Below.refl _ w).alloc (Nat.le_refl _) o)
  go_enter Try.func26, Try.ntmps26
  go_wp2
  go_ret2
  refine ⟨w.heap.size, by simp, ⟨heap_alloc_new _ _, World.ownsRow_nil _ _ _ _, hn, Nat.zero_le _, fun j hj => by simp at hj⟩, Nat.le_refl _, HB.out _⟩
theorem s35New_bad (n : Int) (w : World) (hn : n < 0 ∨ 65536 < n) : Calls Try.prog 26 #[.int .i64 n] w fun r w' => r = .returned (.tuple #[.pointer none, .int .i64 2]) ∧ w = w' := by
  by_cases h0 : n < 0
  · go_enter Try.func26, Try.ntmps26
    go_wp2
    go_ret2
    exact ⟨by simp, rfl⟩
  · have h1 : 65536 < n := by omega
    go_enter Try.func26, Try.ntmps26
    go_wp2
    go_ret2
    exact ⟨by simp, rfl⟩

/-- The six ways of a difference. -/
def Six (z now : Int) (R : Int × Int) : Prop :=
    ((-9223372036854775808 ≤ z - now ∧ z - now ≤ 9223372036854775807) ∧ 0 ≤ z ∧ now < 0 ∧ R = (z - now, 0)) ∨
    (wrap64 (z - now) < 0 ∧ 0 ≤ z ∧ now < 0 ∧ R = (0, 7)) ∨
    ((-9223372036854775808 ≤ z - now ∧ z - now ≤ 9223372036854775807) ∧ 0 ≤ z ∧ 0 ≤ now ∧ R = (z - now, 0)) ∨
    ((-9223372036854775808 ≤ z - now ∧ z - now ≤ 9223372036854775807) ∧ z < 0 ∧ now < 0 ∧ R = (z - now, 0)) ∨
    ((-9223372036854775808 ≤ z - now ∧ z - now ≤ 9223372036854775807) ∧ z < 0 ∧ 0 ≤ now ∧ R = (z - now, 0)) ∨
    (0 ≤ wrap64 (z - now) ∧ z < 0 ∧ 0 ≤ now ∧ R = (0, 7))
theorem sgn6 (z now : Int) (hz : -9223372036854775808 ≤ z ∧ z ≤ 9223372036854775807) (hn : -9223372036854775808 ≤ now ∧ now ≤ 9223372036854775807) : Six z now (subR z now) := by
  unfold Six
  by_cases hf : -9223372036854775808 ≤ z - now ∧ z - now ≤ 9223372036854775807
  · have he : subR z now = (z - now, 0) := if_pos hf
    by_cases h1 : 0 ≤ z
    · by_cases h2 : now < 0
      · exact Or.inl ⟨hf, h1, h2, he⟩
      · exact Or.inr (Or.inr (Or.inl ⟨hf, h1, by omega, he⟩))
    · by_cases h2 : now < 0
      · exact Or.inr (Or.inr (Or.inr (Or.inl ⟨hf, by omega, h2, he⟩)))
      · exact Or.inr (Or.inr (Or.inr (Or.inr (Or.inl ⟨hf, by omega, by omega, he⟩))))
  · have he : subR z now = (0, 7) := if_neg hf
    by_cases h1 : 0 ≤ z
    · exact Or.inr (Or.inl ⟨by unfold wrap64; omega, h1, by omega, he⟩)
    · exact Or.inr (Or.inr (Or.inr (Or.inr (Or.inr ⟨by unfold wrap64; omega, by omega, by omega, he⟩))))

section
variable {B : Nat} {w : World} {g n : Nat} {v : Value} {L : List Ent} {A : Hp}
theorem s35Left_any (h : Ref35 B w g n v L) (hs : Srt A L) (ha : A.slots = n) (i now : Int) (hnow : -9223372036854775808 ≤ now ∧ now ≤ 9223372036854775807) :
    Calls Try.prog 59 #[.pointer (some ⟨g, 0, none⟩), .int .i64 i, .int .i64 now] w fun r w' => r = .returned (leftV (A.leftR i now)) ∧ w = w' := by
  have HC0 := s35Check_any h i
  by_cases hin : 0 ≤ i ∧ i < (n : Int)
  · rw [show chkE n i = 0 from if_pos hin] at HC0
    have HC := Lib.hid HC0
    have HF := Lib.hid (s35Find_any h i)
    obtain ⟨c0, c1, c2, cf, hg⟩ := row_three h.row
    obtain ⟨a, cap, rfl, hcells⟩ := h.list
    -- where it stands
    have hkey : ∀ k, FindR L i k → (k = -1 ∧ A.leftR i now = (0, 5)) ∨ ∃ (j q : Nat) (z : Int), k = j ∧ j < L.length ∧ (-9223372036854775808 ≤ z ∧ z ≤ 9223372036854775807) ∧ a = some ⟨q, 0, none⟩ ∧ w.cell? ⟨q, j * 2 + 1, none⟩ = some (.int .i64 z) ∧ Six z now (A.leftR i now) := by
      rintro k (⟨rfl, hno⟩ | ⟨j, rfl, hj, he⟩)
      · refine Or.inl ⟨rfl, ?_⟩
        have hk : A.keys i.toNat = none := by
          cases hkk : A.keys i.toNat with
          | none => rfl
          | some u =>
            obtain ⟨j, hj, e⟩ := List.getElem_of_mem ((hs.mem _ _).1 hkk)
            rw [entAt_eq hj] at e
            exact absurd (by rw [e]; simp; omega) (hno j hj)
        have hr : A.remE i = 5 := by unfold Hp.remE; rw [if_pos ⟨hin.1, by omega⟩, if_pos hk]
        unfold Hp.leftR; rw [if_neg (by omega), hr]
      · obtain ⟨q, hq, _, k1⟩ := hcells j hj
        refine Or.inr ⟨j, q, (entAt L j).2, rfl, hj, h.wf j hj, hq, k1, ?_⟩
        have hk : A.keys i.toNat = some (entAt L j).2 := by
          rw [hs.mem, ← he]
          rw [show (((entAt L j).1 : Int)).toNat = (entAt L j).1 by simp]
          rw [← entAt_eq hj]
          exact List.getElem_mem hj
        have hr : A.remE i = 0 := by unfold Hp.remE; rw [if_pos ⟨hin.1, by omega⟩, if_neg (by simp [hk])]
        have hk2 : A.keyAt i = some (entAt L j).2 := by unfold Hp.keyAt; rw [if_pos hin.1, hk]
        have hr2 : A.leftR i now = subR (entAt L j).2 now := by unfold Hp.leftR; rw [if_pos hr, hk2]
        rw [hr2]
        exact sgn6 _ now (h.wf j hj) hnow
    have HK := Lib.hid hkey
    clear h hs ha hcells hkey HC0
    go_enter Try.func59, Try.ntmps59
    go_wp2_with (first
      | (go_at_call 68; refine HC.out.mono ?_; rintro r wz ⟨rfl, rfl⟩)
      | (go_at_call 70; refine HF.out.mono ?_; rintro r wz ⟨⟨k, rfl, hk⟩, rfl⟩; rcases HK.out k hk with ⟨rfl, hr⟩ | ⟨j, q, z, rfl, hj, hz, rfl, k1, (⟨hf, h1, h2, hr⟩ | ⟨h0, h1, h2, hr⟩ | ⟨hf, h1, h2, hr⟩ | ⟨hf, h1, h2, hr⟩ | ⟨hf, h1, h2, hr⟩ | ⟨h0, h1, h2, hr⟩)⟩ <;> (have HR := Lib.hid hr; clear hr hk)))
    all_goals go_ret2
    all_goals exact ⟨by rw [HR.out]; rfl, rfl⟩
  · rw [show chkE n i = 3 from if_neg hin] at HC0
    have HC := Lib.hid HC0
    have HR := Lib.hid (show A.leftR i now = (0, 3) by
      have hr : A.remE i = 3 := by unfold Hp.remE; rw [if_neg (by rw [ha]; exact hin)]
      unfold Hp.leftR; rw [if_neg (by omega), hr])
    clear h hs ha HC0
    go_enter Try.func59, Try.ntmps59
    go_wp2_with (go_at_call 68; refine HC.out.mono ?_; rintro r wz ⟨rfl, rfl⟩)
    go_ret2
    exact ⟨by rw [HR.out]; rfl, rfl⟩

theorem s35Next_any (h : Ref35 B w g n v L) : Calls Try.prog 58 #[.pointer (some ⟨g, 0, none⟩)] w fun r w' => r = .returned (minV L.head?) ∧ Below w.heap.size w w' := by
  have HV := Lib.hid (fun o => s35Valid_any (show Ref35 B (w.alloc o) g n v L from ⟨by rw [heap_alloc_old _ _ (row_three h.row).2.2.2.2]; exact h.row, h.own.alloc _, h.ns, h.hl, h.wf⟩))
  obtain ⟨c0, c1, c2, cf, hg⟩ := row_three h.row
  obtain ⟨a, cap, rfl, hcells⟩ := h.list
  cases L with
  | nil =>
    clear h hcells
    go_enter Try.func58, Try.ntmps58
    go_wp2_with (go_at_call 71; refine (HV.out _).mono ?_; rintro r wz ⟨rfl, rfl⟩)
    refine bodyPost_ret (results_2 rfl (.row (by rfl) (heap_alloc_new _ _) Try.underlying28 rfl (by kernel_rfl)) (.tmp 3 rfl)) rfl ?_
    exact ⟨rfl, (Below.refl _ _).alloc (Nat.le_refl _) _⟩
  | cons x L' =>
    obtain ⟨k, rfl, k0, k1⟩ := hcells 0 (by simp)
    simp only [entAt, List.getD_cons_zero, Nat.zero_mul, Nat.zero_add] at k0 k1
    have hk : k < w.heap.size := World.block_lt_of_cell? w _ k0
    have hlen : ((L'.length : Int) + 1 == 0) = false := by rw [beq_eq_false_iff_ne]; omega
    have HNX := Lib.hid (show minV (x :: L').head? = .tuple #[.agg #[.int .i64 (x.1 : Int), .int .i64 x.2], .bool true] from rfl)
    clear h hcells
    go_enter Try.func58, Try.ntmps58
    go_wp2_with (go_at_call 71; refine (HV.out _).mono ?_; rintro r wz ⟨rfl, rfl⟩)
    rw [HNX.out]
    refine bodyPost_ret (results_2 rfl (.row (by rfl) (heap_alloc_new _ _) Try.underlying28 rfl (by kernel_rfl)) (.tmp 3 rfl)) rfl ?_
    exact ⟨rfl, (Below.refl _ _).alloc (Nat.le_refl _) _⟩
end

/-- Nil ones. -/
theorem xs35Valid (w : World) : Calls Try.prog 71 #[.pointer none] w fun r w' => r = .returned (.bool false) ∧ w = w' := by
  go_enter Try.func71, Try.ntmps71
  go_wp2
  go_ret
  exact ⟨by simp, rfl⟩
theorem xs35Len (w : World) : Calls Try.prog 60 #[.pointer none] w fun r w' => r = .returned (.int .i64 0) ∧ w = w' := by
  go_enter Try.func60, Try.ntmps60
  go_wp2_with (go_at_call 71; refine (xs35Valid _).mono ?_; rintro r wz ⟨rfl, rfl⟩)
  go_ret
  exact ⟨by simp, rfl⟩
theorem xs35Check (w : World) (i : Int) : Calls Try.prog 68 #[.pointer none, .int .i64 i] w fun r w' => r = .returned (.int .i64 1) ∧ w = w' := by
  go_enter Try.func68, Try.ntmps68
  go_wp2_with (go_at_call 71; refine (xs35Valid _).mono ?_; rintro r wz ⟨rfl, rfl⟩)
  go_ret
  exact ⟨by simp, rfl⟩
theorem xs35Left (w : World) (i now : Int) : Calls Try.prog 59 #[.pointer none, .int .i64 i, .int .i64 now] w fun r w' => r = .returned (.tuple #[.int .i64 0, .int .i64 1]) ∧ w = w' := by
  go_enter Try.func59, Try.ntmps59
  go_wp2_with (go_at_call 68; refine (xs35Check _ _).mono ?_; rintro r wz ⟨rfl, rfl⟩)
  go_ret2
  exact ⟨by simp, rfl⟩
theorem xs35Next (w : World) : Calls Try.prog 58 #[.pointer none] w fun r w' => r = .returned (.tuple #[.agg #[.int .i64 0, .int .i64 0], .bool false]) ∧ Below w.heap.size w w' := by
  go_enter Try.func58, Try.ntmps58
  go_wp2_with (go_at_call 71; refine (xs35Valid _).mono ?_; rintro r wz ⟨rfl, rfl⟩)
  refine bodyPost_ret (results_2 rfl (.row (by rfl) (heap_alloc_new _ _) Try.underlying28 rfl (by kernel_rfl)) (.tmp 3 rfl)) rfl ?_
  exact ⟨rfl, (Below.refl _ _).alloc (Nat.le_refl _) _⟩

end Go.Proofs.Ytmlbacbcdjfioaa
