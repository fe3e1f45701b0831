/- ArenaT: layer 2: List. -/
import Derived.Test.YthlfmlpdnbeelaaInfo
import Derived.Test.YthlfmlpdnbeelaaInts
import Derived.Test.YthlfmlpdnbeelaaArenaU
set_option linter.unusedSimpArgs false
set_option linter.unusedVariables false
namespace Go.Proofs.Ythlfmlpdnbeelaa
open Go.ChangeShapes Go.WideShapes Go.ChangeAt Go.RowKit


def Ar.listTo (A : Ar) (k : Nat) : List Nat := (List.range k).filter A.used
def Ar.list (A : Ar) : List Nat := A.listTo A.slots
theorem Ar.listTo_len (A : Ar) (k : Nat) : (A.listTo k).length ≤ k := by
  have := List.length_filter_le A.used (List.range k)
  rw [List.length_range] at this
  exact this
theorem Ar.listTo_succ (A : Ar) (k : Nat) : A.listTo (k + 1) = A.listTo k ++ if A.used k then [k] else [] := by
  unfold Ar.listTo
  rw [List.range_succ, List.filter_append]
  congr 1
  by_cases h : A.used k <;> simp [h]

set_option maxHeartbeats 1000000 in
theorem aList_any {w : World} {b lb : Nat} {A : Ar} (h : ArenaAt w b lb A) :
    Calls Try.prog 68 #[.pointer (some ⟨b, 0, none⟩)] w fun e w' => ∃ v, e = .returned v ∧ w'.ownsRow w.heap.size 3 1 v A.list.length (ints A.list) ∧ Below w.heap.size w w' := by
  have HC := Lib.hid (aCap_any h)
  have hm := h.ok.slots
  have H := Lib.hid h
  clear h
  go_enter Try.func68, Try.ntmps68
  go_wp2_with (go_at_call 80; refine HC.out.mono ?_; rintro e w' ⟨rfl, rfl⟩)
  go_loopw [3, 7] (fun v i wr => ∃ k : Nat, k ≤ A.slots ∧ i = .int .i64 k ∧ wr.ownsRow w.heap.size 3 1 v (A.listTo k).length (ints (A.listTo k)) ∧ Below w.heap.size w wr) (fun _ i _ => A.slots - (intOf i).toNat)
  case atStart => exact ⟨0, Nat.zero_le _, rfl, by simpa [Ar.listTo, ints] using World.ownsRow_nil w w.heap.size 3 1, Below.refl _ _⟩
  case round =>
    obtain ⟨k, hk, rfl, hown, hbel⟩ := hrel
    by_cases hlt : k < A.slots
    · have h2 : ArenaAt wr b lb A := H.out.of_blocks (hbel.block _ H.out.b_lt) (hbel.block _ (H.out.lb_lt (by omega)))
      have HU := Lib.hid (aUsed_any h2 (k : Int))
      have hsz := hbel.size
      have hll := A.listTo_len k
      have HS := Lib.hid (A.listTo_succ k)
      have HB := Lib.hid hbel
      clear h2 hbel
      cases hu : A.used k with
      | true =>
        have hu2 : A.usedAt (k : Int) = true := by simp [Ar.usedAt, hu]
        rw [hu2] at HU
        rw [hu] at HS
        simp only [if_true] at HS
        clear hu hu2
        go_wp2_with (first
          | (go_at_call 63; refine HU.out.mono ?_; rintro e w' ⟨rfl, rfl⟩)
          | (at_builtin; refine wpList_append1 _ _ 38 rfl rfl infoInt Try.underlying38 rfl (by decide) rfl rfl (hown.alloc _) rfl (cell_one (u := .int .i64 k) (ad := ⟨wr.heap.size, 0, none⟩) (by simp)) (one_oneCell rfl) (by unfold maxLen; omega) (by omega) (by simp; omega) ?_; intro v' w1 hown1 hgr1 _))
        have hb1 : Below w.heap.size w w1 := (HB.out.alloc hsz _).grown hgr1 (by simp; omega) (fun q hq => (hown.lt q hq).1)
        go_wp2
        go_roundw
        case rel =>
          refine ⟨k + 1, by omega, by simp, ?_, hb1⟩
          rw [HS.out]
          simpa [ints] using hown1
        case measure => simp [intOf]; omega
      | false =>
        have hu2 : A.usedAt (k : Int) = false := by simp [Ar.usedAt, hu]
        rw [hu2] at HU
        rw [hu] at HS
        simp only [Bool.false_eq_true, if_false, List.append_nil] at HS
        clear hu hu2
        go_wp2_with (first
          | (go_at_call 63; refine HU.out.mono ?_; rintro e w' ⟨rfl, rfl⟩))
        go_roundw
        case rel =>
          refine ⟨k + 1, by omega, by simp, ?_, HB.out⟩
          rw [HS.out]
          exact hown
        case measure => simp [intOf]; omega
    · have hks : k = A.slots := by omega
      have HO := Lib.hid hown
      have HB := Lib.hid hbel
      clear hown hbel
      go_wp2
      go_ret
      refine ⟨_, rfl, ?_, HB.out⟩
      have := HO.out
      rw [hks] at this
      exact this
end Go.Proofs.Ythlfmlpdnbeelaa
