/- HpT: layer 4: plain facts for the laws; the law's own keys. -/
import Derived.Test.YtmlbacbcdjfioaaL4Fill
import Derived.Test.YtmlbacbcdjfioaaHpS
import Derived.Test.YtmlbacbcdjfioaaSep
set_option linter.unusedSimpArgs false
set_option linter.unusedVariables false
namespace Go.Proofs.Ytmlbacbcdjfioaa
open Go.ChangeShapes Go.WideShapes Go.ChangeAt Go.RowKit

/-- These of the keys. -/
def Hp.part (zs : List Int) (P : Nat → Bool) : Hp := { slots := 300, keys := fun i => if P i = true then some (zs.getD i 0) else none }
def fillP (len : Nat) (back : Bool) (k : Nat) (i : Nat) : Bool := if back = true then decide (len - k ≤ i ∧ i < len) else decide (i < k)
theorem Hp.part_zero (zs : List Int) (len : Nat) (back : Bool) : Hp.part zs (fillP len back 0) = Hp.new 300 := by
  unfold Hp.part Hp.new
  congr 1
  funext i
  cases back <;> simp [fillP] <;> omega
theorem Hp.part_step (zs : List Int) {len : Nat} {back : Bool} {k : Nat} (hk : k < len) : (Hp.part zs (fillP len back k)).put (if back = true then len - 1 - k else k) (zs.getD (if back = true then len - 1 - k else k) 0) = Hp.part zs (fillP len back (k + 1)) := by
  unfold Hp.part Hp.put
  congr 1
  funext i
  cases back with
  | false =>
    simp only [fillP, Bool.false_eq_true, if_false, decide_eq_true_eq]
    by_cases h1 : i = k
    · subst h1; simp
    · rw [if_neg h1]
      by_cases h2 : i < k
      · rw [if_pos h2, if_pos (by omega)]
      · rw [if_neg h2, if_neg (by omega)]
  | true =>
    simp only [fillP, if_true, decide_eq_true_eq]
    by_cases h1 : i = len - 1 - k
    · subst h1; rw [if_pos rfl, if_pos (by omega)]
    · rw [if_neg h1]
      by_cases h2 : len - k ≤ i ∧ i < len
      · rw [if_pos h2, if_pos (by omega)]
      · rw [if_neg h2, if_neg (by omega)]
theorem Hp.part_full (zs : List Int) (len : Nat) (back : Bool) : Hp.part zs (fillP len back len) = Hp.upto zs len := by
  unfold Hp.part Hp.upto
  congr 1
  funext i
  cases back <;> simp [fillP]

theorem upto_ok35 {w : World} {a : Option Addr} {len cap : Nat} {zs : List Int} (h : IntsIn w .i64 a len cap zs) (hl : len ≤ 300) : (Hp.upto zs len).Ok := by
  refine ⟨by simp [Hp.upto], ?_, ?_⟩
  · intro i v hi
    simp only [Hp.upto] at hi ⊢
    split at hi
    · omega
    · simp at hi
  · intro i v hi
    simp only [Hp.upto] at hi
    split at hi
    · rename_i h1
      simp at hi
      have := wf_i64 (h.getD_wf i h1)
      simp [List.getD] at this
      omega
    · simp at hi
theorem srt_upto_len {zs : List Int} {len : Nat} {L : List Ent} (h : Srt (Hp.upto zs len) L) (ho : (Hp.upto zs len).Ok) : L.length = len := by
  rw [← h.len ho]
  have hr : Rep (Hp.upto zs len) len (fun i => (i, zs.getD i 0)) := by
    refine ⟨fun i j _ _ e => e, fun i hi => by simp [Hp.upto, hi], ?_⟩
    intro i v hv
    simp only [Hp.upto] at hv
    split at hv
    · rename_i hi
      simp at hv
      exact ⟨i, hi, by simp [hv]⟩
    · simp at hv
  exact (hr.len ho).symm
namespace Hp
theorem put_put (A : Hp) (i : Nat) (x y : Int) : (A.put i x).put i y = A.put i y := by
  unfold put
  congr 1
  funext j
  by_cases h : j = i <;> simp [h]
theorem del_put (A : Hp) (i : Nat) (x : Int) : (A.del i).put i x = A.put i x := by
  unfold put del
  congr 1
  funext j
  by_cases h : j = i <;> simp [h]
theorem put_del (A : Hp) (i : Nat) (x : Int) : (A.put i x).del i = A.del i := by
  unfold put del
  congr 1
  funext j
  by_cases h : j = i <;> simp [h]
theorem put_self (A : Hp) {i : Nat} {x : Int} (h : A.keys i = some x) : A.put i x = A := by
  obtain ⟨s, k⟩ := A
  unfold put
  simp only [mk.injEq, true_and]
  funext j
  simp only at h
  by_cases e : j = i
  · rw [e, if_pos rfl, h]
  · rw [if_neg e]
theorem put_slots (A : Hp) (i : Nat) (x : Int) : (A.put i x).slots = A.slots := rfl
theorem del_slots (A : Hp) (i : Nat) : (A.del i).slots = A.slots := rfl
end Hp
theorem Sep.row_set {w0 w : World} {l : List Thing} (h : Sep w0 w l) (i : Nat) {g n : Nat} {f : Nat → Value} (hi : l[i]? = some (rowT g n f)) {k : Nat} (hk : k < n) (v : Value) :
    Sep w0 (w.setCell ⟨g, k, none⟩ v) (l.set i (rowT g n (fun j => if j = k then v else f j))) :=
  h.set i hi (F := fun q => q = g) ((Upd.refl (fun q => q = g) w).setCell (p := ⟨g, k, none⟩) (fun _ => rfl) v) (fun q hq => Or.inl hq) _ (rowT_set (h.get i hi) hk v) (fun q hq => Or.inl hq)
theorem Sep.row {w0 w : World} {l : List Thing} (h : Sep w0 w l) (i : Nat) {g n : Nat} {f : Nat → Value} (hi : l[i]? = some (rowT g n f)) {k : Nat} (hk : k < n) : w.cell? ⟨g, k, none⟩ = some (f k) := (h.get i hi).1 k hk
end Go.Proofs.Ytmlbacbcdjfioaa
