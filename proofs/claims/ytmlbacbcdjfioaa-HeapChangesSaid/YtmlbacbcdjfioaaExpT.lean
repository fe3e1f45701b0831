/- ExpT: layer 35: small facts for the laws. -/
import Derived.Test.YtmlbacbcdjfioaaExpS
import Derived.Test.YtmlbacbcdjfioaaAppAny
set_option linter.unusedSimpArgs false
set_option linter.unusedVariables false
namespace Go.Proofs.Ytmlbacbcdjfioaa
open Go.ChangeShapes Go.WideShapes Go.ChangeAt Go.RowKit

theorem upto_ok35 {w : World} {a : Option Addr} {len cap : Nat} {zs : List Int} (h : IntsIn w .i64 a len cap zs) (hl : len ≤ 300) : (Hp.upto zs len).Ok := by
  refine ⟨by simp [Hp.upto], ?_, ?_⟩
  · intro i v hi
    simp only [Hp.upto] at hi ⊢
    split at hi
    · omega
    · simp at hi
  · intro i v hi
    simp only [Hp.upto] at hi
    split at hi
    · rename_i h1
      simp at hi
      have := wf_i64 (h.getD_wf i h1)
      simp [List.getD] at this
      omega
    · simp at hi
theorem srt_upto_len {zs : List Int} {len : Nat} {L : List Ent} (h : Srt (Hp.upto zs len) L) (ho : (Hp.upto zs len).Ok) : L.length = len := by
  rw [← h.len ho]
  have hr : Rep (Hp.upto zs len) len (fun i => (i, zs.getD i 0)) := by
    refine ⟨fun i j _ _ e => e, fun i hi => by simp [Hp.upto, hi], ?_⟩
    intro i v hv
    simp only [Hp.upto] at hv
    split at hv
    · rename_i hi
      simp at hv
      exact ⟨i, hi, by simp [hv]⟩
    · simp at hv
  exact (hr.len ho).symm
theorem due_all {A : Hp} {L : List Ent} (h : Srt A L) (ho : A.Ok) : dueOf L 9223372036854775807 = L ∧ lateOf L 9223372036854775807 = [] := by
  have hb : ∀ x ∈ L, x.2 ≤ 9223372036854775807 := fun x hx => (ho.wf _ _ ((h.mem x.1 x.2).2 hx)).2
  constructor
  · unfold dueOf; rw [List.filter_eq_self]; intro x hx; simpa using hb x hx
  · unfold lateOf; rw [List.filter_eq_nil_iff]; intro x hx; have := hb x hx; simp; omega
namespace Hp
theorem setE_nat {A : Hp} {i : Nat} (h : i < A.slots) : A.setE (i : Int) = 0 := Hp.setE_in h
theorem remE_none {A : Hp} {i : Nat} (h : i < A.slots) (hk : A.keys i = none) : A.remE (i : Int) = 5 ∧ A.remA (i : Int) = A := by
  unfold remE remA
  rw [if_pos ⟨by omega, by omega⟩]
  simp [hk]
theorem remE_some {A : Hp} {i : Nat} {v : Int} (h : i < A.slots) (hk : A.keys i = some v) : A.remE (i : Int) = 0 ∧ A.remA (i : Int) = A.del i := by
  have h1 : A.keys (i : Int).toNat ≠ none := by simp [hk]
  constructor
  · unfold remE; rw [if_pos ⟨by omega, by omega⟩, if_neg h1]
  · unfold remA; rw [if_pos ⟨by omega, by omega, h1⟩]; simp
theorem put_put (A : Hp) (i : Nat) (x y : Int) : (A.put i x).put i y = A.put i y := by
  unfold put
  congr 1
  funext j
  by_cases h : j = i <;> simp [h]
theorem del_put (A : Hp) (i : Nat) (x : Int) : (A.del i).put i x = A.put i x := by
  unfold put del
  congr 1
  funext j
  by_cases h : j = i <;> simp [h]
theorem put_del (A : Hp) (i : Nat) (x : Int) : (A.put i x).del i = A.del i := by
  unfold put del
  congr 1
  funext j
  by_cases h : j = i <;> simp [h]
theorem put_self (A : Hp) {i : Nat} {x : Int} (h : A.keys i = some x) : A.put i x = A := by
  obtain ⟨s, k⟩ := A
  unfold put
  simp only [mk.injEq, true_and]
  funext j
  simp only at h
  by_cases e : j = i
  · rw [e, if_pos rfl, h]
  · rw [if_neg e]
theorem put_slots (A : Hp) (i : Nat) (x : Int) : (A.put i x).slots = A.slots := rfl
theorem del_slots (A : Hp) (i : Nat) : (A.del i).slots = A.slots := rfl
end Hp
theorem Srt.length_le {A : Hp} {L : List Ent} (h : Srt A L) (n : Nat) (hn : ∀ x ∈ L, x.1 < n) : L.length ≤ n := by
  have := h.nodup.length_le_of_subset (l₂ := List.range n) (fun y hy => by
    obtain ⟨x, hx, rfl⟩ := List.mem_map.1 hy
    exact List.mem_range.2 (hn x hx))
  simpa using this
/-- Behind a Due. -/
theorem Srt.late {A A' : Hp} {L : List Ent} {now : Int} (h : Srt A L) (h' : Srt A' (lateOf L now)) (i : Nat) : A'.keys i = match A.keys i with
    | some v => if now < v then some v else none
    | none => none := by
  have key : ∀ v, A'.keys i = some v ↔ (A.keys i = some v ∧ now < v) := by
    intro v
    rw [h'.mem, h.mem]
    unfold lateOf
    rw [List.mem_filter]
    simp
  cases hk : A'.keys i with
  | some v =>
    obtain ⟨h1, h2⟩ := (key v).1 hk
    rw [h1]; simp [h2]
  | none =>
    cases hk2 : A.keys i with
    | none => rfl
    | some v =>
      by_cases h2 : now < v
      · have := (key v).2 ⟨hk2, h2⟩
        rw [hk] at this; simp at this
      · simp [h2]
theorem Sep.row_set {w0 w : World} {l : List Thing} (h : Sep w0 w l) (i : Nat) {g n : Nat} {f : Nat → Value} (hi : l[i]? = some (rowT g n f)) {k : Nat} (hk : k < n) (v : Value) :
    Sep w0 (w.setCell ⟨g, k, none⟩ v) (l.set i (rowT g n (fun j => if j = k then v else f j))) :=
  h.set i hi (F := fun q => q = g) ((Upd.refl (fun q => q = g) w).setCell (p := ⟨g, k, none⟩) (fun _ => rfl) v) (fun q hq => Or.inl hq) _ (rowT_set (h.get i hi) hk v) (fun q hq => Or.inl hq)
theorem Sep.row {w0 w : World} {l : List Thing} (h : Sep w0 w l) (i : Nat) {g n : Nat} {f : Nat → Value} (hi : l[i]? = some (rowT g n f)) {k : Nat} (hk : k < n) : w.cell? ⟨g, k, none⟩ = some (f k) := (h.get i hi).1 k hk
theorem made_bool35 (n j : Nat) (hj : j < n) : (madeCells (Value.cells (.bool false)) (n * 1)).toList[j]? = some (.bool false) := by
  rw [show Value.cells (.bool false) = #[.bool false] from rfl, toList_madeCells_one]
  simp [hj]
theorem infoBool35 : (Try.prog.info? 4).map (fun i => (i.zero, i.size, i.bytes)) = some (some (.bool false), 1, 1) := by kernel_rfl
end Go.Proofs.Ytmlbacbcdjfioaa
