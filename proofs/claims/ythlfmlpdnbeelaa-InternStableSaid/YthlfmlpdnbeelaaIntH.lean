/- IntH: layer 3: ID, Len, New, Del. -/
import Derived.Test.YthlfmlpdnbeelaaIntG
import Derived.Deep.RegionHeld3
set_option linter.unusedSimpArgs false
set_option linter.unusedVariables false
namespace Go.Proofs.Ythlfmlpdnbeelaa
open Go.ChangeShapes Go.WideShapes Go.ChangeAt Go.RowKit

def idV (o : Option Nat) : Value := match o with
  | some i => .tuple #[.int .u64 (i : Int), .bool true]
  | none => .tuple #[.int .u64 0, .bool false]
def It.idAt (T : It) (i : Int) : Option Nat := if T.ar.usedAt i = true then some (T.ids i.toNat) else none
theorem usedAt_iff {A : Ar} (i : Int) : A.usedAt i = true ↔ ∃ j : Nat, i = j ∧ A.used j = true := by
  unfold Ar.usedAt
  rw [Bool.and_eq_true, decide_eq_true_eq]
  constructor
  · rintro ⟨h1, h2⟩
    obtain ⟨j, rfl⟩ := Int.eq_ofNat_of_zero_le h1
    exact ⟨j, rfl, by simpa using h2⟩
  · rintro ⟨j, rfl, hj⟩
    exact ⟨by omega, by simpa using hj⟩

section
variable {w0 w : World} {l r : List Thing} {t ab lb M : Nat} {T : It} {iv cv : Value} {c : Nat → Nat} {S : Nat → Prop}
set_option maxHeartbeats 4000000
set_option maxRecDepth 100000
theorem Sep.iLen (h : Sep w0 w (tabT w0.heap.size t T S :: r)) :
    Calls Try.prog 23 #[.pointer (some ⟨t, 0, none⟩)] w fun e w' => e = .returned (.int .i64 (T.ar.list.length : Nat)) ∧ w = w' := by
  obtain ⟨l, ⟨ab, lb, iv, cv, M, c, ho, rfl⟩, h2⟩ := h.unpack
  obtain ⟨q0, q1, q2, q3, qf, qg⟩ := row4 (h2.get 0 rfl : w.heap[t]? = _)
  have HV := Lib.hid (iValid_any q0)
  have ha := (h2.get 1 rfl : (arT ab lb T.ar).P w).1
  have hll := Ar.p_list_len ha.ok
  have hA := aLen_any ha
  rw [show (T.ar.fresh : Int) - T.ar.stack.length = (T.ar.list.length : Int) by omega] at hA
  have HA := Lib.hid hA
  clear h h2 ho ha hll hA
  go_enter Try.func23, Try.ntmps23
  go_wp2_with (first
    | (go_at_call 56; refine HV.out.mono ?_; rintro e wz ⟨rfl, rfl⟩)
    | (go_at_call 60; refine HA.out.mono ?_; rintro e wz ⟨rfl, rfl⟩))
  go_ret
  exact ⟨by simp, rfl⟩
theorem Sep.iLenEq (h : Sep w0 w (tabT w0.heap.size t T S :: r)) {n : Nat} (hn : T.ar.list.length = n) :
    Calls Try.prog 23 #[.pointer (some ⟨t, 0, none⟩)] w fun e w' => e = .returned (.int .i64 (n : Nat)) ∧ w = w' := by
  subst hn; exact h.iLen

theorem Sep.iID (h : Sep w0 w (tabT w0.heap.size t T S :: r)) (i : Int) :
    Calls Try.prog 28 #[.pointer (some ⟨t, 0, none⟩), .int .i64 i] w fun e w' => e = .returned (idV (T.idAt i)) ∧ w = w' := by
  obtain ⟨l, ⟨ab, lb, iv, cv, M, c, ho, rfl⟩, h2⟩ := h.unpack
  obtain ⟨q0, q1, q2, q3, qf, qg⟩ := row4 (h2.get 0 rfl : w.heap[t]? = _)
  have HV := Lib.hid (iValid_any q0)
  have ha := (h2.get 1 rfl : (arT ab lb T.ar).P w).1
  have hfv := h2.tab_fv ho
  cases hu : T.ar.usedAt i with
  | false =>
    have hA := aUsed_any ha i
    rw [hu] at hA
    have HA := Lib.hid hA
    have HR := Lib.hid (show T.idAt i = none by unfold It.idAt; rw [hu]; rfl)
    clear h h2 ho ha hA hfv hu
    go_enter Try.func28, Try.ntmps28
    go_wp2_with (first
      | (go_at_call 56; refine HV.out.mono ?_; rintro e wz ⟨rfl, rfl⟩)
      | (go_at_call 63; refine HA.out.mono ?_; rintro e wz ⟨rfl, rfl⟩))
    go_ret2
    exact ⟨by rw [HR.out]; rfl, rfl⟩
  | true =>
    have hA := aUsed_any ha i
    rw [hu] at hA
    have HA := Lib.hid hA
    have HR := Lib.hid (show T.idAt i = some (T.ids i.toNat) by unfold It.idAt; rw [hu]; rfl)
    obtain ⟨j, rfl, hj⟩ := (usedAt_iff i).1 hu
    have hjf := Ar.used_lt hj
    obtain ⟨ai, capi, d2, e1, e2, hcell⟩ := hfv.c2
    obtain ⟨bi, rfl, _, hid⟩ := hcell j hjf
    have hf6 := hfv.n6
    rw [q2] at d2
    simp only [Option.some.injEq] at d2
    subst d2
    clear h h2 ho ha hA hfv hu hj hcell
    go_enter Try.func28, Try.ntmps28
    go_wp2_with (first
      | (go_at_call 56; refine HV.out.mono ?_; rintro e wz ⟨rfl, rfl⟩)
      | (go_at_call 63; refine HA.out.mono ?_; rintro e wz ⟨rfl, rfl⟩))
    go_ret2
    exact ⟨by rw [HR.out]; simp [idV], rfl⟩

theorem Sep.iNew (h : Sep w0 w r) (n : Nat) (hn : n ≤ 65536) :
    Calls Try.prog 20 #[.int .i64 n] w fun e w' => ∃ t S, e = .returned (.tuple #[.pointer (some ⟨t, 0, none⟩), .int .i64 0]) ∧ Sep w0 w' (tabT w0.heap.size t (It.new n) S :: r) := by
  have HN := Lib.hid (h.aNew n hn)
  clear h
  go_enter Try.func20, Try.ntmps20
  go_wp2_with (first
    | (go_at_call 55; refine HN.out.mono ?_; rintro e w1 ⟨ab, lb, rfl, h1⟩; have H1 := Lib.hid h1; clear h1)
    | (at_make; refine wpList_makeN _ _ 62 rfl rfl infoI32 Try.underlying62 _ _ _ _ 8 rfl rfl (by omega) (by omega) (by omega) (by unfold maxLen; omega) ?_; intro w2 hown hgr; have hb := (Below.refl w1.heap.size w1).grown hgr (Nat.le_refl _) (fun k hk => by simp at hk); rw [made_i32] at hown; have H2 := Lib.hid (And.intro hown hb); clear hown hgr hb))
  go_ret2
  obtain ⟨hown, hb⟩ := H2.out
  have h1 := H1.out
  have h2 := h1.add hb (ownT w0.heap.size 21 1 8 (.slice (some ⟨w1.heap.size, 0, none⟩) 8 8) (cellsV 8 (fun _ => 0))) (own_base hown h1.size) (fun q hq => (hown.lt q hq).1)
  have h3 := h2.add (Below.refl _ _) (ownT w0.heap.size 23 1 0 (.slice none 0 0) (idsV 0 (fun _ => 0))) (World.ownsRow_nil _ _ _ _) (fun q hq => by simp [ownT, Value.ownBlock] at hq)
  have h4 := h3.add ((Below.refl _ _).alloc (Nat.le_refl _) (.cells #[.pointer (some ⟨ab, 0, none⟩), .int .i64 (n : Int), .slice none 0 0, .slice (some ⟨w1.heap.size, 0, none⟩) 8 8] 64 (0, 0))) (tabRow w2.heap.size ab n (.slice none 0 0) (.slice (some ⟨w1.heap.size, 0, none⟩) 8 8)) (heap_alloc_new _ _) (by rintro q rfl; exact Nat.le_refl _)
  refine ⟨w2.heap.size, _, by simp, Sep.pack (l := tabParts w0.heap.size w2.heap.size ab lb (It.new n).ar (It.new n).ids (.slice none 0 0) (.slice (some ⟨w1.heap.size, 0, none⟩) 8 8) 8 (fun _ => 0)) ?_ ⟨ab, lb, _, _, 8, _, ?_, rfl⟩⟩
  · refine h4.sub (fun i => if i = 0 then 0 else if i = 1 then 3 else if i = 2 then 1 else if i = 3 then 2 else i) _ ?_ ?_
    · intro i j e
      rcases i with _ | _ | _ | _ | i <;> rcases j with _ | _ | _ | _ | j <;> simp_all
    · intro i z hi
      match i, hi with
      | 0, hi => exact hi
      | 1, hi => exact hi
      | 2, hi => exact hi
      | 3, hi => exact hi
      | i + 4, hi => exact hi
  · refine ⟨⟨3, by omega, by omega, rfl⟩, Tab.empty (by omega) _ (fun i hi => by simp [It.new, Ar.new_used] at hi), fun i hi => by simp [It.new], fun i j hi => by simp [It.new, Ar.new_used] at hi, ?_⟩
    show 2 * (Ar.new n).list.length ≤ 8
    rw [Ar.new_len]; omega
theorem iNew_bad (n : Int) (w : World) (hn : n < 0 ∨ 65536 < n) : Calls Try.prog 20 #[.int .i64 n] w fun e w' => e = .returned (.tuple #[.pointer none, .int .i64 2]) ∧ w = w' := by
  go_enter Try.func20, Try.ntmps20
  go_wp2_with (go_at_call 55; refine (aNew_bad n _ hn).mono ?_; rintro e wz ⟨rfl, rfl⟩)
  go_ret2
  exact ⟨by simp, rfl⟩
end
end Go.Proofs.Ythlfmlpdnbeelaa
