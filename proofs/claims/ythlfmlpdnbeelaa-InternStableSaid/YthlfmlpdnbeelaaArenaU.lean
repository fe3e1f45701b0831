/- ArenaU: layer 2: Alloc at a full arena, Free, Used, Times, Len, Cap. -/
import Derived.Test.YthlfmlpdnbeelaaArenaV
set_option linter.unusedSimpArgs false
set_option linter.unusedVariables false
namespace Go.Proofs.Ythlfmlpdnbeelaa
open Go.ChangeShapes Go.WideShapes Go.ChangeAt Go.RowKit

set_option maxHeartbeats 400000 in
theorem aAlloc_none {w : World} {b lb : Nat} {A : Ar} (h : ArenaAt w b lb A) (hi : A.next = none) :
    Calls Try.prog 62 #[.pointer (some ⟨b, 0, none⟩)] w fun e w' => e = .returned (.tuple #[.int .i64 0, .int .i64 4]) ∧ ∃ n, w' = w.drewN n := by
  have c0 := h.c0
  have HN := Lib.hid (aNext_any h)
  rw [hi] at HN
  clear hi h
  go_enter Try.func62, Try.ntmps62
  go_wp2_with (first | (go_at_call 88; refine HN.out.mono ?_; rintro e w' ⟨rfl, n, rfl⟩; simp only [optNat]))
  go_ret2
  exact ⟨by simp, n, rfl⟩

def Ar.freed (A : Ar) (i : Nat) : Ar := { A with stack := i :: A.stack }

theorem Ar.freed_ok {A : Ar} (h : A.Ok) {i : Nat} (hu : A.used i = true) : (A.freed i).Ok := by
  simp only [Ar.used, decide_eq_true_eq] at hu
  refine ⟨h.fresh, h.slots, ?_, ?_⟩
  · intro x hx
    simp only [Ar.freed, List.mem_cons] at hx
    rcases hx with rfl | hx
    · exact hu.1
    · exact h.lt x hx
  · simp only [Ar.freed]
    exact List.nodup_cons.2 ⟨hu.2, h.nodup⟩

theorem Ar.freed_state {A : Ar} {i : Nat} (hu : A.used i = true) (j : Nat) : (A.freed i).state j = if i = j then 2 else A.state j := by
  simp only [Ar.used, decide_eq_true_eq] at hu
  simp only [Ar.freed, Ar.state, List.mem_cons]
  by_cases e : i = j
  · subst e; simp; omega
  · simp [e, Ne.symm e]

theorem Ar.state_used {A : Ar} {i : Nat} (hu : A.used i = true) : A.state i = 1 := by
  simp only [Ar.used, decide_eq_true_eq] at hu
  simp [Ar.state, hu.2]; omega
theorem Ar.state_not_used {A : Ar} {i : Nat} (hu : A.used i = false) : A.state i = 0 ∨ A.state i = 2 := by
  simp only [Ar.used, decide_eq_false_iff_not] at hu
  unfold Ar.state
  by_cases h1 : A.fresh ≤ i
  · simp [h1]
  · by_cases h2 : i ∈ A.stack
    · simp [h1, h2]
    · exact absurd ⟨by omega, h2⟩ hu

theorem aFree_post {w : World} {b lb : Nat} {A : Ar} (h : ArenaAt w b lb A) {i : Nat} (hu : A.used i = true) (w' : World)
    (hb : ∀ o, w'.cell? ⟨b, o, none⟩ = if o = 2 then some (.int .i64 ((A.fresh : Int) - A.stack.length - 1)) else if o = 4 then some (.int .i64 i) else w.cell? ⟨b, o, none⟩)
    (hl : ∀ o, w'.cell? ⟨lb, o, none⟩ = if o = i * 3 then some (.int .i64 2) else if o = i * 3 + 2 then some (.int .i64 (topOf A.stack)) else w.cell? ⟨lb, o, none⟩)
    (fb : ∀ o, w'.frozen? ⟨b, o, none⟩ = false) (fl : ∀ o, w'.frozen? ⟨lb, o, none⟩ = false) : ArenaAt w' b lb (A.freed i) := by
  have hu' := hu
  simp only [Ar.used, decide_eq_true_eq] at hu'
  have hs : (A.freed i).slots = A.slots := rfl
  have hf : (A.freed i).fresh = A.fresh := rfl
  have ht : (A.freed i).stack = i :: A.stack := rfl
  have hlen : ((A.freed i).fresh : Int) - (A.freed i).stack.length = (A.fresh : Int) - A.stack.length - 1 := by
    rw [ht, hf]; simp; omega
  refine ⟨A.freed_ok h.ok hu, h.ne, ?_, ?_, ?_, ?_, ?_, ?_, fb, ?_, ?_, ?_, ?_, fl⟩
  · rw [hb]; simpa using h.c0
  · rw [hb, hs]; simpa using h.c1
  · rw [hb, hlen]; simp
  · rw [hb, hf]; simpa using h.c3
  · rw [hb, ht]; simp [topOf]
  · rw [hs]; simp only [hb]; simpa using h.c5
  · intro j hj
    rw [hl, Ar.freed_state hu]
    by_cases e : i = j
    · subst e; simp
    · rw [if_neg (by omega), if_neg (by omega), if_neg e]; exact h.r0 j hj
  · intro j hj
    rw [hl, if_neg (by omega), if_neg (by omega)]; exact h.r1 j hj
  · intro j hj
    rw [hl, if_neg (by omega)]
    by_cases e : j = i
    · subst e; simp
    · rw [if_neg (by omega)]; exact h.r2 j hj
  · intro pre x s he
    rw [ht] at he
    cases pre with
    | nil =>
      simp only [List.nil_append, List.cons.injEq] at he
      obtain ⟨rfl, rfl⟩ := he
      rw [hl, if_neg (by omega), if_pos rfl]
    | cons y t =>
      simp only [List.cons_append, List.cons.injEq] at he
      obtain ⟨rfl, he⟩ := he
      have hx : x ≠ i := fun e => hu'.2 (by rw [he, e]; simp)
      rw [hl, if_neg (by omega), if_neg (by omega)]
      exact h.r3 t x s he

set_option maxHeartbeats 1000000 in
theorem aFree_used {w : World} {b lb : Nat} {A : Ar} (h : ArenaAt w b lb A) (i : Nat) (hu : A.used i = true) :
    Calls Try.prog 58 #[.pointer (some ⟨b, 0, none⟩), .int .i64 i] w fun e w' => e = .returned (.int .i64 0) ∧ ArenaAt w' b lb (A.freed i) ∧ Upd (fun k => k = b ∨ k = lb) w w' := by
  have c0 := h.c0
  have c2 := h.c2
  have c4 := h.c4
  have fz := h.fz
  have rz := h.rz
  have ne := h.ne
  have hf := h.ok.fresh
  have hm := h.ok.slots
  have hu' := hu
  simp only [Ar.used, decide_eq_true_eq] at hu'
  have hif := hu'.1
  have hlen := h.ok.len
  have hslots : i < A.slots := by omega
  have HA := Lib.hid (aAt_nat h i hslots)
  have r0 := h.r0 i (by omega)
  rw [Ar.state_used hu] at r0
  obtain ⟨v2, r2⟩ := h.r2 i (by omega)
  have H := Lib.hid h
  have HU := Lib.hid hu
  have UPD := Lib.hid (Upd.refl (fun k => k = b ∨ k = lb) w)
  clear h hu hu'
  go_enter Try.func58, Try.ntmps58
  go_wp2_with (first | (go_at_call 87; refine HA.out.mono ?_; rintro e w' ⟨rfl, rfl⟩))
  go_ret
  refine ⟨by simp, ?_, ?_⟩
  · refine aFree_post H.out HU.out _ ?_ ?_ ?_ ?_
    · intro o
      by_cases e2 : o = 2
      · subst e2; simp [cell_set, addr_eq, ne, Ne.symm ne, c2]
      · by_cases e4 : o = 4
        · subst e4; simp [cell_set, addr_eq, ne, Ne.symm ne, c4]
        · simp [cell_set, addr_eq, ne, Ne.symm ne, e2, e4, Ne.symm e2, Ne.symm e4]
    · intro o
      by_cases e2 : o = i * 3
      · subst e2; simp [cell_set, addr_eq, ne, Ne.symm ne, r0]
      · by_cases e3 : o = i * 3 + 2
        · subst e3; simp [cell_set, addr_eq, ne, Ne.symm ne, r2]
        · simp [cell_set, addr_eq, ne, Ne.symm ne, e2, e3, Ne.symm e2, Ne.symm e3]
    · intro o; simp [fz]
    · intro o; simp [rz]
  · exact (((UPD.out.setCell (fun _ => Or.inr rfl) _).setCell (fun _ => Or.inr rfl) _).setCell (fun _ => Or.inl rfl) _).setCell (fun _ => Or.inl rfl) _

set_option maxHeartbeats 400000 in
theorem aFree_out {w : World} {b lb : Nat} {A : Ar} (h : ArenaAt w b lb A) (i : Int) (hi : i < 0 ∨ (A.slots : Int) ≤ i) :
    Calls Try.prog 58 #[.pointer (some ⟨b, 0, none⟩), .int .i64 i] w fun e w' => e = .returned (.int .i64 3) ∧ w = w' := by
  have c0 := h.c0
  have HA := Lib.hid (aAt_out h i hi)
  clear h hi
  go_enter Try.func58, Try.ntmps58
  go_wp2_with (first | (go_at_call 87; refine HA.out.mono ?_; rintro e w' ⟨rfl, rfl⟩))
  go_ret
  exact ⟨by simp, rfl⟩

set_option maxHeartbeats 400000 in
theorem aFree_unused {w : World} {b lb : Nat} {A : Ar} (h : ArenaAt w b lb A) (i : Nat) (hi : i < A.slots) (hu : A.used i = false) :
    Calls Try.prog 58 #[.pointer (some ⟨b, 0, none⟩), .int .i64 i] w fun e w' => e = .returned (.int .i64 5) ∧ w = w' := by
  have c0 := h.c0
  have HA := Lib.hid (aAt_nat h i hi)
  have r0 := h.r0 i (by omega)
  rcases Ar.state_not_used hu with hs | hs
  all_goals
    rw [hs] at r0
    clear hs h hu
    go_enter Try.func58, Try.ntmps58
    go_wp2_with (first | (go_at_call 87; refine HA.out.mono ?_; rintro e w' ⟨rfl, rfl⟩))
    go_ret
    exact ⟨by simp, rfl⟩

/-! ### Used, Times, Len, Cap -/
def Ar.usedAt (A : Ar) (i : Int) : Bool := decide (0 ≤ i) && A.used i.toNat
def Ar.timesAt (A : Ar) (i : Int) : Nat := if 0 ≤ i ∧ i < A.slots then A.times i.toNat else 0

set_option maxHeartbeats 400000 in
theorem aUsed_any {w : World} {b lb : Nat} {A : Ar} (h : ArenaAt w b lb A) (i : Int) :
    Calls Try.prog 63 #[.pointer (some ⟨b, 0, none⟩), .int .i64 i] w fun e w' => e = .returned (.bool (A.usedAt i)) ∧ w = w' := by
  by_cases hi : 0 ≤ i ∧ i < A.slots
  · obtain ⟨j, rfl⟩ := Int.eq_ofNat_of_zero_le hi.1
    have hj : j < A.slots := by omega
    have HA := Lib.hid (aAt_nat h j hj)
    have r0 := h.r0 j (by omega)
    cases hu : A.used j with
    | true =>
      rw [Ar.state_used hu] at r0
      have HR := Lib.hid (show A.usedAt (j : Int) = true by simp [Ar.usedAt, hu])
      clear h hi hu
      go_enter Try.func63, Try.ntmps63
      go_wp2_with (first | (go_at_call 87; refine HA.out.mono ?_; rintro e w' ⟨rfl, rfl⟩))
      go_ret
      exact ⟨by simp [HR.out], rfl⟩
    | false =>
      have HR := Lib.hid (show A.usedAt (j : Int) = false by simp [Ar.usedAt, hu])
      rcases Ar.state_not_used hu with hs | hs
      all_goals
        rw [hs] at r0
        clear h hi hu hs
        go_enter Try.func63, Try.ntmps63
        go_wp2_with (first | (go_at_call 87; refine HA.out.mono ?_; rintro e w' ⟨rfl, rfl⟩))
        go_ret
        exact ⟨by simp [HR.out], rfl⟩
  · have HA := Lib.hid (aAt_out h i (by omega))
    have HR := Lib.hid (show A.usedAt i = false by
      simp only [Ar.usedAt, Ar.used, Bool.and_eq_false_iff, decide_eq_false_iff_not]
      have := h.ok.fresh
      omega)
    clear h hi
    go_enter Try.func63, Try.ntmps63
    go_wp2_with (first | (go_at_call 87; refine HA.out.mono ?_; rintro e w' ⟨rfl, rfl⟩))
    go_ret
    exact ⟨by simp [HR.out], rfl⟩


set_option maxHeartbeats 400000 in
theorem aLen_any {w : World} {b lb : Nat} {A : Ar} (h : ArenaAt w b lb A) :
    Calls Try.prog 60 #[.pointer (some ⟨b, 0, none⟩)] w fun e w' => e = .returned (.int .i64 ((A.fresh : Int) - A.stack.length)) ∧ w = w' := by
  have c2 := h.c2
  clear h
  go_enter Try.func60, Try.ntmps60
  go_wp2
  go_ret
  exact ⟨by simp, rfl⟩

set_option maxHeartbeats 400000 in
theorem aCap_any {w : World} {b lb : Nat} {A : Ar} (h : ArenaAt w b lb A) :
    Calls Try.prog 80 #[.pointer (some ⟨b, 0, none⟩)] w fun e w' => e = .returned (.int .i64 A.slots) ∧ w = w' := by
  have c1 := h.c1
  clear h
  go_enter Try.func80, Try.ntmps80
  go_wp2
  go_ret
  exact ⟨by simp, rfl⟩
end Go.Proofs.Ythlfmlpdnbeelaa
