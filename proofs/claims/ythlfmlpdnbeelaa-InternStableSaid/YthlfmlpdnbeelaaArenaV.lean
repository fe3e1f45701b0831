/- ArenaV: layer 2: Alloc and Free. -/
import Derived.Test.YthlfmlpdnbeelaaArenaW
set_option linter.unusedSimpArgs false
set_option linter.unusedVariables false
namespace Go.Proofs.Ythlfmlpdnbeelaa
open Go.ChangeShapes Go.WideShapes Go.ChangeAt Go.RowKit

def Ar.take (A : Ar) (i : Nat) : Ar :=
  { A with fresh := if A.stack = [] then A.fresh + 1 else A.fresh, stack := A.stack.tail, times := fun j => if j = i then (A.times i + 1) % 18446744073709551616 else A.times j }

theorem Ar.next_lt {A : Ar} (h : A.Ok) {i : Nat} (hi : A.next = some i) : i < A.slots := by
  unfold Ar.next at hi
  have h1 := h.lt
  have h2 := h.fresh
  split at hi
  · rename_i x s hs
    have := h1 x (by rw [hs]; simp)
    simp only [Option.some.injEq] at hi
    omega
  · split at hi <;> simp_all

theorem Ar.take_ok {A : Ar} (h : A.Ok) {i : Nat} (hi : A.next = some i) : (A.take i).Ok := by
  unfold Ar.next at hi
  have h1 := h.lt
  have h2 := h.fresh
  have h3 := h.nodup
  split at hi
  · rename_i x s hs
    rw [hs] at h1 h3
    refine ⟨?_, h.slots, ?_, ?_⟩
    · simp [Ar.take, hs, h2]
    · simp only [Ar.take, hs, List.tail_cons]
      intro y hy
      simpa using h1 y (by simp [hy])
    · simp only [Ar.take, hs, List.tail_cons]
      exact (List.nodup_cons.1 h3).2
  · rename_i hs
    split at hi
    · refine ⟨?_, h.slots, ?_, ?_⟩
      · simp only [Ar.take, hs, if_true]; omega
      · simp [Ar.take, hs]
      · simp [Ar.take, hs]
    · simp at hi

/-- The state behind an allocation. -/
theorem Ar.take_state {A : Ar} (h : A.Ok) {i : Nat} (hi : A.next = some i) (j : Nat) : (A.take i).state j = if i = j then 1 else A.state j := by
  unfold Ar.next at hi
  have h1 := h.lt
  have h3 := h.nodup
  split at hi
  · rename_i x s hs
    rw [hs] at h1 h3
    simp only [Option.some.injEq] at hi
    subst hi
    have hx := h1 x (by simp)
    have hn := (List.nodup_cons.1 h3).1
    simp only [Ar.take, Ar.state, hs, List.tail_cons, List.mem_cons]
    by_cases e : x = j
    · subst e
      simp [hn]; omega
    · simp [e, Ne.symm e]
  · rename_i hs
    split at hi
    · rename_i hlt
      simp only [Option.some.injEq] at hi
      subst hi
      simp only [Ar.take, Ar.state, hs, if_true, List.tail_nil, List.not_mem_nil, if_false]
      by_cases e : A.fresh = j
      · subst e; simp
      · simp only [e, if_false]
        by_cases h4 : A.fresh ≤ j
        · simp only [h4, if_true]; rw [if_pos (by omega)]
        · simp only [h4, if_false]; rw [if_neg (by omega)]
    · simp at hi

theorem aAlloc_post {w : World} {b lb : Nat} {A : Ar} (h : ArenaAt w b lb A) {i : Nat} (hi : A.next = some i) (w' : World)
    (hb : ∀ o, w'.cell? ⟨b, o, none⟩ = if o = 2 then some (.int .i64 ((A.fresh : Int) - A.stack.length + 1)) else if o = 3 then some (.int .i64 (A.take i).fresh) else if o = 4 then some (.int .i64 (topOf A.stack.tail)) else w.cell? ⟨b, o, none⟩)
    (hl : ∀ o, w'.cell? ⟨lb, o, none⟩ = if o = i * 3 then some (.int .i64 1) else if o = i * 3 + 1 then some (.int .u64 ((A.times i + 1) % 18446744073709551616)) else w.cell? ⟨lb, o, none⟩)
    (fb : ∀ o, w'.frozen? ⟨b, o, none⟩ = false) (fl : ∀ o, w'.frozen? ⟨lb, o, none⟩ = false) : ArenaAt w' b lb (A.take i) := by
  have hlen : ((A.take i).fresh : Int) - (A.take i).stack.length = (A.fresh : Int) - A.stack.length + 1 := by
    simp only [Ar.take]
    cases A.stack <;> simp <;> omega
  have hs : (A.take i).slots = A.slots := rfl
  have ht : (A.take i).stack = A.stack.tail := rfl
  refine ⟨A.take_ok h.ok hi, h.ne, ?_, ?_, ?_, ?_, ?_, ?_, fb, ?_, ?_, ?_, ?_, fl⟩
  · rw [hb]; simpa using h.c0
  · rw [hb, hs]; simpa using h.c1
  · rw [hb, hlen]; simp
  · rw [hb]; simp
  · rw [hb, ht]; simp
  · rw [hs]; simp only [hb]; simpa using h.c5
  · intro j hj
    rw [hl, Ar.take_state h.ok hi]
    by_cases e : i = j
    · subst e; simp
    · rw [if_neg (by omega), if_neg (by omega), if_neg e]; exact h.r0 j hj
  · intro j hj
    rw [hl]
    by_cases e : j = i
    · subst e; rw [if_neg (by omega), if_pos rfl]; simp [Ar.take]
    · rw [if_neg (by omega), if_neg (by omega), h.r1 j hj]; simp [Ar.take, e]
  · intro j hj
    rw [hl, if_neg (by omega), if_neg (by omega)]; exact h.r2 j hj
  · intro pre x s he
    rw [hl, if_neg (by omega), if_neg (by omega)]
    rw [ht] at he
    cases hst : A.stack with
    | nil => rw [hst] at he; simp at he
    | cons y t =>
      rw [hst] at he
      simp only [List.tail_cons] at he
      exact h.r3 (y :: pre) x s (by rw [hst, he]; rfl)

theorem wrap_u64 (n : Nat) : IntKind.u64.wrap ((n : Int) + 1) = ((n + 1) % 18446744073709551616 : Nat) := by
  rw [IntKind.wrap_u64]; omega

set_option maxHeartbeats 1000000 in
theorem aAlloc_some {w : World} {b lb : Nat} {A : Ar} (h : ArenaAt w b lb A) (i : Nat) (hi : A.next = some i) :
    Calls Try.prog 62 #[.pointer (some ⟨b, 0, none⟩)] w fun e w' => e = .returned (.tuple #[.int .i64 i, .int .i64 0]) ∧ ArenaAt w' b lb (A.take i) ∧ Upd (fun k => k = b ∨ k = lb) w w' := by
  have c0 := h.c0
  have c2 := h.c2
  have c3 := h.c3
  have c4 := h.c4
  have fz := h.fz
  have rz := h.rz
  have ne := h.ne
  have HN := Lib.hid (aNext_any h)
  rw [hi] at HN
  have hslots : i < A.slots := A.next_lt h.ok hi
  have HA := Lib.hid (fun n => aAt_nat (h.drewN n) i hslots)
  have r0 := h.r0 i (by omega)
  have r1 := h.r1 i (by omega)
  have hf := h.ok.fresh
  have hm := h.ok.slots
  have H := Lib.hid h
  have HI := Lib.hid hi
  have upd : ∀ (n : Nat), Upd (fun k => k = b ∨ k = lb) w (w.drewN n) := fun n => (Upd.refl _ w).drewN n
  cases hst : A.stack with
  | nil =>
    have hif : A.fresh = i := by simp only [Ar.next, hst] at hi; split at hi <;> simp_all
    have hs : A.state i = 0 := by simp [Ar.state, hif]
    rw [hs] at r0
    rw [hst] at c2
    have HST := Lib.hid hst
    have HIF := Lib.hid hif
    have hif' : i ≤ A.fresh := by omega
    have UPD := Lib.hid upd
    clear hst hi h hs hif upd
    go_enter Try.func62, Try.ntmps62
    go_wp2_with (first | (go_at_call 88; refine HN.out.mono ?_; rintro e w' ⟨rfl, n, rfl⟩; simp only [optNat]) | (go_at_call 87; refine (HA.out _).mono ?_; rintro e w' ⟨rfl, rfl⟩))
    go_ret2
    refine ⟨by simp, ?_, ?_⟩
    · refine aAlloc_post H.out HI.out _ ?_ ?_ ?_ ?_
      · intro o
        have := HST.out
        by_cases e2 : o = 2
        · subst e2; simp [cell_set, addr_eq, ne, Ne.symm ne, this, c2, cell_drewN]
        · by_cases e3 : o = 3
          · subst e3; simp [cell_set, addr_eq, ne, Ne.symm ne, this, c3, cell_drewN, Ar.take]
          · by_cases e4 : o = 4
            · subst e4; simp [cell_set, addr_eq, ne, Ne.symm ne, this, c4, cell_drewN, topOf]
            · simp [cell_set, addr_eq, ne, Ne.symm ne, cell_drewN, e2, e3, e4, Ne.symm e2, Ne.symm e3]
      · intro o
        by_cases e2 : o = i * 3
        · subst e2; simp [cell_set, addr_eq, ne, Ne.symm ne, r0, cell_drewN]
        · by_cases e3 : o = i * 3 + 1
          · subst e3; simp [cell_set, addr_eq, ne, Ne.symm ne, r1, cell_drewN, wrap_u64]
          · simp [cell_set, addr_eq, ne, Ne.symm ne, cell_drewN, e2, e3, Ne.symm e2, Ne.symm e3]
      · intro o; simp [fz]
      · intro o; simp [rz]
    · exact ((((UPD.out n).setCell (fun _ => Or.inl rfl) _).setCell (fun _ => Or.inr rfl) _).setCell (fun _ => Or.inr rfl) _).setCell (fun _ => Or.inl rfl) _
  | cons x s =>
    have hif : x = i := by simpa [Ar.next, hst] using hi
    subst hif
    have hxf := h.ok.lt x (by rw [hst]; simp)
    have hs : A.state x = 2 := by simp [Ar.state, hst]; omega
    rw [hs] at r0
    rw [hst] at c2
    have r3 := h.r3 [] x s hst
    have HST := Lib.hid hst
    have UPD := Lib.hid upd
    have hlen := h.ok.len
    rw [hst] at hlen
    simp only [List.length_cons, Int.natCast_add, Int.natCast_one] at hlen c2
    clear hst hi h hs upd
    go_enter Try.func62, Try.ntmps62
    go_wp2_with (first | (go_at_call 88; refine HN.out.mono ?_; rintro e w' ⟨rfl, n, rfl⟩; simp only [optNat]) | (go_at_call 87; refine (HA.out _).mono ?_; rintro e w' ⟨rfl, rfl⟩))
    go_ret2
    refine ⟨by simp, ?_, ?_⟩
    · refine aAlloc_post H.out HI.out _ ?_ ?_ ?_ ?_
      · intro o
        have := HST.out
        by_cases e2 : o = 2
        · subst e2; simp [cell_set, addr_eq, ne, Ne.symm ne, this, c2, cell_drewN]
        · by_cases e3 : o = 3
          · subst e3; simp [cell_set, addr_eq, ne, Ne.symm ne, this, c3, cell_drewN, Ar.take]
          · by_cases e4 : o = 4
            · subst e4; simp [cell_set, addr_eq, ne, Ne.symm ne, this, c4, cell_drewN]
            · simp [cell_set, addr_eq, ne, Ne.symm ne, cell_drewN, e2, e3, e4, Ne.symm e2, Ne.symm e3, Ne.symm e4]
      · intro o
        by_cases e2 : o = x * 3
        · subst e2; simp [cell_set, addr_eq, ne, Ne.symm ne, r0, cell_drewN]
        · by_cases e3 : o = x * 3 + 1
          · subst e3; simp [cell_set, addr_eq, ne, Ne.symm ne, r1, cell_drewN, wrap_u64]
          · simp [cell_set, addr_eq, ne, Ne.symm ne, cell_drewN, e2, e3, Ne.symm e2, Ne.symm e3]
      · intro o; simp [fz]
      · intro o; simp [rz]
    · exact ((((UPD.out n).setCell (fun _ => Or.inl rfl) _).setCell (fun _ => Or.inr rfl) _).setCell (fun _ => Or.inr rfl) _).setCell (fun _ => Or.inl rfl) _
end Go.Proofs.Ythlfmlpdnbeelaa
