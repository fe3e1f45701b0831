/- ExpL: layer 35: Left; layer 1: Sub. -/
import Derived.Test.YtmlbacbcdjfioaaExpB
import Derived.Test.YtmlbacbcdjfioaaBit64
set_option linter.unusedSimpArgs false
set_option linter.unusedVariables false
namespace Go.Proofs.Ytmlbacbcdjfioaa
open Go.ChangeShapes Go.WideShapes Go.ChangeAt Go.RowKit

/-- a - b, if it fits. -/
def subR (a b : Int) : Int × Int := if -9223372036854775808 ≤ a - b ∧ a - b ≤ 9223372036854775807 then (a - b, 0) else (0, 7)
set_option maxHeartbeats 1000000
theorem cSub_any (a b : Int) (w : World) (ha : -9223372036854775808 ≤ a ∧ a ≤ 9223372036854775807) (hb : -9223372036854775808 ≤ b ∧ b ≤ 9223372036854775807) :
    Calls Try.prog 65 #[.int .i64 a, .int .i64 b] w fun e w' => e = .returned (.tuple #[.int .i64 (subR a b).1, .int .i64 (subR a b).2]) ∧ w = w' := by
  have hd := wrap_ok (a - b)
  have h1 := and_neg (xor_ok a b) (xor_ok a (IntKind.i64.wrap (a - b)))
  rw [xor_neg (show ok64 a from ha) (show ok64 b from hb), xor_neg (show ok64 a from ha) hd] at h1
  rw [show IntKind.i64.wrap (a - b) = wrap64 (a - b) by rw [IntKind.wrap_i64]; unfold wrap64; rfl] at h1 hd
  by_cases hf : -9223372036854775808 ≤ a - b ∧ a - b ≤ 9223372036854775807
  · have H2 := Lib.hid (show subR a b = (a - b, 0) from if_pos hf)
    have hw : wrap64 (a - b) = a - b := by unfold wrap64; omega
    rw [hw] at h1
    have h3 : decide (bits .and .i64 (bits .xor .i64 a b) (bits .xor .i64 a (a - b)) < 0) = false := by
      rw [decide_eq_false_iff_not, h1]; omega
    clear h1 hd hw
    go_enter Try.func65, Try.ntmps65
    go_wp2
    go_ret2
    exact ⟨by rw [H2.out]; rfl, rfl⟩
  · have H2 := Lib.hid (show subR a b = (0, 7) from if_neg hf)
    have h3 : decide (bits .and .i64 (bits .xor .i64 a b) (bits .xor .i64 a (wrap64 (a - b))) < 0) = true := by
      rw [decide_eq_true_iff, h1]
      unfold wrap64
      omega
    clear h1 hd
    go_enter Try.func65, Try.ntmps65
    go_wp2
    go_ret2
    exact ⟨by rw [H2.out]; rfl, rfl⟩

def Hp.leftR (A : Hp) (i now : Int) : Int × Int := if A.remE i = 0 then (match A.keyAt i with
  | some v => subR v now
  | none => (0, 0)) else (0, A.remE i)
def leftV (p : Int × Int) : Value := .tuple #[.int .i64 p.1, .int .i64 p.2]

/-- Two one-cell blocks are set. -/
theorem ones_set {w : World} {g k : Nat} {a d : Value} {t1 t2 : TypeId} (hne : g ≠ k) (h1 : w.heap[g]? = some (.cells #[a] t1 (0, 0))) (h2 : w.heap[k]? = some (.cells #[d] t2 (0, 0))) (p : Value) :
    (w.setCell ⟨g, 0, none⟩ p).heap[g]? = some (.cells #[p] t1 (0, 0)) ∧ (w.setCell ⟨g, 0, none⟩ p).heap[k]? = some (.cells #[d] t2 (0, 0)) :=
  ⟨row_one_set h1 p, by rw [Below.heap_setCell _ _ _ _ (by simpa using hne.symm)]; exact h2⟩
/-- Four new blocks. -/
theorem four_new {w w1 : World} {A B C D : Obj} {F : Nat → Prop} (hF : ∀ k, F k → k < w.heap.size) (h : Upd F ((((w.alloc A).alloc B).alloc C).alloc D) w1) :
    w1.heap[w.heap.size]? = some A ∧ w1.heap[w.heap.size + 1]? = some B ∧ w1.heap[w.heap.size + 2]? = some C ∧ w1.heap[w.heap.size + 3]? = some D ∧ w.heap.size + 4 ≤ w1.heap.size := by
  have hz := h.size
  simp only [World.size_alloc] at hz
  have hk : ∀ k, w.heap.size ≤ k → k < w.heap.size + 4 → w1.heap[k]? = ((((w.alloc A).alloc B).alloc C).alloc D).heap[k]? := fun k h1 h2 => h.keep k (by simp <;> omega) (fun hf => absurd (hF k hf) (by omega))
  refine ⟨?_, ?_, ?_, ?_, by omega⟩
  · rw [hk _ (by omega) (by omega), heap_alloc_old _ _ (by simp <;> omega), heap_alloc_old _ _ (by simp <;> omega), heap_alloc_old _ _ (by simp), heap_alloc_new]
  · rw [hk _ (by omega) (by omega), heap_alloc_old _ _ (by simp <;> omega), heap_alloc_old _ _ (by simp), heap_alloc2_new]
  · rw [hk _ (by omega) (by omega), heap_alloc_old _ _ (by simp)]
    have := heap_alloc_new ((w.alloc A).alloc B) C
    simpa using this
  · rw [hk _ (by omega) (by omega)]
    have := heap_alloc_new (((w.alloc A).alloc B).alloc C) D
    simpa using this

section
variable {w0 w : World} {e b : Nat} {A : Hp} {S : Nat → Prop}
/-- Cells of blocks that are new, but older than the heap's own new ones, are set at the end. -/
theorem ENext.fin {wM w1 w' : World} {A' : Hp} {S1 F : Nat → Prop} (h : EIn w0 w e b A S) (hb : Below w.heap.size w wM) (a1 : EIn w0 w1 e b A' S1) (a2 : ∀ k, S1 k → S k ∨ wM.heap.size ≤ k) (a3 : Upd S wM w1)
    (hu : Upd F w1 w') (hF : ∀ k, F k → w.heap.size ≤ k ∧ k < wM.heap.size) : ENext w0 w w' e b A' S := by
  have he := h.lt
  have h0 := h.ge
  have hz := hb.size
  refine ⟨S1, a1.upd hu ?_ ?_ ?_, fun k hk => ?_, ?_⟩
  · intro k hk hf
    have h1 := hF k hf
    rcases a2 k hk with h2 | h2
    · have := (h.foot h2).2; omega
    · omega
  · intro k hk hf
    have := hF k hf; omega
  · intro hf
    have := hF e hf; omega
  · rcases a2 k hk with h2 | h2
    · exact Or.inl h2
    · exact Or.inr (by omega)
  · have hu1 : Upd S w wM := (Upd.of_below hb).mono (fun i hi hg => absurd hg (by omega))
    exact ((hu1.trans a3 (fun _ _ h => h))).trans hu (fun i hi hf => absurd (hF i hf) (by omega))

theorem eLeft_none (h : EIn w0 w e b A S) (i now : Int) (hr : A.remE i ≠ 0) :
    Calls Try.prog 34 #[.pointer (some ⟨e, 0, none⟩), .int .i64 i, .int .i64 now] w fun r w' => r = .returned (.tuple #[.int .i64 0, .int .i64 (A.remE i)]) ∧ ENext w0 w w' e b A S := by
  have c0 := h.cell
  have hlt := h.lt
  have HB := Lib.hid (fun (o1 o2 o3 o4 : Obj) => ((((Below.refl w.heap.size w).alloc (Nat.le_refl _) o1).alloc (by simp) o2).alloc (by simp; omega) o3).alloc (by simp; omega) o4)
  have hk : A.keyAt i = none := by
    unfold Hp.keyAt Hp.remE at *
    split
    · cases hkk : A.keys i.toNat with
      | none => rfl
      | some v => exact absurd (by rw [if_pos ⟨by omega, by have := h.ok.lt _ _ hkk; omega⟩]; simp [hkk]) hr
    · rfl
  have hc : A.chgA i 0 = A := by
    unfold Hp.chgA
    rw [if_neg]
    rintro ⟨x, y, z⟩
    exact hr (by unfold Hp.remE; rw [if_pos ⟨x, y⟩, if_neg z])
  have HK := Lib.hid (fun (o1 o2 o3 o4 : Obj) => hKey_at (h.below (HB.out o1 o2 o3 o4)).hin.1 i)
  rw [hk] at HK
  have HP := Lib.hid (fun (o1 o2 o3 o4 : Obj) => (h.below (HB.out o1 o2 o3 o4)).hin.change i 0 (by omega))
  rw [hc] at HP
  have HE := Lib.hid h
  have HN := Lib.hid (show ∀ k, S k → k < w.heap.size from fun k hk => (h.foot hk).2)
  have c4 : ∀ o1 o2 o3 o4, ((((w.alloc o1).alloc o2).alloc o3).alloc o4).cell? ⟨e, 0, none⟩ = some (.pointer (some ⟨b, 0, none⟩)) := fun o1 o2 o3 o4 => ((HB.out o1 o2 o3 o4).cell (p := ⟨e, 0, none⟩) hlt).trans c0
  clear h hk hc hr c0
  go_enter Try.func34, Try.ntmps34
  go_wp2_with (first
    | (go_at_call 51; refine (HK.out _ _ _ _).mono ?_; rintro r w1 ⟨rfl, rfl⟩; simp only [keyV])
    | (go_at_call 49; refine (HP.out _ _ _ _).mono ?_; rintro r w1 ⟨rfl, h1⟩; have k1 := (HE.out.below (HB.out _ _ _ _)).next h1; obtain ⟨S1, a1, a2, a3⟩ := k1; obtain ⟨b0, b1, b2, b3, hz⟩ := four_new HN.out a3; obtain ⟨p1, p2, _⟩ := row_one b2; obtain ⟨p3, p4, _⟩ := row_one b3; have H1 := Lib.hid (And.intro a1 (And.intro a2 (And.intro a3 (And.intro b2 b3)))); clear h1 a1 a2 a3 b0 b1 b2 b3)
    | (go_at_call 61; go_in)
    | (go_at_call 64; go_in))
  go_region
  go_wp2
  obtain ⟨a1, a2, a3, b2, b3⟩ := H1.out
  have n1 := (ones_set (by omega) b3 b2 (.int .i64 (A.remE i)))
  have n2 := (ones_set (by omega) n1.2 n1.1 (.int .i64 0))
  have n3 := (ones_set (by omega) n2.2 n2.1 (.int .i64 (A.remE i)))
  have m1 := (row_one ((heap_drew_at _ _).trans n3.2)).1
  have m2 := (row_one ((heap_drew_at _ _).trans n3.1)).1
  refine bodyPost_ret (results_2 rfl (.cell (by rfl) Try.underlying2 rfl m1) (.cell (by rfl) Try.underlying34 rfl m2)) rfl ?_
  refine ⟨rfl, ENext.fin HE.out (HB.out _ _ _ _) a1 a2 a3 (F := fun k => k = w.heap.size + 2 ∨ k = w.heap.size + 3) ?_ ?_⟩
  · exact ((((Upd.refl _ w1).setCell (p := ⟨w.heap.size + 1 + 1 + 1, 0, none⟩) (fun _ => Or.inr rfl) _).setCell (p := ⟨w.heap.size + 1 + 1, 0, none⟩) (fun _ => Or.inl rfl) _).setCell (p := ⟨w.heap.size + 1 + 1 + 1, 0, none⟩) (fun _ => Or.inr rfl) _).drew
  · rintro k (rfl | rfl) <;> simp <;> omega

theorem eLeft_some (h : EIn w0 w e b A S) (i now v : Int) (hk : A.keyAt i = some v) (hn : -9223372036854775808 ≤ now ∧ now ≤ 9223372036854775807) :
    Calls Try.prog 34 #[.pointer (some ⟨e, 0, none⟩), .int .i64 i, .int .i64 now] w fun r w' => r = .returned (leftV (subR v now)) ∧ Below w.heap.size w w' := by
  have c0 := h.cell
  have hlt := h.lt
  have HB := Lib.hid (fun (o1 o2 o3 o4 : Obj) => ((((Below.refl w.heap.size w).alloc (Nat.le_refl _) o1).alloc (by simp) o2).alloc (by simp; omega) o3).alloc (by simp; omega) o4)
  have HK := Lib.hid (fun (o1 o2 o3 o4 : Obj) => hKey_at (h.below (HB.out o1 o2 o3 o4)).hin.1 i)
  rw [hk] at HK
  have hv : -9223372036854775808 ≤ v ∧ v ≤ 9223372036854775807 := by
    unfold Hp.keyAt at hk
    split at hk
    · exact h.ok.wf _ _ hk
    · simp at hk
  obtain ⟨d0, d1, hd⟩ : ∃ d0 d1, subR v now = (d0, d1) := ⟨_, _, rfl⟩
  have HS := Lib.hid (fun w1 => cSub_any v now w1 hv hn)
  rw [hd] at HS ⊢
  have c4 : ∀ o1 o2 o3 o4, ((((w.alloc o1).alloc o2).alloc o3).alloc o4).cell? ⟨e, 0, none⟩ = some (.pointer (some ⟨b, 0, none⟩)) := fun o1 o2 o3 o4 => ((HB.out o1 o2 o3 o4).cell (p := ⟨e, 0, none⟩) hlt).trans c0
  clear h hk c0 hd
  go_enter Try.func34, Try.ntmps34
  go_wp2_with (first
    | (go_at_call 51; refine (HK.out _ _ _ _).mono ?_; rintro r w1 ⟨rfl, rfl⟩; simp only [keyV])
    | (go_at_call 65; refine (HS.out _).mono ?_; rintro r w1 ⟨rfl, rfl⟩)
    | (go_at_call 61; go_in)
    | (go_at_call 64; go_in))
  go_region
  go_wp2
  obtain ⟨_, _, b2, b3, _⟩ := four_new (w := w) (A := .cells #[.int .i64 i] 3) (B := .cells #[.int .i64 now] 2) (C := .cells #[.int .i64 d0] 2) (D := .cells #[.int .i64 d1] 34) (F := fun _ => False) (fun _ h => h.elim) (Upd.refl _ _)
  have m1 := (row_one ((heap_drew_at _ _).trans b2)).1
  have m2 := (row_one ((heap_drew_at _ _).trans b3)).1
  refine bodyPost_ret (results_2 rfl (.cell (by rfl) Try.underlying2 rfl m1) (.cell (by rfl) Try.underlying34 rfl m2)) rfl ?_
  exact ⟨rfl, (HB.out _ _ _ _).drew⟩

theorem keyAt_some (h : A.Ok) {i v : Int} (hk : A.keyAt i = some v) : A.remE i = 0 := by
  unfold Hp.keyAt at hk
  split at hk
  · unfold Hp.remE
    have := h.lt _ _ hk
    rw [if_pos ⟨by omega, by omega⟩, if_neg (by simp [hk])]
  · simp at hk
theorem keyAt_none {i : Int} (hk : A.keyAt i = none) : A.remE i ≠ 0 := by
  unfold Hp.keyAt at hk
  unfold Hp.remE
  split at hk
  · split
    · simp [hk]
    · omega
  · rw [if_neg (by omega)]; omega
theorem eLeft_any (h : EIn w0 w e b A S) (i now : Int) (hn : -9223372036854775808 ≤ now ∧ now ≤ 9223372036854775807) :
    Calls Try.prog 34 #[.pointer (some ⟨e, 0, none⟩), .int .i64 i, .int .i64 now] w fun r w' => r = .returned (leftV (A.leftR i now)) ∧ ENext w0 w w' e b A S := by
  cases hk : A.keyAt i with
  | none =>
    have hr := keyAt_none hk
    refine (eLeft_none h i now hr).mono ?_
    rintro r w' ⟨rfl, h2⟩
    exact ⟨by unfold Hp.leftR leftV; rw [if_neg hr], h2⟩
  | some v =>
    refine (eLeft_some h i now v hk hn).mono ?_
    rintro r w' ⟨rfl, h2⟩
    exact ⟨by unfold Hp.leftR; rw [if_pos (keyAt_some h.ok hk), hk], h.stay h2⟩
end
end Go.Proofs.Ytmlbacbcdjfioaa
