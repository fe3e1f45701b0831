/- HeapO2: layer 4: Change. -/
import Derived.Test.YtmlbacbcdjfioaaHeapP
set_option linter.unusedSimpArgs false
set_option linter.unusedVariables false
namespace Go.Proofs.Ytmlbacbcdjfioaa
open Go.ChangeShapes Go.WideShapes Go.ChangeAt Go.RowKit

section
variable {B : Nat} {w : World} {b pb : Nat} {v : Value} {slots n : Nat} {f : Nat → Ent} {P : Nat → Int}
set_option maxHeartbeats 1000000

/-- Change gives the entry at place k a new key. -/
theorem PosOk.turned (h : PosOk slots n f P) {k : Nat} (x : Int) : PosOk slots n (fun j => if j = k then ((f k).1, x) else f j) P := by
  have hf : ∀ j, ((if j = k then ((f k).1, x) else f j : Ent)).1 = (f j).1 := by
    intro j
    by_cases h1 : j = k
    · simp [h1]
    · simp [h1]
  refine ⟨?_, ?_, ?_⟩
  · intro a c ha hc e
    simp only [hf] at e
    exact h.inj a c ha hc e
  · intro a ha
    rw [hf]; exact h.at_ a ha
  · intro j hj hz
    simp only [hf] at hz
    exact h.zero j hj hz
theorem HeapMid.setKey {g cap : Nat} (h : HeapMid B w b pb (.slice (some ⟨g, 0, none⟩) n cap) slots n f P) {k : Nat} (hk : k < n) (x : Int) :
    HeapMid B (w.setCell ⟨g, k * 2 + 1, none⟩ (.int .i64 x)) b pb (.slice (some ⟨g, 0, none⟩) n cap) slots n (fun j => if j = k then ((f k).1, x) else f j) P := by
  have hgb : g ≠ b := fun e => h.vb (by rw [e]; rfl)
  have hgp : g ≠ pb := fun e => h.vp (by rw [e]; rfl)
  have e : ∀ (q : Nat) (o : Nat), q ≠ g → (w.setCell ⟨g, k * 2 + 1, none⟩ (.int .i64 x)).cell? ⟨q, o, none⟩ = w.cell? ⟨q, o, none⟩ := fun q o hq => World.cell?_setCell_other _ _ _ _ (by simp <;> omega)
  refine ⟨h.hs, ?_, h.ns, h.ne, (e _ 0 hgb.symm).trans h.c0, (e _ 1 hgb.symm).trans h.c1, ?_, (e _ 3 hgb.symm).trans h.c3, fun o => by rw [frozen_set]; exact h.fb o, fun i hi => (e _ i hgp.symm).trans (h.pos i hi), fun o => by rw [frozen_set]; exact h.fp o, ?_, h.vb, h.vp, by simpa using h.bs, by simpa using h.pl⟩
  · intro j hj
    by_cases hjk : j = k
    · simp [hjk, h.lt k hk]
    · simp only [hjk, if_false]; exact h.lt j hj
  · obtain ⟨m, cap, c, r⟩ := h.c2
    exact ⟨m, cap, (e _ 2 hgb.symm).trans c, r⟩
  · rw [← flat_set1 hk]
    exact (h.own.stored _ _).1

theorem hChange_some (h : HeapRaw B w b pb v slots n f) (ho : HeapOrd n f) {k : Nat} (hk : k < n) (x : Int) :
    Calls Try.prog 49 #[.pointer (some ⟨b, 0, none⟩), .int .i64 ((f k).1 : Int), .int .i64 x] w fun e w' => e = .returned (.int .i64 0) ∧
      ∃ f', HeapRaw B w' b pb v slots n f' ∧ HeapOrd n f' ∧ SameEnts n (fun j => if j = k then ((f k).1, x) else f j) f' ∧ Upd (HFoot b pb v) w w' := by
  obtain ⟨P, hm, hpos⟩ := h.mid
  have hns := h.n_le
  have hs := h.hs
  have hn3 : n ≤ 65536 := by omega
  have HC := Lib.hid (hCheck_some h hk)
  obtain ⟨g, cap, rfl, hnc, hcm, cells, fz, hgb, hgp⟩ := hm.entry hk
  have c3 := h.c3
  have k1 := (cells k hk).2
  have HX := Lib.hid (ho.turned k ((f k).1, x))
  have HR := Lib.hid ((hm.setKey hk x).raw (hpos.turned x))
  have HU1 := Lib.hid (Upd.refl (HFoot b pb (.slice (some ⟨g, 0, none⟩) n cap)) w)
  clear h ho hm hpos cells
  go_enter Try.func49, Try.ntmps49
  go_wp2_with (first
    | (go_at_call 76; refine HC.out.mono ?_; rintro e w' ⟨rfl, rfl⟩)
    | (go_at_call 78; refine (hSettle_any HR.out hk HX.out).mono ?_; rintro e w4 ⟨rfl, hq⟩; have HQ := Lib.hid hq; clear hq))
  go_ret
  obtain ⟨f', h1, h2, h3, h4⟩ := HQ.out
  exact ⟨by simp, f', h3, h1, h2, (HU1.out.setCell (p := ⟨g, k * 2 + 1, none⟩) (fun _ => Or.inr (Or.inr rfl)) _).trans h4 (fun _ _ h => h)⟩
end
end Go.Proofs.Ytmlbacbcdjfioaa
