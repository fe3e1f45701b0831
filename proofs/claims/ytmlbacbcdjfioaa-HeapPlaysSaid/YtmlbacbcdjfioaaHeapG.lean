/- HeapG: layer 4: Pop and New. -/
import Derived.Test.YtmlbacbcdjfioaaHeapH
set_option linter.unusedSimpArgs false
set_option linter.unusedVariables false
namespace Go.Proofs.Ytmlbacbcdjfioaa
open Go.ChangeShapes Go.WideShapes Go.ChangeAt Go.RowKit

theorem row_two {w : World} {g : Nat} {a c : Value} {t : TypeId} (h : w.heap[g]? = some (.cells #[a, c] t (0, 0))) :
    w.cell? ⟨g, 0, none⟩ = some a ∧ w.cell? ⟨g, 1, none⟩ = some c ∧ (∀ o, w.frozen? ⟨g, o, none⟩ = false) ∧ g < w.heap.size :=
  ⟨by rw [cell_of_row w g 0 _ _ _ h]; rfl, by rw [cell_of_row w g 1 _ _ _ h]; rfl, fun o => frozen_of_row w g o _ _ h, (Array.getElem?_eq_some_iff.1 h).1⟩
theorem row_two_set {w : World} {g : Nat} {a c : Value} {t : TypeId} (h : w.heap[g]? = some (.cells #[a, c] t (0, 0))) (p q : Value) :
    ((w.setCell ⟨g, 0, none⟩ p).setCell ⟨g, 1, none⟩ q).heap[g]? = some (.cells #[p, q] t (0, 0)) := by
  have h1 := heap_setCell_same w g 0 _ _ p h
  have h2 := heap_setCell_same _ g 1 _ _ q h1
  rw [h2]; rfl

section
variable {B : Nat} {w : World} {b : Nat} {A : Hp} {S : Nat → Prop}
set_option maxHeartbeats 1000000

theorem Left.keep {w2 w3 : World} (hL : Left B w2 w3 b A S) {k : Nat} (hk : k < w2.heap.size) (hS : ¬ S k) : w3.heap[k]? = w2.heap[k]? := by
  obtain ⟨S', _, _, hu⟩ := hL
  exact hu.keep k hk hS
/-- .. also behind a store into a block that is new. -/
theorem Left.setNew {w2 w3 : World} (hL : Left B w2 w3 b A S) (hb : Below w.heap.size w w2) (hS : ∀ k, S k → k < w.heap.size) {g : Nat} (hg : w.heap.size ≤ g) (hg2 : g < w2.heap.size) (o o2 : Nat) (p q : Value) :
    Left B w ((w3.setCell ⟨g, o, none⟩ p).setCell ⟨g, o2, none⟩ q) b A S := by
  obtain ⟨S', h1, h2, h3⟩ := hL
  have hn : ∀ k, S' k → ¬ (k = g) := by
    rintro k hk rfl
    rcases h2 k hk with h | h
    · exact absurd (hS k h) (by omega)
    · omega
  have hsz := hb.size
  refine ⟨S', h1.upd (F := fun k => k = g) (((Upd.refl (fun k => k = g) w3).setCell (p := ⟨g, o, none⟩) (fun _ => rfl) p).setCell (p := ⟨g, o2, none⟩) (fun _ => rfl) q) hn, ?_, ?_⟩
  · intro k hk
    rcases h2 k hk with h | h
    · exact Or.inl h
    · exact Or.inr (by omega)
  · have hu : Upd S w w2 := (Upd.of_below hb).mono (fun i hi hg => absurd hg (by omega))
    exact ((hu.trans h3 (fun _ _ h => h)).setCell (p := ⟨g, o, none⟩) (fun h => absurd h (by simp; omega)) p).setCell (p := ⟨g, o2, none⟩) (fun h => absurd h (by simp; omega)) q

theorem Hp.IsMin.del {A : Hp} {e : Ent} (h : A.IsMin e) : A.remE (e.1 : Int) = (if (e.1 : Int) < A.slots then 0 else 3) ∧ (e.1 < A.slots → A.remA (e.1 : Int) = A.del e.1) := by
  have ht := h.there
  constructor
  · unfold Hp.remE
    by_cases hc : (e.1 : Int) < A.slots
    · rw [if_pos ⟨by omega, hc⟩, if_pos hc]; simp [ht]
    · rw [if_neg (fun h => hc h.2), if_neg hc]
  · intro hc
    unfold Hp.remA
    rw [if_pos ⟨by omega, by omega, by simp [ht]⟩]; simp

theorem hPop_at (h : HAt B w b A S) :
    Calls Try.prog 23 #[.pointer (some ⟨b, 0, none⟩)] w fun e w' => e = .returned (minV A.first) ∧ Left B w w' b A.popA S := by
  have HM0 := Lib.hid (fun (w2 : World) (hb : Below w.heap.size w w2) => hMin_at (h.below hb))
  have H := Lib.hid h
  cases hf : A.first with
  | none =>
    have HF := Lib.hid hf
    rw [hf] at HM0
    clear h hf
    go_enter Try.func23, Try.ntmps23
    go_wp2_with (go_at_call 57; refine (HM0.out _ ((Below.refl _ w).alloc (Nat.le_refl _) _)).mono ?_; rintro e w1 ⟨rfl, hb1⟩; simp only [minV]; have hg1 := (hb1.block w.heap.size (by simp)).trans (heap_alloc_new _ _); obtain ⟨r0, r1, rf, rl⟩ := row_two hg1; have HG1 := Lib.hid hg1; have HB1 := Lib.hid hb1; clear hg1 hb1)
    refine bodyPost_ret (results_cell2 rfl _ _ w.heap.size 28 #[.int .i64 0, .int .i64 0] (0, 0) _ rfl ?_ Try.underlying28 rfl (by kernel_rfl)) rfl ?_
    · first | exact row_two_set HG1.out _ _ | exact (heap_alloc_old _ _ (by simp; omega)).trans (row_two_set HG1.out _ _)
    · refine ⟨rfl, ?_⟩
      rw [show A.popA = A by unfold Hp.popA; rw [HF.out]]
      have hb : Below w.heap.size w w1 := ((Below.refl _ w).alloc (Nat.le_refl _) _).trans (HB1.out.mono (by simp))
      exact H.out.left_below (by first | exact ((hb.setCell (Nat.le_refl _) _).setCell (Nat.le_refl _) _).alloc (by simp; omega) _ | exact ((hb.alloc (by omega) _).setCell (Nat.le_refl _) _).setCell (Nat.le_refl _) _)
  | some x =>
    have hmin := Hp.first_min hf
    have hlt := h.ok.lt _ _ hmin.there
    have HD := Lib.hid hmin.del
    have HR := Lib.hid (fun (w2 : World) (hb : Below w.heap.size w w2) => hRemove_at (h.below hb) (x.1 : Int))
    rw [hf] at HM0
    clear h hmin
    obtain ⟨xi, xk⟩ := x
    simp only at HR HD hlt
    go_enter Try.func23, Try.ntmps23
    go_wp2_with (first
      | (go_at_call 57; refine (HM0.out _ ((Below.refl _ w).alloc (Nat.le_refl _) _)).mono ?_; rintro e w1 ⟨rfl, hb1⟩; simp only [minV, entV]; have hg1 := (hb1.block w.heap.size (by simp)).trans (heap_alloc_new _ _); obtain ⟨r0, r1, rf, rl⟩ := row_two hg1; have HG1 := Lib.hid hg1; have HB1 := Lib.hid ((Below.refl _ w).alloc (Nat.le_refl _) _ |>.trans (hb1.mono (by simp))); clear hg1 hb1)
      | (go_at_call 44; refine (HR.out _ (HB1.out.alloc (by omega) _)).mono ?_; rintro e w3 ⟨rfl, hq⟩; have hS1 := (Left.keep hq (k := w.heap.size) (by simp; omega) (fun h => absurd (H.out.foot h).2 (by omega))).trans ((heap_alloc_old _ _ (by omega)).trans HG1.out); have hS2 := (Left.keep hq (k := w1.heap.size) (by simp) (fun h => absurd (H.out.foot h).2 (by omega))).trans (heap_alloc_new _ _); obtain ⟨s0, s1, sf, sl⟩ := row_two hS1; obtain ⟨x0, x1, xf, xl⟩ := row_two hS2; have HQ := Lib.hid hq; have HS1 := Lib.hid hS1; clear hq hS1 hS2))
    refine bodyPost_ret (results_cell2 rfl _ _ w.heap.size 28 #[.int .i64 (xi : Int), .int .i64 xk] (0, 0) _ rfl (row_two_set HS1.out _ _) Try.underlying28 rfl (by kernel_rfl)) rfl ?_
    refine ⟨rfl, ?_⟩
    rw [show A.popA = A.remA (xi : Int) by unfold Hp.popA; rw [hf]; exact (HD.out.2 hlt).symm]
    exact HQ.out.setNew (HB1.out.alloc (by omega) _) (fun k h => (H.out.foot h).2) (Nat.le_refl _) (by simp; omega) _ _ _ _

def arrZ : Array Value := Array.replicate 256 (.int .i64 0)
theorem infoPos : (Try.prog.info? 107).map (fun i => (i.zero, i.size, i.bytes)) = some (some (.agg arrZ), 256, 2048) := by kernel_rfl
theorem pos_made (m j : Nat) (hj : j < m * 256) : (madeCells (Value.agg arrZ).cells (m * 256)).toList[j]? = some (.int .i64 0) := by
  have h2 : j % 256 < 256 := Nat.mod_lt _ (by decide)
  have h4 : arrZ[j % 256]! = .int .i64 0 := by
    have hs : arrZ[j % 256]? = some (.int .i64 0) := by simp [arrZ, h2]
    simp [getElem!_def, hs]
  have hz : arrZ.size = 256 := by simp [arrZ]
  simp only [madeCells, Value.cells, hz, Array.toList_map, List.getElem?_map, Array.toList_range, List.getElem?_range hj, Option.map_some, h4]

theorem hNew_bad (n : Int) (w : World) (h : n < 0 ∨ 65536 < n) :
    Calls Try.prog 45 #[.int .i64 n] w fun e w' => e = .returned (.tuple #[.pointer none, .int .i64 2]) ∧ w = w' := by
  go_enter Try.func45, Try.ntmps45
  go_wp2
  all_goals go_ret2
  all_goals exact ⟨by simp, rfl⟩

theorem hNew_ok (n : Nat) (w : World) (h : n ≤ 65536) :
    Calls Try.prog 45 #[.int .i64 n] w fun e w' => ∃ b S, e = .returned (.tuple #[.pointer (some ⟨b, 0, none⟩), .int .i64 0]) ∧ HAt w.heap.size w' b (Hp.new n) S ∧ Below w.heap.size w w' := by
  go_enter Try.func45, Try.ntmps45
  go_wp2_with (at_make; refine wpList_makeN _ _ 88 rfl rfl infoPos Try.underlying88 _ _ _ _ ((n + 255) / 256) rfl rfl (by omega) (by omega) (by omega) (by unfold maxLen; omega) ?_; intro w1 hown hgr)
  have hb : Below w.heap.size w w1 := (Below.refl _ _).grown hgr (Nat.le_refl _) (fun k hk => by simp at hk)
  have hsz : w.heap.size < w1.heap.size := (hown.lt _ rfl).2
  have cells := hown.cellAt
  have fr := hown.frozenAt
  have HM := pos_made ((n + 255) / 256)
  clear hown hgr
  go_ret2
  refine ⟨w1.heap.size, _, by simp, ⟨w.heap.size, .slice none 0 0, 0, fun _ => (0, 0), ?_, fun k _ hk => by omega, Rep.new n _, Hp.new_ok h, rfl, by omega, Nat.le_refl _⟩, hb.alloc (by omega) _⟩
  refine ⟨h, fun k hk => by omega, fun j k hj => by omega, by omega, by simp, by simp [Hp.new], ⟨(n + 255) / 256, (n + 255) / 256, by simp, by omega, rfl⟩, by simp, fun o => by simp, fun k hk => by omega, ?_, ?_, World.ownsRow_nil _ _ _ _, by simp [Value.ownBlock], by simp [Value.ownBlock], by simp; omega, by simp; omega⟩
  · intro i hi _
    simp only [Hp.new] at hi
    rw [World.cell?_alloc_past _ _ _ hsz, cells _ hi, HM _ hi]
  · intro o
    rw [World.frozen?_alloc_past _ _ _ hsz]
    exact fr o
end
end Go.Proofs.Ytmlbacbcdjfioaa
