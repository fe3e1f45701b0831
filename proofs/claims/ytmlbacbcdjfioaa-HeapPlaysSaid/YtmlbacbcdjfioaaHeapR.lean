/- HeapR: layer 4: settle. -/
import Derived.Test.YtmlbacbcdjfioaaHeapS
set_option linter.unusedSimpArgs false
set_option linter.unusedVariables false
namespace Go.Proofs.Ytmlbacbcdjfioaa
open Go.ChangeShapes Go.WideShapes Go.ChangeAt Go.RowKit

section
variable {B : Nat} {w : World} {b pb : Nat} {v : Value} {slots n : Nat} {f : Nat → Ent}
set_option maxHeartbeats 2000000

theorem HFoot.lt (h : HeapRaw B w b pb v slots n f) {k : Nat} (hk : HFoot b pb v k) : k < w.heap.size := by
  rcases hk with rfl | rfl | hk
  · exact h.b_lt
  · exact h.pl
  · exact (h.own.lt k hk).2

theorem hSettle_any (h : HeapRaw B w b pb v slots n f) {a : Nat} (ha : a < n) (hx : HeapEx n f a) :
    Calls Try.prog 78 #[.pointer (some ⟨b, 0, none⟩), .int .i64 a] w fun e w' => e = .returned (.tuple #[]) ∧
      ∃ f', HeapOrd n f' ∧ SameEnts n f f' ∧ HeapRaw B w' b pb v slots n f' ∧ Upd (HFoot b pb v) w w' := by
  have hbl := h.b_lt
  have hn1 := h.n_le
  have hn2 := h.hs
  obtain ⟨g, cap, rfl, hnc, hcm, cells, _, _, _⟩ := h.entry ha
  have c3 := h.c3
  have a0 := (cells a ha).1
  have hgl : g < w.heap.size := World.block_lt_of_cell? w _ a0
  have hF : ¬ HFoot b pb (.slice (some ⟨g, 0, none⟩) n cap) w.heap.size := fun hk => absurd (HFoot.lt h hk) (by omega)
  have HF := Lib.hid hF
  have HX := Lib.hid hx
  have HU1 := Lib.hid (fun (o : Obj) (hc : (w.alloc o).cell? ⟨w.heap.size, 0, none⟩ = some (.pointer (some ⟨b, 0, none⟩))) => hSift_up (h.below ((Below.refl _ w).alloc (Nat.le_refl _) o)) ha hc hF)
  clear h cells hF hx
  go_enter Try.func78, Try.ntmps78
  go_wp2_with (go_at_call 91; refine (HU1.out _ (by simp)).mono ?_; rintro e w1 ⟨rfl, f1, a1, hs1, hn1, ha1, hr1, hu1⟩; have hc1 := hu1.cell_some (p := ⟨w.heap.size, 0, none⟩) (v := .pointer (some ⟨b, 0, none⟩)) (by simp) HF.out; have HS1 := Lib.hid hs1; have HN1 := Lib.hid hn1; have HR1 := Lib.hid hr1; have HU := Lib.hid hu1; clear hs1 hn1 hr1 hu1)
  obtain ⟨hx1, _, he1, hse1⟩ := HS1.out.up ha HX.out
  have hd1 := hx1.done HN1.out
  have HA := Lib.hid (hAt_pos HR1.out.drew ha1)
  rw [he1] at HA
  have HD := Lib.hid (hSift_dn HR1.out.drew ha1 (show w1.drew.cell? ⟨w.heap.size, 0, none⟩ = _ from hc1) HF.out)
  have HE := Lib.hid (And.intro hd1 hse1)
  clear hx1 he1 hse1 hd1
  go_region_with (first
    | (go_at_call 90; refine HA.out.mono ?_; rintro e w2 ⟨rfl, rfl⟩)
    | (go_at_call 91; refine HD.out.mono ?_; rintro e w2 ⟨rfl, hQ⟩; have HQ := Lib.hid hQ; clear hQ))
  all_goals (
    go_end0
    obtain ⟨f2, a2, hs2, hn2, ha2, hr2, hu2⟩ := HQ.out
    obtain ⟨hx2, _, _, hse2⟩ := hs2.dn ha1 HE.out.1
    exact ⟨rfl, f2, hx2.done hn2, HE.out.2.trans hse2, hr2, (((((Upd.refl _ w).alloc _).trans HU.out (fun _ _ h => h)).drew).trans hu2 (fun _ _ h => h))⟩)
end
end Go.Proofs.Ytmlbacbcdjfioaa
