/- HeapV: layer 4: before, put, at. -/
import Derived.Test.YtmlbacbcdjfioaaHeapW
set_option linter.unusedSimpArgs false
set_option linter.unusedVariables false
namespace Go.Proofs.Ytmlbacbcdjfioaa
open Go.ChangeShapes Go.WideShapes Go.ChangeAt Go.RowKit

section
variable {B : Nat} {w : World} {b pb : Nat} {v : Value} {slots n : Nat} {f : Nat → Ent}
set_option maxHeartbeats 1000000

theorem hBefore_any (h : HeapRaw B w b pb v slots n f) {a c : Nat} (ha : a < n) (hc : c < n) :
    Calls Try.prog 93 #[.pointer (some ⟨b, 0, none⟩), .int .i64 a, .int .i64 c] w fun e w' => e = .returned (.bool (before (f a) (f c))) ∧ Below w.heap.size w w' := by
  obtain ⟨g, cap, rfl, hnc, hcm, cells, _, _, _⟩ := h.entry ha
  have c3 := h.c3
  have a0 := (cells a ha).1
  have a1 := (cells a ha).2
  have d0 := (cells c hc).1
  have d1 := (cells c hc).2
  have hn1 := h.n_le
  have hn2 := h.hs
  have hbs := h.b_lt
  have hgs : g < w.heap.size := World.block_lt_of_cell? w _ a0
  clear h cells
  generalize hx : f a = x at *
  generalize hy : f c = y at *
  obtain ⟨xi, xk⟩ := x
  obtain ⟨yi, yk⟩ := y
  simp only at a0 a1 d0 d1
  clear hx hy
  go_enter Try.func93, Try.ntmps93
  go_wp2
  go_region
  all_goals go_wp2
  all_goals go_ret
  all_goals refine ⟨?_, ?_⟩
  all_goals try (exact (((Below.refl _ w).alloc (Nat.le_refl _) _).alloc (by simp) _).drew)
  all_goals simp [before]
  all_goals first | omega | (rename_i e; subst e; simp)

theorem hAt_any (h : HeapRaw B w b pb v slots n f) (i : Nat) (hi : i < slots) (p : Int) (hp : w.cell? ⟨pb, i, none⟩ = some (.int .i64 p)) (h0 : 0 ≤ p) (h1 : p ≤ 65536) :
    Calls Try.prog 90 #[.pointer (some ⟨b, 0, none⟩), .int .i64 i] w fun e w' => e = .returned (.int .i64 (p - 1)) ∧ w = w' := by
  obtain ⟨m, cap, c2, hmc, hm⟩ := h.c2
  have hn2 := h.hs
  have hm1 : i / 256 < m := by omega
  have hm2 : m ≤ 65536 := by omega
  have hp2 : w.cell? ⟨pb, i / 256 * 256 + i % 256, none⟩ = some (.int .i64 p) := by rw [show i / 256 * 256 + i % 256 = i by omega]; exact hp
  clear h hm hp
  go_enter Try.func90, Try.ntmps90
  go_wp2
  all_goals go_ret
  all_goals exact ⟨by simp, rfl⟩

theorem hPut_any {g cap : Nat} {m pcap : Nat} {i a : Nat} (hs : slots ≤ 65536) (hi : i < slots) (ha : a < n) (hn : n ≤ 65536) (hnc : n ≤ cap) (hcm : cap ≤ 9223372036854775807)
    (c3 : w.cell? ⟨b, 3, none⟩ = some (.slice (some ⟨g, 0, none⟩) n cap)) (c2 : w.cell? ⟨b, 2, none⟩ = some (.slice (some ⟨pb, 0, none⟩) m pcap)) (hmc : m ≤ pcap) (hm : m = (slots + 255) / 256)
    (d0 : w.cell? ⟨g, a * 2, none⟩ = some (.int .i64 i)) (fp : ∀ o, w.frozen? ⟨pb, o, none⟩ = false) (z : Value) (hp : w.cell? ⟨pb, i, none⟩ = some z) :
    Calls Try.prog 77 #[.pointer (some ⟨b, 0, none⟩), .int .i64 a] w fun e w' => e = .returned (.tuple #[]) ∧ w.setCell ⟨pb, i, none⟩ (.int .i64 ((a : Int) + 1)) = w' := by
  have hm1 : i / 256 < m := by omega
  have hm2 : m ≤ 65536 := by omega
  have HE := Lib.hid (show i / 256 * 256 + i % 256 = i by omega)
  have hp2 : w.cell? ⟨pb, i / 256 * 256 + i % 256, none⟩ = some z := by rw [HE.out]; exact hp
  clear hm hp
  go_enter Try.func77, Try.ntmps77
  go_wp2
  go_end0
  exact ⟨rfl, by rw [HE.out]⟩
end
end Go.Proofs.Ytmlbacbcdjfioaa
