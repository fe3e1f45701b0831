/- ArenaS: layer 2: New, Copy, and arenas that are nil or zero. -/
import Derived.Test.YthlfmlpdnbeelaaArenaT
set_option linter.unusedSimpArgs false
set_option linter.unusedVariables false
namespace Go.Proofs.Ythlfmlpdnbeelaa
open Go.ChangeShapes Go.WideShapes Go.ChangeAt Go.RowKit

def slotZ : Array Value := (Array.range 384).map fun r => if r % 3 = 1 then .int .u64 0 else .int .i64 0
theorem infoSlots : (Try.prog.info? 142).map (fun i => (i.zero, i.size, i.bytes)) = some (some (.agg slotZ), 384, 3072) := by kernel_rfl
theorem slotZ_size : slotZ.size = 384 := by simp [slotZ]

theorem slot_made (m j : Nat) (hj : j < m * 384) : (madeCells (Value.agg slotZ).cells (m * 384)).toList[j]? = some (if j % 3 = 1 then .int .u64 0 else .int .i64 0) := by
  have h2 : j % 384 < 384 := Nat.mod_lt _ (by decide)
  have h3 : j % 384 % 3 = j % 3 := by omega
  have h4 : slotZ[j % 384]! = if j % 3 = 1 then .int .u64 0 else .int .i64 0 := by
    have hs : slotZ[j % 384]? = some (if j % 3 = 1 then .int .u64 0 else .int .i64 0) := by
      simp [slotZ, h2, h3]
    simp [getElem!_def, hs]
  simp only [madeCells, Value.cells, slotZ_size, Array.toList_map, List.getElem?_map, Array.toList_range, List.getElem?_range hj, Option.map_some, h4]

def Ar.new (n : Nat) : Ar := { slots := n, fresh := 0, stack := [], times := fun _ => 0 }

set_option maxHeartbeats 400000 in
theorem aNew_bad (n : Int) (w : World) (h : n < 0 ∨ 65536 < n) :
    Calls Try.prog 55 #[.int .i64 n] w fun e w' => e = .returned (.tuple #[.pointer none, .int .i64 2]) ∧ w = w' := by
  go_enter Try.func55, Try.ntmps55
  go_wp2
  all_goals go_ret2
  all_goals exact ⟨by simp, rfl⟩

set_option maxHeartbeats 400000 in
theorem aNew_ok2 (n : Nat) (w : World) (h : n ≤ 65536) :
    Calls Try.prog 55 #[.int .i64 n] w fun e w' => ∃ b lb, e = .returned (.tuple #[.pointer (some ⟨b, 0, none⟩), .int .i64 0]) ∧ ArenaAt w' b lb (Ar.new n) ∧ w.heap.size ≤ b ∧ w.heap.size ≤ lb ∧ lb < w'.heap.size ∧ Below w.heap.size w w' := by
  go_enter Try.func55, Try.ntmps55
  go_wp2_with (at_make; refine wpList_makeN _ _ 127 rfl rfl infoSlots Try.underlying127 _ _ _ _ ((n + 127) / 128) rfl rfl (by omega) (by omega) (by omega) (by unfold maxLen; omega) ?_; intro w1 hown hgr)
  have hb : Below w.heap.size w w1 := (Below.refl _ _).grown hgr (Nat.le_refl _) (fun k hk => by simp at hk)
  have hsz : w.heap.size < w1.heap.size := (hown.lt _ rfl).2
  have cells := hown.cellAt
  have fr := hown.frozenAt
  have HM := slot_made ((n + 127) / 128)
  clear hown hgr
  go_ret2
  refine ⟨w1.heap.size, w.heap.size, by simp, ?_, by omega, by omega, by simp; omega, hb.alloc (by omega) _⟩
  have cl : ∀ o, (w1.alloc (Obj.cells
        #[Value.bool true, Value.int IntKind.i64 n, Value.int IntKind.i64 0, Value.int IntKind.i64 0, Value.int IntKind.i64 (-1),
          Value.slice (some { block := w.heap.size, off := 0 }) ((n + 127) / 128) ((n + 127) / 128)] 129)).cell? ⟨w.heap.size, o, none⟩ = w1.cell? ⟨w.heap.size, o, none⟩ :=
    fun o => World.cell?_alloc_past _ _ _ hsz
  refine ⟨⟨Nat.zero_le _, h, by simp [Ar.new], by simp [Ar.new]⟩, by omega, ?_, ?_, ?_, ?_, ?_, ?_, ?_, ?_, ?_, ?_, ?_, ?_⟩
  · simp
  · simp [Ar.new]
  · simp [Ar.new]
  · simp [Ar.new]
  · simp [Ar.new, topOf]
  · exact ⟨(n + 127) / 128, (n + 127) / 128, by simp, by omega, rfl⟩
  · intro o; simp
  · intro i hi
    simp only [Ar.new] at hi
    rw [cl, cells _ (by omega), HM _ (by omega), if_neg (by omega)]
    simp [Ar.state, Ar.new]
  · intro i hi
    simp only [Ar.new] at hi
    rw [cl, cells _ (by omega), HM _ (by omega), if_pos (by omega)]
    simp [Ar.new]
  · intro i hi
    simp only [Ar.new] at hi
    rw [cl, cells _ (by omega), HM _ (by omega), if_neg (by omega)]
    exact ⟨0, rfl⟩
  · intro pre x s hs
    simp [Ar.new] at hs
  · intro o
    rw [World.frozen?_alloc_past _ _ _ hsz]
    exact fr o
theorem aNew_ok (n : Nat) (w : World) (h : n ≤ 65536) :
    Calls Try.prog 55 #[.int .i64 n] w fun e w' => ∃ b lb, e = .returned (.tuple #[.pointer (some ⟨b, 0, none⟩), .int .i64 0]) ∧ ArenaAt w' b lb (Ar.new n) ∧ w.heap.size ≤ b ∧ w.heap.size ≤ lb ∧ Below w.heap.size w w' :=
  (aNew_ok2 n w h).mono fun _ _ ⟨b, lb, h1, h2, h3, h4, _, h6⟩ => ⟨b, lb, h1, h2, h3, h4, h6⟩
end Go.Proofs.Ythlfmlpdnbeelaa
