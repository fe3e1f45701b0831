/- ExpN: layer 35: schedules that are nil, or were not made by New. -/
import Derived.Test.YtmlbacbcdjfioaaExpE
import Derived.Test.YtmlbacbcdjfioaaExpL
set_option linter.unusedSimpArgs false
set_option linter.unusedVariables false
namespace Go.Proofs.Ytmlbacbcdjfioaa
open Go.RowKit Go.Shelf

/-- A schedule that is nil, or was not made by New. -/
def NoSched (w : World) (p : Option Addr) : Prop := p = none ∨ ∃ e, p = some ⟨e, 0, none⟩ ∧ w.cell? ⟨e, 0, none⟩ = some (.pointer none)

theorem NoSched.below {w w' : World} {p : Option Addr} (h : NoSched w p) (hb : Below w.heap.size w w') : NoSched w' p := by
  rcases h with h | ⟨e, h0, h1⟩
  · exact Or.inl h
  · have hlt := World.block_lt_of_cell? w _ h1
    exact Or.inr ⟨e, h0, (hb.cell (p := ⟨e, 0, none⟩) hlt).trans h1⟩

set_option maxHeartbeats 1000000
theorem xeLen {w : World} {p : Option Addr} (h : NoSched w p) :
    Calls Try.prog 30 #[.pointer p] w fun r w' => r = .returned (.int .i64 0) ∧ w = w' := by
  rcases h with rfl | ⟨e, rfl, c0⟩
  all_goals
    go_enter Try.func30, Try.ntmps30
    go_wp2_with (go_at_call 24; go_in)
    go_ret
    exact ⟨by simp, rfl⟩
theorem xeCopy {w : World} {p : Option Addr} (h : NoSched w p) :
    Calls Try.prog 36 #[.pointer p] w fun r w' => r = .returned (.pointer none) ∧ w = w' := by
  rcases h with rfl | ⟨e, rfl, c0⟩
  all_goals
    go_enter Try.func36, Try.ntmps36
    go_wp2
    go_ret
    exact ⟨by simp, rfl⟩
theorem xeSet {w : World} {p : Option Addr} (h : NoSched w p) (i x : Int) :
    Calls Try.prog 37 #[.pointer p, .int .i64 i, .int .i64 x] w fun r w' => r = .returned (.int .i64 1) ∧ Below w.heap.size w w' := by
  rcases h with rfl | ⟨e, rfl, c0⟩
  · go_enter Try.func37, Try.ntmps37
    go_wp2_with (go_at_call 61; go_in)
    go_ret
    exact ⟨by simp, ((Below.refl _ _).alloc (Nat.le_refl _) _).alloc (by simp) _⟩
  · have hlt : e < w.heap.size := World.block_lt_of_cell? w _ c0
    go_enter Try.func37, Try.ntmps37
    go_wp2_with (go_at_call 61; go_in)
    go_ret
    exact ⟨by simp, ((Below.refl _ _).alloc (Nat.le_refl _) _).alloc (by simp) _⟩
theorem xeDrop {w : World} {p : Option Addr} (h : NoSched w p) (i : Int) :
    Calls Try.prog 35 #[.pointer p, .int .i64 i] w fun r w' => r = .returned (.int .i64 1) ∧ Below w.heap.size w w' := by
  rcases h with rfl | ⟨e, rfl, c0⟩
  · go_enter Try.func35, Try.ntmps35
    go_wp2_with (go_at_call 61; go_in)
    go_ret
    exact ⟨by simp, (Below.refl _ _).alloc (Nat.le_refl _) _⟩
  · have hlt : e < w.heap.size := World.block_lt_of_cell? w _ c0
    go_enter Try.func35, Try.ntmps35
    go_wp2_with (go_at_call 61; go_in)
    go_ret
    exact ⟨by simp, (Below.refl _ _).alloc (Nat.le_refl _) _⟩

theorem xeNext_fin (w : World) : ∀ (o1 o2 : Obj), o1 = .cells #[.int .i64 0, .int .i64 0] 28 (0, 0) → o2 = .cells #[.bool false] 4 (0, 0) →
    ((w.alloc o1).alloc o2).drew.heap[w.heap.size]? = some (.cells #[.int .i64 0, .int .i64 0] 28 (0, 0)) ∧
    ((w.alloc o1).alloc o2).drew.cell? ⟨w.heap.size + 1, 0, none⟩ = some (.bool false) ∧
    Below w.heap.size w ((w.alloc o1).alloc o2).drew := by
  rintro o1 o2 rfl rfl
  obtain ⟨k1, k2, _⟩ := two_new (w := w) (A := .cells #[.int .i64 0, .int .i64 0] 28 (0, 0)) (B := .cells #[.bool false] 4 (0, 0)) (Below.refl _ _)
  exact ⟨(heap_drew_at _ _).trans k1, (row_one ((heap_drew_at _ _).trans k2)).1, (((Below.refl _ _).alloc (Nat.le_refl _) _).alloc (by simp) _).drew⟩

theorem xeNext {w : World} {p : Option Addr} (h : NoSched w p) :
    Calls Try.prog 31 #[.pointer p] w fun r w' => r = .returned (.tuple #[.agg #[.int .i64 0, .int .i64 0], .bool false]) ∧ Below w.heap.size w w' := by
  have HX := Lib.hid (xeNext_fin w _ _ rfl rfl)
  rcases h with rfl | ⟨e, rfl, c0⟩
  · go_enter Try.func31, Try.ntmps31
    go_wp2_with (go_at_call 61; go_in)
    go_region
    go_wp2
    obtain ⟨m1, m2, m3⟩ := HX.out
    refine bodyPost_ret (results_2 rfl (.row (by rfl) m1 Try.underlying28 rfl (by kernel_rfl)) (.cell (by rfl) Try.underlying4 rfl m2)) rfl ?_
    exact ⟨rfl, m3⟩
  · have hlt : e < w.heap.size := World.block_lt_of_cell? w _ c0
    go_enter Try.func31, Try.ntmps31
    go_wp2_with (go_at_call 61; go_in)
    go_region
    go_wp2
    obtain ⟨m1, m2, m3⟩ := HX.out
    refine bodyPost_ret (results_2 rfl (.row (by rfl) m1 Try.underlying28 rfl (by kernel_rfl)) (.cell (by rfl) Try.underlying4 rfl m2)) rfl ?_
    exact ⟨rfl, m3⟩

theorem xeLeft {w : World} {p : Option Addr} (h : NoSched w p) (i now : Int) :
    Calls Try.prog 34 #[.pointer p, .int .i64 i, .int .i64 now] w fun r w' => r = .returned (.tuple #[.int .i64 0, .int .i64 1]) ∧ Below w.heap.size w w' := by
  have HB := Lib.hid (fun (o1 o2 o3 o4 : Obj) => ((((Below.refl w.heap.size w).alloc (Nat.le_refl _) o1).alloc (by simp) o2).alloc (by simp; omega) o3).alloc (by simp; omega) o4)
  have HF := Lib.hid (four_new (w := w) (A := .cells #[.int .i64 i] 3) (B := .cells #[.int .i64 now] 2) (C := .cells #[.int .i64 0] 2) (D := .cells #[.int .i64 1] 34) (F := fun _ => False) (fun _ h => h.elim) (Upd.refl _ _))
  have hh : ∀ e, w.cell? ⟨e, 0, none⟩ = some (.pointer none) → e < w.heap.size := fun e c0 => World.block_lt_of_cell? w _ c0
  rcases h with rfl | ⟨e, rfl, c0⟩
  · clear hh
    go_enter Try.func34, Try.ntmps34
    go_wp2_with (go_at_call 61; go_in)
    go_region
    go_wp2
    obtain ⟨_, _, b2, b3, _⟩ := HF.out
    have m1 := (row_one ((heap_drew_at _ _).trans b2)).1
    have m2 := (row_one ((heap_drew_at _ _).trans b3)).1
    refine bodyPost_ret (results_2 rfl (.cell (by rfl) Try.underlying2 rfl m1) (.cell (by rfl) Try.underlying34 rfl m2)) rfl ?_
    exact ⟨rfl, (HB.out _ _ _ _).drew⟩
  · have hlt := hh e c0
    have c4 : ∀ o1 o2 o3 o4, ((((w.alloc o1).alloc o2).alloc o3).alloc o4).cell? ⟨e, 0, none⟩ = some (.pointer none) := fun o1 o2 o3 o4 => ((HB.out o1 o2 o3 o4).cell (p := ⟨e, 0, none⟩) hlt).trans c0
    clear hh c0
    go_enter Try.func34, Try.ntmps34
    go_wp2_with (go_at_call 61; go_in)
    go_region
    go_wp2
    obtain ⟨_, _, b2, b3, _⟩ := HF.out
    have m1 := (row_one ((heap_drew_at _ _).trans b2)).1
    have m2 := (row_one ((heap_drew_at _ _).trans b3)).1
    refine bodyPost_ret (results_2 rfl (.cell (by rfl) Try.underlying2 rfl m1) (.cell (by rfl) Try.underlying34 rfl m2)) rfl ?_
    exact ⟨rfl, (HB.out _ _ _ _).drew⟩

section
attribute [local go_sem] Oper.semAt_some
set_option maxRecDepth 100000 in
theorem xedue1 (m : Nat) {W : World} {p : Option Addr} (hn : NoSched W p) (b1 b2 : Nat) (now : Int) (s1 : W.cell? ⟨b1, 0, none⟩ = some (.pointer p)) (s2 : W.cell? ⟨b2, 0, none⟩ = some (.int .i64 now)) (l : Nat) :
    CallsIn Fence.wide (m + 1) Try.prog 87 #[.func (.yield l) #[] #[], .pointer (some ⟨b1, 0, none⟩), .pointer (some ⟨b2, 0, none⟩)] W fun r W' => (∃ v, r = .returned v) ∧ Below W.heap.size W W' := by
  have HX := Lib.hid (xeNext hn)
  clear hn
  refine callsIn_of_wp Try.func87 rfl trivial ?_ rfl
  simp only [Try.ntmps87, List.size_toArray, List.length_cons, List.length_nil, Nat.reduceAdd, Nat.reduceSub, Array.replicate_succ, Array.replicate_zero, List.push_toArray, List.append_toArray, List.nil_append, List.cons_append]
  gi_wp2_with (refine ⟨trivial, ?_⟩; gi_at_call 31; refine (callsIn_wide.2 HX.out).mono ?_; rintro r w1 ⟨rfl, hb1⟩; have HB1 := Lib.hid (hb1.alloc hb1.size (.cells #[.int .i64 0, .int .i64 0] 28)); clear hb1)
  gi_loopw [4, 5] (fun x y wr => y = .bool false ∧ Below W.heap.size W wr) (fun _ _ _ => 0)
  case atStart => exact ⟨rfl, HB1.out⟩
  case round =>
    obtain ⟨rfl, hb⟩ := hrel
    have HB := Lib.hid hb
    clear hb
    gi_wp2
    go_end0
    exact ⟨⟨_, rfl⟩, HB.out⟩

theorem xedue (p : Option Addr) (now : Int) (w : World) :
    Calls Try.prog 63 #[.pointer p, .int .i64 now] w fun r w' => r = .returned (.func (.func 87) #[] #[.pointer (some ⟨w.heap.size, 0, none⟩), .pointer (some ⟨w.heap.size + 1, 0, none⟩)]) ∧
      (w.alloc (.cells #[.pointer p] 33)).alloc (.cells #[.int .i64 now] 2) = w' := by
  go_enter Try.func63, Try.ntmps63
  go_wp2
  go_ret
  exact ⟨rfl, rfl⟩

set_option maxRecDepth 100000 in
set_option maxHeartbeats 2000000 in
theorem xeDue {w : World} {p : Option Addr} (h : NoSched w p) (now : Int) :
    Calls Try.prog 32 #[.pointer p, .int .i64 now] w fun r w' => r = .returned (.slice none 0 0) ∧ Below w.heap.size w w' := by
  have HH := Lib.hid h
  clear h
  refine (callsIn_wide (n := 6)).1 ?_
  refine callsIn_of_wp_marks Try.func32 rfl trivial ?_ rfl
  simp only [Try.ntmps32, List.size_toArray, List.length_cons, List.length_nil, Nat.reduceAdd, Nat.reduceSub, Array.replicate_succ, Array.replicate_zero, List.push_toArray, List.append_toArray, List.nil_append, List.cons_append]
  gi_wp2_with (refine ⟨trivial, ?_⟩; gi_at_call 63; refine (callsIn_wide.2 (xedue _ _ _)).mono ?_; rintro r w1 ⟨rfl, rfl⟩)
  obtain ⟨W0, hW0⟩ : ∃ W0, ((w.alloc (.cells #[.slice none 0 0] 43)).alloc (.cells #[.pointer p] 33)).alloc (.cells #[.int .i64 now] 2) = W0 := ⟨_, rfl⟩
  have hsz : W0.heap.size = w.heap.size + 3 := by rw [← hW0]; simp
  rw [hW0]
  refine wpIn_rangeFunc_free rfl (by decide) (gf := 87) (lb := #[.pointer (some ⟨w.heap.size + 1, 0, none⟩), .pointer (some ⟨w.heap.size + 2, 0, none⟩)]) rfl trivial (enters_of Try.func87 (by kernel_rfl) rfl) ?_
  intro rec hround
  clear hround
  rw [hsz]
  have hb0 : Below w.heap.size w W0 := by rw [← hW0]; exact (((Below.refl _ w).alloc (Nat.le_refl _) _).alloc (by simp) _).alloc (by simp; omega) _
  obtain ⟨W1, hW1⟩ : ∃ W1, (W0.alloc (.deferred (some []))).alloc (.loop (rec .ready none)) = W1 := ⟨_, rfl⟩
  have hb : Below w.heap.size w W1 := by rw [← hW1]; exact (hb0.alloc (by omega) _).alloc (by simp; omega) _
  have hsz1 : W1.heap.size = w.heap.size + 5 := by rw [← hW1]; simp; omega
  have g0 : W0.heap[w.heap.size]? = some (.cells #[.slice none 0 0] 43 (0, 0)) := by
    rw [← hW0, heap_alloc_old _ _ (by simp; omega), heap_alloc_old _ _ (by simp), heap_alloc_new]
  have g1 : W0.heap[w.heap.size + 1]? = some (.cells #[.pointer p] 33 (0, 0)) := by
    rw [← hW0, heap_alloc_old _ _ (by simp), heap_alloc2_new]
  have g2 : W0.heap[w.heap.size + 2]? = some (.cells #[.int .i64 now] 2 (0, 0)) := by
    rw [← hW0]
    have := heap_alloc_new ((w.alloc (.cells #[.slice none 0 0] 43)).alloc (.cells #[.pointer p] 33)) (.cells #[.int .i64 now] 2)
    simpa using this
  have old : ∀ q, q < W0.heap.size → W1.heap[q]? = W0.heap[q]? := fun q hq => by
    rw [← hW1, heap_alloc_old _ _ (by simp; omega), heap_alloc_old _ _ hq]
  have g3 : W1.heap[w.heap.size + 3]? = some (.deferred (some [])) := by
    rw [← hW1, heap_alloc_old _ _ (by simp; omega)]
    have := heap_alloc_new W0 (.deferred (some []))
    rwa [hsz] at this
  have g4 : W1.heap[w.heap.size + 4]? = some (.loop (rec .ready none)) := by
    have := heap_alloc2_new W0 (.deferred (some [])) (.loop (rec .ready none))
    rw [hW1] at this
    rwa [hsz] at this
  have k0 := (old _ (by omega)).trans g0
  have k1 := (row_one ((old _ (by omega)).trans g1)).1
  have k2 := (row_one ((old _ (by omega)).trans g2)).1
  rw [hW1]
  have hn1 := HH.out.below hb
  clear g0 g1 g2 old hb0 hW0 hW1
  refine (xedue1 4 hn1 (w.heap.size + 1) (w.heap.size + 2) now k1 k2 _).mono ?_
  rintro r W2 ⟨hr, hb2⟩
  have e0 := (hb2.block _ (by omega)).trans k0
  have e3 := (hb2.block _ (by omega)).trans g3
  have e4 := (hb2.block _ (by omega)).trans g4
  have hz2 := hb2.size
  refine ⟨hr, Or.inl ⟨e4, fun o => ?_⟩⟩
  have hu : Upd (fun z => w.heap.size ≤ z) w (W2.putObj (w.heap.size + 3 + 1) o) := Upd.putObj (F := fun z => w.heap.size ≤ z) ((Upd.of_below (hb.trans (hb2.mono hb.size))).mono (fun i hi hg => hg)) (fun _ => by show w.heap.size ≤ w.heap.size + 3 + 1; omega) _
  obtain ⟨W3, hW3⟩ : ∃ W3, W2.putObj (w.heap.size + 3 + 1) o = W3 := ⟨_, rfl⟩
  have f0 : W3.heap[w.heap.size]? = some (.cells #[.slice none 0 0] 43 (0, 0)) := by rw [← hW3, World.putObj_heap_other (by omega)]; exact e0
  have f3 : W3.heap[w.heap.size + 3]? = some (.deferred (some [])) := by rw [← hW3, World.putObj_heap_other (by omega)]; exact e3
  rw [hW3] at hu ⊢
  have bx := (row_one f0).1
  clear hW3 e0 e3 e4 k0 k1 k2 f0 hn1
  gi_wp2
  refine ⟨by simp, .inl ⟨_, _, rfl, run_takeDeferred f3, ?_⟩⟩
  have hu2 : Upd (fun z => w.heap.size ≤ z) w (W3.putObj (w.heap.size + 3) (.deferred none)) := hu.putObj (fun _ => by show w.heap.size ≤ w.heap.size + 3; omega) _
  exact ⟨_, results_tmp rfl _ _ _, rfl, hu2.below _ (Nat.le_refl _) (fun k hk hf => by omega)⟩
end
end Go.Proofs.Ytmlbacbcdjfioaa
