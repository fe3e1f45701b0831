/- IntC: layer 3: find. -/
import Derived.Test.YthlfmlpdnbeelaaIntB
import Derived.Test.YthlfmlpdnbeelaaQRnd
set_option linter.unusedSimpArgs false
set_option linter.unusedVariables false
namespace Go.Proofs.Ythlfmlpdnbeelaa
open Go.RowKit Go.Shelf
attribute [local go_sem] Oper.semAt_some

theorem six_new (w : World) (A B C D E F : Obj) {W : World} (h : (((((w.alloc A).alloc B).alloc C).alloc D).alloc E).alloc F = W) :
    W.heap[w.heap.size]? = some A ∧ W.heap[w.heap.size + 1]? = some B ∧ W.heap[w.heap.size + 2]? = some C ∧ W.heap[w.heap.size + 3]? = some D ∧ W.heap[w.heap.size + 4]? = some E ∧ W.heap[w.heap.size + 5]? = some F := by
  subst h
  have a1 : ∀ (W : World) (o : Obj) (q : Nat) (v : Obj), W.heap[q]? = some v → (W.alloc o).heap[q]? = some v := fun W o q v h => by
    rw [heap_alloc_old _ _ (Array.getElem?_eq_some_iff.1 h).1]; exact h
  have n1 := heap_alloc_new w A
  have n2 := heap_alloc_new (w.alloc A) B
  have n3 := heap_alloc_new ((w.alloc A).alloc B) C
  have n4 := heap_alloc_new (((w.alloc A).alloc B).alloc C) D
  have n5 := heap_alloc_new ((((w.alloc A).alloc B).alloc C).alloc D) E
  have n6 := heap_alloc_new (((((w.alloc A).alloc B).alloc C).alloc D).alloc E) F
  simp only [World.size_alloc, Nat.add_assoc, Nat.reduceAdd] at n2 n3 n4 n5 n6
  exact ⟨a1 _ _ _ _ (a1 _ _ _ _ (a1 _ _ _ _ (a1 _ _ _ _ (a1 _ _ _ _ n1)))), a1 _ _ _ _ (a1 _ _ _ _ (a1 _ _ _ _ (a1 _ _ _ _ n2))), a1 _ _ _ _ (a1 _ _ _ _ (a1 _ _ _ _ n3)), a1 _ _ _ _ (a1 _ _ _ _ n4), a1 _ _ _ _ n5, n6⟩
theorem below_putObj {r : Nat} {a w : World} (h : Below r a w) (hr : r ≤ w.heap.size) {l : Nat} (hl : r ≤ l) (o : Obj) : Below r a (w.putObj l o) :=
  h.trans ((Upd.putObj (F := fun z => z = l) (Upd.refl _ w) (fun _ => rfl) o).below r hr (fun k hk e => by omega))

set_option maxRecDepth 100000 in
set_option maxHeartbeats 4000000 in
theorem iFind_any {w : World} {t M n D x : Nat} {c ids : Nat → Nat} (hx : x < 18446744073709551616) (hv : FV w t M c n ids) (hE : Ends M c ids x D) :
    Calls Try.prog 57 #[.pointer (some ⟨t, 0, none⟩), .int .u64 (x : Int)] w fun r w' => r = .returned (.tuple #[.int .i64 (rgo M (ihome M x) D : Nat), .bool (decide (c (rgo M (ihome M x) D) ≠ 0))]) ∧ Below w.heap.size w w' := by
  have hlt := hv.lt
  obtain ⟨hm, hhm⟩ : ∃ hm, ihome M (x : Int) = hm := ⟨_, rfl⟩
  obtain ⟨hD, hgo, hstop⟩ := hE
  rw [hhm] at hgo hstop ⊢
  have HH := Lib.hid (And.intro hv (And.intro hgo (And.intro hstop hhm)))
  have hrl : ∀ d, rgo M hm d < M := fun d => rgo_lt _ _ (by omega)
  have HRL := Lib.hid hrl
  clear hv hgo hstop hhm hrl
  refine (callsIn_wide (n := 6)).1 ?_
  refine callsIn_of_wp_marks Try.func57 rfl trivial ?_ rfl
  simp only [Try.ntmps57, List.size_toArray, List.length_cons, List.length_nil, Nat.reduceAdd, Nat.reduceSub, Array.replicate_succ, Array.replicate_zero, List.push_toArray, List.append_toArray, List.nil_append, List.cons_append]
  gi_wp2_with (refine ⟨trivial, ?_⟩; gi_at_call 86; refine (callsIn_wide.2 (iProbe_any _ _ _)).mono ?_; rintro r w1 ⟨rfl, rfl⟩)
  obtain ⟨W0, hW0⟩ : ∃ W0, (((((w.alloc (.cells #[.pointer (some ⟨t, 0, none⟩)] 25)).alloc (.cells #[.int .u64 (x : Int)] 23)).alloc (.cells #[.int .i64 0] 3)).alloc (.cells #[.bool false] 4)).alloc (.cells #[.pointer (some ⟨t, 0, none⟩)] 25)).alloc (.cells #[.int .u64 (x : Int)] 23) = W0 := ⟨_, rfl⟩
  have hsz : W0.heap.size = w.heap.size + 6 := by rw [← hW0]; simp
  simp only [hW0, World.size_alloc]
  refine wpIn_rangeFunc_free rfl (by decide) (gf := 94) (lb := #[.pointer (some ⟨w.heap.size + 4, 0, none⟩), .pointer (some ⟨w.heap.size + 5, 0, none⟩)]) (by rfl) trivial (enters_of Try.func94 (by kernel_rfl) rfl) ?_
  intro rec hround
  rw [hsz] at hround ⊢
  obtain ⟨Wb, hWb⟩ : ∃ Wb, (W0.alloc (.deferred (some []))).alloc (.loop (rec .ready none)) = Wb := ⟨_, rfl⟩
  rw [hWb]
  have hszb : Wb.heap.size = w.heap.size + 8 := by rw [← hWb]; simp; omega
  have old : ∀ q, q < W0.heap.size → Wb.heap[q]? = W0.heap[q]? := fun q hq => by rw [← hWb, heap_alloc_old _ _ (by simp; omega), heap_alloc_old _ _ hq]
  have hb0 : Below w.heap.size w W0 := by
    rw [← hW0]
    exact ((((((Below.refl _ w).alloc (Nat.le_refl _) _).alloc (by simp) _).alloc (by simp; omega) _).alloc (by simp; omega) _).alloc (by simp; omega) _).alloc (by simp; omega) _
  have hbb : Below w.heap.size w Wb := by rw [← hWb]; exact (hb0.alloc (by omega) _).alloc (by simp; omega) _
  obtain ⟨g0, g1, g2, g3, g4, g5⟩ := six_new w _ _ _ _ _ _ hW0
  have e0 := (old _ (by omega)).trans g0
  have e1 := (old _ (by omega)).trans g1
  have e2 := (old _ (by omega)).trans g2
  have e3 := (old _ (by omega)).trans g3
  have e4 := (old _ (by omega)).trans g4
  have e5 := (old _ (by omega)).trans g5
  have e6 : Wb.heap[w.heap.size + 6]? = some (.deferred (some [])) := by
    rw [← hWb, heap_alloc_old _ _ (by simp; omega)]
    have := heap_alloc_new W0 (.deferred (some []))
    rwa [hsz] at this
  have e7 : Wb.heap[w.heap.size + 7]? = some (.loop (rec .ready none)) := by
    rw [← hWb]
    have := heap_alloc2_new W0 (.deferred (some [])) (.loop (rec .ready none))
    rwa [hsz] at this
  obtain ⟨hv, hgo, hstop, hhm⟩ := HH.out
  have hvb := hv.below hbb
  obtain ⟨ai, capi, c2, p2, p3, p4⟩ := hvb.c2
  obtain ⟨bc, capc, c3, q2, q3, q4, q5⟩ := hvb.c3
  have hle := hvb.le
  have hn6 := hvb.n6
  have hm6 := hvb.m6
  have hbc : bc < w.heap.size := by
    obtain ⟨b', cap', h1, _, _, h4, _⟩ := hv.c3
    have := (hbb.cell (p := ⟨t, 3, none⟩) hlt).trans h1
    rw [c3] at this
    simp only [Option.some.injEq, Value.slice.injEq, Addr.mk.injEq] at this
    omega
  have hai : ∀ i, i < n → ∃ b, ai = some ⟨b, 0, none⟩ ∧ b < w.heap.size ∧ Wb.cell? ⟨b, i, none⟩ = some (.int .u64 (ids i)) := by
    intro i hi
    obtain ⟨a', cap', h1, _, _, h4⟩ := hv.c2
    have := (hbb.cell (p := ⟨t, 2, none⟩) hlt).trans h1
    rw [c2] at this
    simp only [Option.some.injEq, Value.slice.injEq] at this
    obtain ⟨b, e, h5, h6⟩ := h4 i hi
    exact ⟨b, by rw [this.1]; exact e, h5, (hbb.cell (p := ⟨b, i, none⟩) h5).trans h6⟩
  have HF := Lib.hid (show ∀ W, Below (w.heap.size + 7) Wb W → W.cell? ⟨w.heap.size, 0, none⟩ = some (.pointer (some ⟨t, 0, none⟩)) ∧ W.cell? ⟨w.heap.size + 1, 0, none⟩ = some (.int .u64 (x : Int)) ∧ W.heap[w.heap.size + 1 + 1]? = some (.cells #[.int .i64 0] 3 (0, 0)) ∧ W.heap[w.heap.size + 1 + 1 + 1]? = some (.cells #[.bool false] 4 (0, 0)) ∧ W.heap[w.heap.size + 6]? = some (.deferred (some [])) ∧
      W.cell? ⟨t, 2, none⟩ = some (.slice ai n capi) ∧ W.cell? ⟨t, 3, none⟩ = some (.slice (some ⟨bc, 0, none⟩) M capc) ∧ (∀ k, k < M → W.cell? ⟨bc, k, none⟩ = some (.int .i32 (c k))) ∧ (∀ i, i < n → ∃ b, ai = some ⟨b, 0, none⟩ ∧ W.cell? ⟨b, i, none⟩ = some (.int .u64 (ids i))) from fun W h => by
    refine ⟨(row_one ((h.block _ (by omega)).trans e0)).1, (row_one ((h.block _ (by omega)).trans e1)).1, (h.block _ (by omega)).trans e2, (h.block _ (by omega)).trans e3, (h.block _ (by omega)).trans e6, (h.cell (p := ⟨t, 2, none⟩) (by simp; omega)).trans c2, (h.cell (p := ⟨t, 3, none⟩) (by simp; omega)).trans c3, fun k hk => (h.cell (p := ⟨bc, k, none⟩) (by simp; omega)).trans (q5 k hk), fun i hi => ?_⟩
    obtain ⟨b, ea, hb1, hb2⟩ := hai i hi
    exact ⟨b, ea, (h.cell (p := ⟨b, i, none⟩) (by simp; omega)).trans hb2⟩)
  have HB := Lib.hid (And.intro hbb (And.intro e4 (And.intro e5 (And.intro hvb (And.intro hgo (And.intro hstop hhm))))))
  have HLE := Lib.hid hle
  clear g0 g1 g2 g3 g4 g5 e0 e1 e2 e3 e4 e5 e6 old hb0 hbb hv hvb hgo hstop hhm c2 p4 c3 q5 hai hW0 hWb hle
  have h0 : FJ Wb (w.heap.size + 7) (.loop (rec .ready none)) Wb := ⟨Below.refl _ _, e7⟩
  have hY : ∀ d W, d < D → FJ Wb (w.heap.size + 7) (.loop (rec .ready none)) W → YieldAt Fence.wide 4 Try.prog (w.heap.size + 7) #[.int .i64 (rgo M hm d : Nat)] W fun e W' => e = .returned (.bool true) ∧ FJ Wb (w.heap.size + 7) (.loop (rec .ready none)) W' := by
    intro d W hd hJ
    refine hround _ W _ rfl hJ.2 ?_
    gi_wp2
    refine ⟨hJ.2, ?_⟩
    obtain ⟨W2, hW2⟩ : ∃ W2, W.putObj (w.heap.size + 7) (.loop (rec .busy none)) = W2 := ⟨_, rfl⟩
    have hb2 : Below (w.heap.size + 7) Wb W2 := by rw [← hW2]; exact below_putObj hJ.1 (by have := hJ.1.size; omega) (Nat.le_refl _) _
    have hl2 : W2.heap[w.heap.size + 7]? = some (.loop (rec .busy none)) := by
      rw [← hW2]
      exact World.putObj_heap_same (Array.getElem?_eq_some_iff.1 hJ.2).1
    rw [show W.putObj (w.heap.size + 6 + 1) (.loop (rec .busy none)) = W2 from hW2]
    obtain ⟨s0, s1, _, _, _, s2, s3, s4, s5⟩ := HF.out W2 hb2
    have hk := HRL.out d
    have hck := s4 _ hk
    obtain ⟨hgo1, hgo2⟩ := HB.out.2.2.2.2.1 d hd
    have hcle := HLE.out _ hk
    obtain ⟨ck, hcke⟩ : ∃ ck, c (rgo M hm d) = ck := ⟨_, rfl⟩
    obtain ⟨g, hg⟩ : ∃ g, rgo M hm d = g := ⟨_, rfl⟩
    rw [hcke] at hck hgo1 hgo2 hcle
    rw [hg] at hck hk ⊢
    obtain ⟨z, rfl⟩ : ∃ z, ck = z + 1 := ⟨ck - 1, by omega⟩
    obtain ⟨bi, rfl, hid⟩ := s5 z (by omega)
    obtain ⟨y, hy⟩ : ∃ y, ids z = y := ⟨_, rfl⟩
    rw [show z + 1 - 1 = z by omega, hy] at hgo2
    rw [hy] at hid
    have hyx : ((y : Int) == (x : Int)) = false := by simp; omega
    have hzn : z < n := by omega
    have hw1 : IntKind.i32.wrap (z : Int) = (z : Int) := by rw [IntKind.wrap_i32]; omega
    clear hgo1
    have HJ := Lib.hid (And.intro hb2 hl2)
    clear hb2 hl2 hJ hW2 hcke hg hy s4 s5 hround h0
    gi_wp2
    refine wpIn_region_quiet_r (by kernel_rfl) (by kernel_rfl) (by kernel_rfl) ?_
    repeat (gi_big_quiet_step (fail))
    refine wpQuietIn_nil ?_
    rintro _ ⟨nq, rfl⟩
    gi_wp2
    obtain ⟨hb2, hl2⟩ := HJ.out
    have hz2 := hb2.size
    have hl3 : w.heap.size + 7 < W2.heap.size := (Array.getElem?_eq_some_iff.1 hl2).1
    exact ⟨hl2, rfl, below_putObj (w := W2.drewN nq) (below_drewN hb2 nq) (by show w.heap.size + 7 ≤ W2.heap.size; omega) (Nat.le_refl _) _, World.putObj_heap_same (w := W2.drewN nq) hl3⟩
  obtain ⟨FD, hFD⟩ : ∃ FD : World → Prop, FD = fun W' => W'.heap[w.heap.size + 1 + 1]? = some (.cells #[.int .i64 (rgo M hm D : Nat)] 3 (0, 0)) ∧ W'.heap[w.heap.size + 1 + 1 + 1]? = some (.cells #[.bool (decide (c (rgo M hm D) ≠ 0))] 4 (0, 0)) ∧ W'.heap[w.heap.size + 6]? = some (.deferred (some [])) ∧
      W'.heap[w.heap.size + 7]? = some (.loop (rec .done (some .ret))) ∧ Below w.heap.size w W' := ⟨_, rfl⟩
  have hZ : ∀ W, FJ Wb (w.heap.size + 7) (.loop (rec .ready none)) W → YieldAt Fence.wide 4 Try.prog (w.heap.size + 7) #[.int .i64 (rgo M hm D : Nat)] W fun e W' => e = .returned (.bool false) ∧ FD W' := by
    intro W hJ
    refine hround _ W _ rfl hJ.2 ?_
    gi_wp2
    refine ⟨hJ.2, ?_⟩
    obtain ⟨W2, hW2⟩ : ∃ W2, W.putObj (w.heap.size + 7) (.loop (rec .busy none)) = W2 := ⟨_, rfl⟩
    have hb2 : Below (w.heap.size + 7) Wb W2 := by rw [← hW2]; exact below_putObj hJ.1 (by have := hJ.1.size; omega) (Nat.le_refl _) _
    have hl2 : W2.heap[w.heap.size + 7]? = some (.loop (rec .busy none)) := by
      rw [← hW2]
      exact World.putObj_heap_same (Array.getElem?_eq_some_iff.1 hJ.2).1
    rw [show W.putObj (w.heap.size + 6 + 1) (.loop (rec .busy none)) = W2 from hW2]
    obtain ⟨s0, s1, x2, x3, x6, s2, s3, s4, s5⟩ := HF.out W2 hb2
    obtain ⟨y2, f2, l2⟩ := row_one x2
    obtain ⟨y3, f3, l3⟩ := row_one x3
    have hk := HRL.out D
    have hck := s4 _ hk
    have hst := HB.out.2.2.2.2.2.1
    have hcle := HLE.out _ hk
    have hbW := HB.out.1
    have HFIN := Lib.hid (show ∀ (W3 : World) (g : Nat) (b : Bool), (∃ n, W3 = W2.drewN n) → g = rgo M hm D → b = decide (c (rgo M hm D) ≠ 0) →
        ((W3.setCell ⟨w.heap.size + 1 + 1, 0, none⟩ (.int .i64 (g : Int))).setCell ⟨w.heap.size + 1 + 1 + 1, 0, none⟩ (.bool b)).heap[w.heap.size + 6 + 1]? = some (.loop (rec .busy none)) ∧
        FD (((W3.setCell ⟨w.heap.size + 1 + 1, 0, none⟩ (.int .i64 (g : Int))).setCell ⟨w.heap.size + 1 + 1 + 1, 0, none⟩ (.bool b)).putObj (w.heap.size + 6 + 1) (.loop (rec .done (some .ret)))) from by
      rintro W3 g b ⟨nq, rfl⟩ rfl rfl
      have z2 := row_one_set (w := W2.drewN nq) x2 (.int .i64 ((rgo M hm D : Nat) : Int))
      have z3 := row_one_set (w := (W2.drewN nq).setCell ⟨w.heap.size + 1 + 1, 0, none⟩ (.int .i64 ((rgo M hm D : Nat) : Int))) ((Below.heap_setCell (W2.drewN nq) ⟨w.heap.size + 1 + 1, 0, none⟩ _ _ (by simp)).trans x3) (.bool (decide (c (rgo M hm D) ≠ 0)))
      have zz : ∀ q, q ≠ w.heap.size + 1 + 1 → q ≠ w.heap.size + 1 + 1 + 1 → (((W2.drewN nq).setCell ⟨w.heap.size + 1 + 1, 0, none⟩ (.int .i64 ((rgo M hm D : Nat) : Int))).setCell ⟨w.heap.size + 1 + 1 + 1, 0, none⟩ (.bool (decide (c (rgo M hm D) ≠ 0)))).heap[q]? = W2.heap[q]? := fun q h1 h2 => by
        rw [Below.heap_setCell _ _ _ _ (by simp; omega), Below.heap_setCell _ _ _ _ (by simp; omega)]; rfl
      have hl3 : w.heap.size + 7 < W2.heap.size := (Array.getElem?_eq_some_iff.1 hl2).1
      refine ⟨(zz _ (by omega) (by omega)).trans hl2, ?_⟩
      rw [hFD]
      refine ⟨?_, ?_, ?_, ?_, ?_⟩
      · rw [World.putObj_heap_other (by omega), Below.heap_setCell _ _ _ _ (by simp)]; exact z2
      · rw [World.putObj_heap_other (by omega)]; exact z3
      · rw [World.putObj_heap_other (by omega)]; exact (zz _ (by omega) (by omega)).trans x6
      · exact World.putObj_heap_same (by simpa using hl3)
      · refine below_putObj ?_ (by simp; omega) (by omega) _
        refine Below.setCell (Below.setCell ?_ (by simp; omega) _) (by simp; omega) _
        exact below_drewN (hbW.trans (hb2.mono (by omega))) nq)
    by_cases hz : c (rgo M hm D) = 0
    · rw [hz] at hck
      have hd : decide (c (rgo M hm D) ≠ 0) = false := by simp [hz]
      have HE := Lib.hid (And.intro hd True.intro)
      obtain ⟨g, hg⟩ : ∃ g, rgo M hm D = g := ⟨_, rfl⟩
      rw [hg] at hck hk ⊢
      have HG := Lib.hid hg
      clear hb2 hl2 hJ hW2 hst hcle hg hd s4 s5 hround h0 hY hz x2 x3 x6 hbW
      gi_wp2
      have q := HFIN.out _ g false ⟨0, rfl⟩ HG.out.symm HE.out.1.symm
      exact ⟨q.1, rfl, q.2⟩
    · obtain ⟨ck, hcke⟩ : ∃ ck, c (rgo M hm D) = ck := ⟨_, rfl⟩
      have hd : decide (c (rgo M hm D) ≠ 0) = true := by simp [hz]
      have HE := Lib.hid (And.intro hd True.intro)
      have hst2 := hst.resolve_left hz
      rw [hcke] at hck hst2 hcle hz
      obtain ⟨g, hg⟩ : ∃ g, rgo M hm D = g := ⟨_, rfl⟩
      rw [hg] at hck hk ⊢
      obtain ⟨z, rfl⟩ : ∃ z, ck = z + 1 := ⟨ck - 1, by omega⟩
      rw [show z + 1 - 1 = z by omega] at hst2
      obtain ⟨bi, rfl, hid⟩ := s5 z (by omega)
      rw [hst2] at hid
      have hzn : z < n := by omega
      have hw1 : IntKind.i32.wrap (z : Int) = (z : Int) := by rw [IntKind.wrap_i32]; omega
      have hxx : ((x : Int) == (x : Int)) = true := by simp
      have HG := Lib.hid hg
      clear hb2 hl2 hJ hW2 hst hst2 hcke hcle hg hd s4 s5 hround h0 hY hz x2 x3 x6 hbW
      gi_wp2
      refine wpIn_region_quiet_r (by kernel_rfl) (by kernel_rfl) (by kernel_rfl) ?_
      repeat (gi_big_quiet_step (fail))
      refine wpQuietIn_nil ?_
      rintro _ ⟨nq, rfl⟩
      gi_wp2
      have q := HFIN.out _ g true ⟨nq, rfl⟩ HG.out.symm HE.out.1.symm
      exact ⟨q.1, rfl, q.2⟩
  refine (iProbe1_any (hm := hm) 4 hx HB.out.2.2.2.1 hD HB.out.2.2.2.2.2.2 (by omega) (by omega) (by omega) (row_one HB.out.2.1).1 (row_one HB.out.2.2.1).1 hY hZ h0).mono ?_
  rintro r W2 ⟨hr, hF⟩
  rw [hFD] at hF
  obtain ⟨z2, z3, z6, z7, zb⟩ := hF
  refine ⟨hr, Or.inr ⟨.ret, z7, fun o => ?_⟩⟩
  have p2 := (World.putObj_heap_other (w := W2) (r := w.heap.size + 6 + 1) (o := o) (k := w.heap.size + 1 + 1) (by omega)).trans z2
  have p3 := (World.putObj_heap_other (w := W2) (r := w.heap.size + 6 + 1) (o := o) (k := w.heap.size + 1 + 1 + 1) (by omega)).trans z3
  have p6 := (World.putObj_heap_other (w := W2) (r := w.heap.size + 6 + 1) (o := o) (k := w.heap.size + 6) (by omega)).trans z6
  have pb := below_putObj zb zb.size (l := w.heap.size + 6 + 1) (by omega) o
  clear hY hZ hround
  gi_wp2
  refine ⟨by simp, .inl ⟨_, _, rfl, run_takeDeferred p6, ?_⟩⟩
  have t2 := (World.putObj_heap_other (w := W2.putObj (w.heap.size + 6 + 1) o) (r := w.heap.size + 6) (o := .deferred none) (k := w.heap.size + 1 + 1) (by omega)).trans p2
  have t3 := (World.putObj_heap_other (w := W2.putObj (w.heap.size + 6 + 1) o) (r := w.heap.size + 6) (o := .deferred none) (k := w.heap.size + 1 + 1 + 1) (by omega)).trans p3
  refine ⟨_, results_2 rfl (.cell (by rfl) Try.underlying3 rfl (row_one t2).1) (.cell (by rfl) Try.underlying4 rfl (row_one t3).1), rfl, ?_⟩
  exact below_putObj pb pb.size (by omega) _
end Go.Proofs.Ythlfmlpdnbeelaa
