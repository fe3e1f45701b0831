/- ExpE: layer 35: Due. -/
import Derived.Test.YtmlbacbcdjfioaaExpI
import Derived.Test.YtmlbacbcdjfioaaHeapC
set_option linter.unusedSimpArgs false
set_option linter.unusedVariables false
namespace Go.Proofs.Ytmlbacbcdjfioaa
open Go.RowKit Go.Shelf
attribute [local go_sem] Oper.semAt_some

/-- What Due leaves. -/
def DueOut (w0 w : World) (e b ms : Nat) (S : Nat → Prop) (L : List Ent) (now : Int) (r : Ending) (w' : World) : Prop :=
  ∃ v k A' S', r = .returned v ∧ k ≤ L.length ∧ w'.ownsRow w.heap.size 3 1 v k (idxs (L.take k)) ∧ EIn w0 w' e b A' S' ∧ (∀ q, S' q → S q ∨ w.heap.size ≤ q) ∧ (∀ q, v.ownBlock = some q → ¬ S' q) ∧
    Srt A' (L.drop k) ∧ (∀ x ∈ L.take k, x.2 ≤ now) ∧ (∀ x ∈ L.drop k, now < x.2) ∧ Upd S w w' ∧ A'.slots = ms

theorem edue_any (e : Nat) (now : Int) (w : World) :
    Calls Try.prog 63 #[.pointer (some ⟨e, 0, none⟩), .int .i64 now] w fun r w' => r = .returned (.func (.func 87) #[] #[.pointer (some ⟨w.heap.size, 0, none⟩), .pointer (some ⟨w.heap.size + 1, 0, none⟩)]) ∧
      (w.alloc (.cells #[.pointer (some ⟨e, 0, none⟩)] 33)).alloc (.cells #[.int .i64 now] 2) = w' := by
  go_enter Try.func63, Try.ntmps63
  go_wp2
  go_ret
  exact ⟨rfl, rfl⟩

set_option maxRecDepth 100000 in
set_option maxHeartbeats 2000000 in
theorem eDue_any {w0 w : World} {e b : Nat} {A : Hp} {S : Nat → Prop} {L : List Ent} {now : Int} (h : EIn w0 w e b A S) (hs : Srt A L) :
    Calls Try.prog 32 #[.pointer (some ⟨e, 0, none⟩), .int .i64 now] w (DueOut w0 w e b A.slots S L now) := by
  have HH := Lib.hid (And.intro h hs)
  have c0 := h.cell
  have hlt := h.lt
  have hlen : L.length ≤ 65536 := by
    have := hs.len h.ok
    have h2 := (A.len_le)
    have h3 := h.ok.slots
    omega
  clear h hs
  refine (callsIn_wide (n := 6)).1 ?_
  refine callsIn_of_wp_marks Try.func32 rfl trivial ?_ rfl
  simp only [Try.ntmps32, List.size_toArray, List.length_cons, List.length_nil, Nat.reduceAdd, Nat.reduceSub, Array.replicate_succ, Array.replicate_zero, List.push_toArray, List.append_toArray, List.nil_append, List.cons_append]
  gi_wp2_with (refine ⟨trivial, ?_⟩; gi_at_call 63; refine (callsIn_wide.2 (edue_any _ _ _)).mono ?_; rintro r w1 ⟨rfl, rfl⟩)
  obtain ⟨W0, hW0⟩ : ∃ W0, ((w.alloc (.cells #[.slice none 0 0] 43)).alloc (.cells #[.pointer (some ⟨e, 0, none⟩)] 33)).alloc (.cells #[.int .i64 now] 2) = W0 := ⟨_, rfl⟩
  have hsz : W0.heap.size = w.heap.size + 3 := by rw [← hW0]; simp
  rw [hW0]
  refine wpIn_rangeFunc_free rfl (by decide) (gf := 87) (lb := #[.pointer (some ⟨w.heap.size + 1, 0, none⟩), .pointer (some ⟨w.heap.size + 2, 0, none⟩)]) rfl trivial (enters_of Try.func87 (by kernel_rfl) rfl) ?_
  intro rec hround
  rw [hsz] at hround ⊢
  have h0 : DueJ w0 w e b S L now A.slots (.loop (rec .ready none)) A S (.slice none 0 0) 0 0 ((W0.alloc (.deferred (some []))).alloc (.loop (rec .ready none))) := by
    obtain ⟨h, hs⟩ := HH.out
    have hb0 : Below w.heap.size w W0 := by rw [← hW0]; exact (((Below.refl _ w).alloc (Nat.le_refl _) _).alloc (by simp) _).alloc (by simp; omega) _
    have hb : Below w.heap.size w ((W0.alloc (.deferred (some []))).alloc (.loop (rec .ready none))) := (hb0.alloc (by omega) _).alloc (by simp; omega) _
    have g0 : W0.heap[w.heap.size]? = some (.cells #[.slice none 0 0] 43 (0, 0)) := by
      rw [← hW0, heap_alloc_old _ _ (by simp; omega), heap_alloc_old _ _ (by simp), heap_alloc_new]
    have g1 : W0.heap[w.heap.size + 1]? = some (.cells #[.pointer (some ⟨e, 0, none⟩)] 33 (0, 0)) := by
      rw [← hW0, heap_alloc_old _ _ (by simp), heap_alloc2_new]
    have g2 : W0.heap[w.heap.size + 2]? = some (.cells #[.int .i64 now] 2 (0, 0)) := by
      rw [← hW0]
      have := heap_alloc_new ((w.alloc (.cells #[.slice none 0 0] 43)).alloc (.cells #[.pointer (some ⟨e, 0, none⟩)] 33)) (.cells #[.int .i64 now] 2)
      simpa using this
    have old : ∀ q, q < W0.heap.size → ((W0.alloc (.deferred (some []))).alloc (.loop (rec .ready none))).heap[q]? = W0.heap[q]? := fun q hq => by
      rw [heap_alloc_old _ _ (by simp; omega), heap_alloc_old _ _ hq]
    refine ⟨h.below hb, by simpa using hs, Nat.zero_le _, fun q hq => Or.inl hq, World.ownsRow_nil _ _ _ _, fun q hq => by simp [Value.ownBlock] at hq, (old _ (by omega)).trans g0, (old _ (by omega)).trans g1, (old _ (by omega)).trans g2, ?_, ?_, fun x hx => by simp at hx, ?_, by simp; omega, fun q hq => (h.foot hq).2, h.lt, rfl⟩
    · rw [heap_alloc_old _ _ (by simp; omega)]
      have := heap_alloc_new W0 (.deferred (some []))
      rwa [hsz] at this
    · have := heap_alloc2_new W0 (.deferred (some [])) (.loop (rec .ready none))
      rwa [hsz] at this
    · exact (Upd.of_below hb).mono (fun _ _ h => Or.inr h)
  have hY : DueYield w0 w e b S L now A.slots (.loop (rec .ready none)) 4 := by
    intro A' S' v k j W hj hJ
    refine hround _ W _ rfl hJ.lb ?_
    gi_wp2
    refine ⟨hJ.lb, ?_⟩
    have hJ2 := hJ.obj (o := .loop (rec .busy none))
    obtain ⟨W2, hW2⟩ : ∃ W2, W.putObj (w.heap.size + 3 + 1) (.loop (rec .busy none)) = W2 := ⟨_, rfl⟩
    have hu2 : Upd (fun z => z = w.heap.size + 4) W W2 := by rw [← hW2]; exact Upd.putObj (F := fun z => z = w.heap.size + 4) (Upd.refl _ W) (fun _ => rfl) _
    rw [show W.putObj (w.heap.size + 4) (.loop (rec .busy none)) = W2 from hW2] at hJ2
    rw [hW2]
    have bx := (row_one hJ2.box).1
    have bf := (row_one hJ2.box).2.1
    have hz2 := hJ2.sz
    have own := hJ2.own
    have HB0 := Lib.hid (fun (w1 : World) (o : Obj) (hg : (W2.alloc o).grownBy w1 v.ownBlock) => show w1.heap[w.heap.size]? = some (.cells #[v] 43 (0, 0)) by
      rw [hg.block _ (by simp; omega) (fun e => by have := (own.lt _ e.symm).1; omega), heap_alloc_old _ _ (by omega)]
      exact hJ2.box)
    have HJ := Lib.hid hJ2
    have HU := Lib.hid hu2
    clear hJ hJ2 hu2 hW2 h0
    gi_wp2_with (gi_at_builtin; refine wpListIn_append2 _ _ 43 rfl rfl infoInt Try.underlying43 rfl (by decide) rfl rfl (own.alloc _) (news := [.int .i64 ((entAt L j).1 : Int)]) rfl (cell_one (ad := ⟨W2.heap.size, 0, none⟩) (World.cell?_alloc_at _ _ _ _ rfl)) (one_oneCell rfl) (by unfold maxLen; omega) (by omega) (by simp; omega) ?_; intro v' w1 hown1 hgr1 hnil1 hblk1; obtain ⟨g1, cap1, rfl⟩ := ownsRow_succ hown1; obtain ⟨y1, y2, _⟩ := row_one (HB0.out _ _ hgr1); have HO := Lib.hid (And.intro hown1 (And.intro hgr1 hblk1)); clear hown1 hgr1 hnil1 hblk1)
    obtain ⟨hown1, hgr1, hblk1⟩ := HO.out
    rw [← entAt_eq hj] at hown1
    obtain ⟨h3, hu3⟩ := HJ.out.push hj hown1 hgr1 hblk1
    have h4 := h3.obj (o := .loop (rec .ready none))
    have hz := HU.out.size
    refine ⟨h3.lb, rfl, _, h4, ?_, ?_⟩
    · have hu5 : Upd (fun z => z = w.heap.size ∨ z = w.heap.size + 4 ∨ v.ownBlock = some z) W _ := ((HU.out.mono (G := fun z => z = w.heap.size ∨ z = w.heap.size + 4 ∨ v.ownBlock = some z) (fun _ _ h => Or.inr (Or.inl h))).trans hu3 (fun i hi hh => by
        rcases hh with rfl | hh
        · exact Or.inl rfl
        · exact Or.inr (Or.inr hh)))
      exact hu5.putObj (fun _ => Or.inr (Or.inl rfl)) _
    · intro q hq
      rcases hblk1 with e | e
      · exact Or.inl (by rw [← hq]; exact e.symm)
      · rw [e] at hq
        simp at hq
        exact Or.inr (by omega)
  refine (edue1_any 4 hY h0).mono ?_
  rintro r W2 ⟨hr, A', S', v, k, hJ, hlate⟩
  refine ⟨hr, Or.inl ⟨hJ.lb, fun o => ?_⟩⟩
  have hJ2 := hJ.obj (o := o)
  have bx := (row_one hJ2.box).1
  obtain ⟨W3, hW3⟩ : ∃ W3, W2.putObj (w.heap.size + 4) o = W3 := ⟨_, rfl⟩
  rw [hW3] at hJ2 bx
  rw [show W2.putObj (w.heap.size + 3 + 1) o = W3 from hW3]
  have HJ := Lib.hid hJ2
  clear hJ hJ2 hY h0 hW3
  gi_wp2
  have hJ := HJ.out
  have hz := hJ.sz
  have h0 := hJ.hin.ge
  refine ⟨by simp, .inl ⟨_, _, rfl, run_takeDeferred hJ.db, ?_⟩⟩
  have hu : Upd (fun z => z = w.heap.size + 3) W3 (W3.putObj (w.heap.size + 3) (.deferred none)) := Upd.putObj (F := fun z => z = w.heap.size + 3) (Upd.refl _ W3) (fun _ => rfl) _
  refine ⟨_, results_tmp rfl _ _ _, v, k, A', S', rfl, hJ.le, owns_same (ownsRow_base hJ.own (by omega)) (fun q hq => hu.keep q (hJ.own.lt q hq).2 (by have := (hJ.own.lt q hq).1; omega)), hJ.hin.upd hu (fun q hq e => hJ.nS (by omega) (by omega) (e ▸ hq)) (fun q hq => by omega) (by omega), ?_, hJ.sep, hJ.srt, hJ.due, hlate, ?_, hJ.sl⟩
  · intro q hq
    rcases hJ.foot q hq with h | h
    · exact Or.inl h
    · exact Or.inr (by omega)
  · have hu2 : Upd (fun q => S q ∨ w.heap.size ≤ q) w (W3.putObj (w.heap.size + 3) (.deferred none)) := hJ.upd.putObj (fun _ => Or.inr (by omega)) _
    exact hu2.mono (fun i hi h => h.resolve_right (by omega))
end Go.Proofs.Ytmlbacbcdjfioaa
