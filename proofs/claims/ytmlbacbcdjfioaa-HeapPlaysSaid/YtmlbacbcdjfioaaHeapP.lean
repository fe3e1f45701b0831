/- HeapP: layer 4: Push. -/
import Derived.Test.YtmlbacbcdjfioaaHeapQ
import Derived.RangeFuncBox
set_option linter.unusedSimpArgs false
set_option linter.unusedVariables false
namespace Go.Proofs.Ytmlbacbcdjfioaa
open Go.ChangeShapes Go.WideShapes Go.ChangeAt Go.RowKit

theorem infoEntry : (Try.prog.info? 28).map (fun i => (i.zero, i.size, i.bytes)) = some (some (.agg #[.int .i64 0, .int .i64 0]), 2, 16) := by kernel_rfl
theorem cell_two {w : World} {ad : Addr} {u v : Value} (h : w.cell? ad = some u) (k : w.cell? (ad.add 1) = some v) : ∀ j x, [u, v][j]? = some x → w.cell? (ad.add j) = some x := by
  intro j x hj
  match j, hj with
  | 0, hj => simp at hj; subst hj; simpa [Addr.add] using h
  | 1, hj => simp at hj; subst hj; exact k
theorem two_oneCell {u v : Value} (h : u.oneCell' = true) (k : v.oneCell' = true) : ∀ x ∈ [u, v], x.oneCell' = true := by
  intro x hx
  simp at hx
  rcases hx with rfl | rfl
  · exact h
  · exact k
theorem inj_le {n slots : Nat} {f : Nat → Ent} (lt : ∀ k, k < n → (f k).1 < slots) (inj : ∀ j k, j < n → k < n → (f j).1 = (f k).1 → j = k) : n ≤ slots := by
  have hn : ((List.range n).map (fun k => (f k).1)).Nodup := by
    rw [List.nodup_iff_pairwise_ne, List.pairwise_map]
    have := List.nodup_range (n := n)
    rw [List.nodup_iff_pairwise_ne] at this
    refine this.imp_of_mem ?_
    intro a b ha hb hab e
    exact hab (inj a b (List.mem_range.1 ha) (List.mem_range.1 hb) e)
  have h1 := hn.length_le_of_subset (l₂ := List.range slots) (fun y hy => by
    obtain ⟨k, hk, rfl⟩ := List.mem_map.1 hy
    exact List.mem_range.2 (lt k (List.mem_range.1 hk)))
  simpa using h1

section
variable {B : Nat} {w : World} {b pb : Nat} {v : Value} {slots n : Nat} {f : Nat → Ent} {P : Nat → Int}

/-- An entry is added at the end: behind the append and the store of the slice. -/
theorem HeapMid.push {w1 : World} (h : HeapMid B w b pb v slots n f P) {i : Nat} (hi : i < slots) (x : Int) (hns : n + 1 ≤ slots) (o : Obj) {v' : Value}
    (own : w1.ownsRow B 28 2 v' (n + 1) (flat n f ++ [.int .i64 (i : Int), .int .i64 x])) (hg : (w.alloc o).grownBy w1 v.ownBlock) (hv : v'.ownBlock = v.ownBlock ∨ v'.ownBlock = some (w.alloc o).heap.size) :
    HeapMid B (w1.setCell ⟨b, 3, none⟩ v') b pb v' slots (n + 1) (fun j => if j = n then (i, x) else f j) P ∧ Upd (HFoot b pb v) w (w1.setCell ⟨b, 3, none⟩ v') ∧ (∀ k, HFoot b pb v' k → HFoot b pb v k ∨ w.heap.size ≤ k) := by
  have hbl := h.b_lt
  have hpl := h.pl
  have hu : Upd (HFoot b pb v) w w1 := ((Upd.refl _ w).alloc o).grown hg (fun k hk _ => Or.inr (Or.inr hk))
  have hnb : v'.ownBlock ≠ some b := by
    rcases hv with e | e
    · rw [e]; exact h.vb
    · rw [e]; simp; omega
  have hnp : v'.ownBlock ≠ some pb := by
    rcases hv with e | e
    · rw [e]; exact h.vp
    · rw [e]; simp; omega
  have keepB : w1.heap[b]? = w.heap[b]? := by
    rw [hg.block b (by simp; omega) (fun e => h.vb e.symm)]
    exact heap_alloc_old _ _ hbl
  have keepP : w1.heap[pb]? = w.heap[pb]? := by
    rw [hg.block pb (by simp; omega) (fun e => h.vp e.symm)]
    exact heap_alloc_old _ _ hpl
  have e : ∀ o, w1.cell? ⟨b, o, none⟩ = w.cell? ⟨b, o, none⟩ := fun o => World.cell?_of_block (w := w) keepB
  have g : ∀ o, w1.frozen? ⟨b, o, none⟩ = w.frozen? ⟨b, o, none⟩ := fun o => World.frozen?_of_block (w := w) keepB
  have e2 : ∀ o, w1.cell? ⟨pb, o, none⟩ = w.cell? ⟨pb, o, none⟩ := fun o => World.cell?_of_block (w := w) keepP
  have g2 : ∀ o, w1.frozen? ⟨pb, o, none⟩ = w.frozen? ⟨pb, o, none⟩ := fun o => World.frozen?_of_block (w := w) keepP
  have e3 : ∀ o, o ≠ 3 → (w1.setCell ⟨b, 3, none⟩ v').cell? ⟨b, o, none⟩ = w.cell? ⟨b, o, none⟩ := fun o ho => (World.cell?_setCell_other _ _ _ _ (by simp <;> omega)).trans (e o)
  have e4 : ∀ o, (w1.setCell ⟨b, 3, none⟩ v').cell? ⟨pb, o, none⟩ = w.cell? ⟨pb, o, none⟩ := fun o => (World.cell?_setCell_other _ _ _ _ (by have := h.ne; simp <;> omega)).trans (e2 o)
  have hsz := hu.size
  refine ⟨⟨h.hs, ?_, hns, h.ne, (e3 0 (by omega)).trans h.c0, (e3 1 (by omega)).trans h.c1, ?_, ?_, ?_, ?_, ?_, ?_, hnb, hnp, ?_, ?_⟩, hu.setCell (fun _ => Or.inl rfl) _, ?_⟩
  · intro k hk
    by_cases hkn : k = n
    · simp [hkn, hi]
    · simp only [hkn, if_false]; exact h.lt k (by omega)
  · obtain ⟨m, cap, c, r⟩ := h.c2
    exact ⟨m, cap, (e3 2 (by omega)).trans c, r⟩
  · rw [cell_set, if_pos rfl, e, h.c3]; rfl
  · intro o; rw [frozen_set, g]; exact h.fb o
  · intro i hi; rw [e4]; exact h.pos i hi
  · intro o; rw [frozen_set, g2]; exact h.fp o
  · rw [← flat_push]
    exact ownsRow_setCell_other own hnb _
  · have := h.bs; simp; omega
  · simp; omega
  · intro k hk
    rcases hk with rfl | rfl | hk
    · exact Or.inl (Or.inl rfl)
    · exact Or.inl (Or.inr (Or.inl rfl))
    · rcases hv with e | e
      · exact Or.inl (Or.inr (Or.inr (by rw [← e]; exact hk)))
      · rw [e] at hk
        simp at hk
        exact Or.inr (by omega)
theorem PosOk.push (h : PosOk slots n f P) {i : Nat} (x : Int) (hz : ∀ k, k < n → (f k).1 ≠ i) :
    PosOk slots (n + 1) (fun j => if j = n then (i, x) else f j) (fun j => if j = i then (n : Int) + 1 else P j) := by
  refine ⟨?_, ?_, ?_⟩
  · intro j k hj hk e
    by_cases h1 : j = n
    · by_cases h2 : k = n
      · omega
      · simp only [h1, h2, if_true, if_false] at e
        exact absurd e.symm (hz k (by omega))
    · by_cases h2 : k = n
      · simp only [h1, h2, if_true, if_false] at e
        exact absurd e (hz j (by omega))
      · simp only [h1, h2, if_false] at e
        exact h.inj j k (by omega) (by omega) e
  · intro k hk
    by_cases h1 : k = n
    · simp [h1]
    · have := hz k (by omega)
      simp only [h1, if_false, this]
      exact h.at_ k (by omega)
  · intro j hj hz2
    have h1 := hz2 n (by omega)
    simp only [if_true] at h1
    rw [if_neg (fun e => h1 e.symm)]
    refine h.zero j hj ?_
    intro k hk e
    have := hz2 k (by omega)
    rw [if_neg (by omega)] at this
    exact this e

set_option maxHeartbeats 1000000
set_option maxRecDepth 100000 in
theorem hPush_new (h : HeapRaw B w b pb v slots n f) (ho : HeapOrd n f) {i : Nat} (hi : i < slots) (hz : ∀ k, k < n → (f k).1 ≠ i) (x : Int) :
    Calls Try.prog 50 #[.pointer (some ⟨b, 0, none⟩), .int .i64 i, .int .i64 x] w fun e w' => e = .returned (.int .i64 0) ∧
      ∃ v' f', HeapRaw B w' b pb v' slots (n + 1) f' ∧ HeapOrd (n + 1) f' ∧ SameEnts (n + 1) (fun j => if j = n then (i, x) else f j) f' ∧ Upd (HFoot b pb v) w w' ∧ (∀ k, HFoot b pb v' k → HFoot b pb v k ∨ w.heap.size ≤ k) := by
  obtain ⟨P, hm, hpos⟩ := h.mid
  have hpp := hpos.push x hz
  have hn1 : n + 1 ≤ slots := inj_le (f := fun j => if j = n then (i, x) else f j) (fun k hk => by
    by_cases hkn : k = n
    · simp [hkn, hi]
    · simp only [hkn, if_false]; exact h.lt k (by omega)) hpp.inj
  have hn2 := h.hs
  have hbl := h.b_lt
  have hbs := h.bs
  have c3 := h.c3
  have fb := h.fb
  have HC := Lib.hid (hCheck_none h i hi hz)
  have HM := Lib.hid (fun (w1 : World) (o : Obj) (v' : Value) own hg hv => hm.push (w1 := w1) hi x hn1 o (v' := v') own hg hv)
  have HP := Lib.hid hpp
  have HX := Lib.hid (ho.pushed (i, x))
  have own := h.own
  have HB0 := Lib.hid (fun (w1 : World) (o : Obj) (hg : (w.alloc o).grownBy w1 v.ownBlock) => show w1.heap[b]? = w.heap[b]? by
    rw [hg.block b (by simp; omega) (fun e => h.vb e.symm)]
    exact heap_alloc_old _ _ hbl)
  clear h hm hpos hpp hz ho
  go_enter Try.func50, Try.ntmps50
  go_wp2_with (first
    | (go_at_call 76; refine HC.out.mono ?_; rintro e w' ⟨rfl, rfl⟩)
    | (at_builtin; (refine wpList_append2 _ _ 68 rfl rfl infoEntry Try.underlying68 rfl (by decide) rfl rfl (own.alloc _) (news := [.int .i64 (i : Int), .int .i64 x]) rfl (cell_two (u := .int .i64 (i : Int)) (v := .int .i64 x) (ad := ⟨w.heap.size, 0, none⟩) (World.cell?_alloc_at _ _ _ _ (by simp)) (World.cell?_alloc_at _ _ _ 1 (by simp))) (two_oneCell rfl rfl) (by unfold maxLen; omega) (by omega) (by simp; omega) ?_); intro v' w1 hown1 hgr1 hnil1 hblk1; obtain ⟨g1, cap1, rfl⟩ := ownsRow_succ hown1; have c31 := (World.cell?_of_block (a := ⟨b, 3, none⟩) (HB0.out w1 _ hgr1)).trans c3; have fb1 := (World.frozen?_of_block (a := ⟨b, 3, none⟩) (HB0.out w1 _ hgr1)).trans (fb 3); have HMP := Lib.hid (HM.out w1 _ _ hown1 hgr1 hblk1); clear hown1 hgr1 hblk1 hnil1)
    | (go_at_call 77; refine (hPut_mid HMP.out.1 (Nat.lt_succ_self n)).mono ?_; rintro e w3 ⟨rfl, hm3, hu3⟩; have c33 := hm3.c3; simp only [if_true] at hm3; have HM3 := Lib.hid hm3; have HU3 := Lib.hid hu3; clear hm3 hu3)
    | (go_at_call 78; refine (hSettle_any (HM3.out.raw HP.out) (Nat.lt_succ_self n) HX.out).mono ?_; rintro e w4 ⟨rfl, hq⟩; have HQ := Lib.hid hq; clear hq))
  go_ret
  obtain ⟨f', h1, h2, h3, h4⟩ := HQ.out
  refine ⟨by simp, _, f', h3, h1, h2, (HMP.out.2.1.trans HU3.out ?_).trans h4 ?_, HMP.out.2.2⟩
  · intro k hk hf
    rcases HMP.out.2.2 k hf with h | h
    · exact h
    · omega
  · intro k hk hf
    rcases HMP.out.2.2 k hf with h | h
    · exact h
    · omega
end
end Go.Proofs.Ytmlbacbcdjfioaa
