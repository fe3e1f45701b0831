/- ExpI: layer 35: Due: the iterator. -/
import Derived.Test.YtmlbacbcdjfioaaExpD
set_option linter.unusedSimpArgs false
set_option linter.unusedVariables false
namespace Go.Proofs.Ytmlbacbcdjfioaa
open Go.RowKit Go.Shelf
attribute [local go_sem] Oper.semAt_some

/-- Entry k. -/
theorem minV_drop {A : Hp} {L : List Ent} {k : Nat} (h : Srt A (L.drop k)) : minV A.first = .tuple #[.agg #[.int .i64 ((entAt L k).1 : Int), .int .i64 (entAt L k).2], .bool (decide (k < L.length))] := by
  rw [h.first_eq]
  by_cases hk : k < L.length
  · rw [List.drop_eq_getElem_cons hk]
    simp [minV, entV, hk, entAt_eq]
  · rw [List.drop_eq_nil_of_le (by omega)]
    simp [minV, entAt, List.getD, List.getElem?_eq_none (show L.length ≤ k by omega), show ¬ k < L.length from hk]

/-- What a round of Due's caller does. -/
def DueYield (w0 w : World) (e b : Nat) (S0 : Nat → Prop) (L : List Ent) (now : Int) (ms : Nat) (rdy : Obj) (m : Nat) : Prop :=
  ∀ A' S' v k j W (hj : j < L.length), DueJ w0 w e b S0 L now ms rdy A' S' v k j W → YieldAt Fence.wide m Try.prog (w.heap.size + 4) #[.int .i64 ((entAt L j).1 : Int)] W fun r W' =>
    r = .returned (.bool true) ∧ ∃ v', DueJ w0 w e b S0 L now ms rdy A' S' v' k (j + 1) W' ∧ Upd (fun z => z = w.heap.size ∨ z = w.heap.size + 4 ∨ v.ownBlock = some z) W W' ∧ (∀ q, v'.ownBlock = some q → v.ownBlock = some q ∨ W.heap.size ≤ q)

set_option maxRecDepth 100000 in
set_option maxHeartbeats 2000000 in
theorem edue1_any {w0 w : World} {e b : Nat} {S0 : Nat → Prop} {L : List Ent} {now : Int} {ms : Nat} {rdy : Obj} (m : Nat) (hY : DueYield w0 w e b S0 L now ms rdy m)
    {A0 : Hp} {S1 : Nat → Prop} {v0 : Value} {W : World} (h0 : DueJ w0 w e b S0 L now ms rdy A0 S1 v0 0 0 W) :
    CallsIn Fence.wide (m + 1) Try.prog 87 #[.func (.yield (w.heap.size + 4)) #[] #[], .pointer (some ⟨w.heap.size + 1, 0, none⟩), .pointer (some ⟨w.heap.size + 2, 0, none⟩)] W fun r W' => (∃ v, r = .returned v) ∧
      ∃ A' S' v k, DueJ w0 w e b S0 L now ms rdy A' S' v k k W' ∧ ∀ x ∈ L.drop k, now < x.2 := by
  have s1 := (row_one h0.sb).1
  have HX0 := eNext_any h0.hin
  rw [minV_drop h0.srt] at HX0
  obtain ⟨ok0, hok0⟩ : ∃ ok0, decide (0 < L.length) = ok0 := ⟨_, rfl⟩
  rw [hok0] at HX0
  have HX := Lib.hid HX0
  have H0 := Lib.hid h0
  have HOK := Lib.hid hok0
  have HYY := Lib.hid hY
  clear h0 HX0 hY hok0
  refine callsIn_of_wp Try.func87 rfl trivial ?_ rfl
  simp only [Try.ntmps87, List.size_toArray, List.length_cons, List.length_nil, Nat.reduceAdd, Nat.reduceSub, Array.replicate_succ, Array.replicate_zero, List.push_toArray, List.append_toArray, List.nil_append, List.cons_append]
  gi_wp2_with (refine ⟨trivial, ?_⟩; gi_at_call 31; refine (callsIn_wide.2 HX.out).mono ?_; rintro r w1 ⟨rfl, hb1⟩; have HB1 := Lib.hid hb1; clear hb1)
  gi_loopw [4, 5] (fun x y wr => ∃ (A' : Hp) (S' : Nat → Prop) (v : Value) (k q : Nat) (ok : Bool), x = .pointer (some ⟨q, 0, none⟩) ∧ y = .bool ok ∧ ok = decide (k < L.length) ∧ DueJ w0 w e b S0 L now ms rdy A' S' v k k wr ∧
      w.heap.size + 5 ≤ q ∧ ¬ S' q ∧ v.ownBlock ≠ some q ∧ wr.heap[q]? = some (.cells #[.int .i64 ((entAt L k).1 : Int), .int .i64 (entAt L k).2] 28 (0, 0))) (fun _ _ wr => lenAt wr b)
  case atStart =>
    have hz := HB1.out.size
    have h0 := H0.out
    have hsz := h0.sz
    refine ⟨A0, S1, v0, 0, w1.heap.size, ok0, rfl, rfl, HOK.out.symm, (h0.below HB1.out).below ((Below.refl _ _).alloc (Nat.le_refl _) _), by omega, fun hs => absurd (h0.hin.foot hs).2 (by omega), fun hv => absurd (h0.own.lt _ hv).2 (by omega), heap_alloc_new _ _⟩
  case round =>
    obtain ⟨A', S', v, k, q, ok, rfl, rfl, hok, hj, hq1, hq2, hq3, hq⟩ := hrel
    have n1 := (row_one hj.nb).1
    have s2 := (row_one hj.sb).1
    have ec := hj.hin.cell
    obtain ⟨r0, r1, _, _⟩ := row_two hq
    have HJ := Lib.hid hj
    cases ok with
    | false =>
      have hk : ¬ k < L.length := by simpa using hok.symm
      clear hj hok
      gi_wp2
      go_end0
      exact ⟨⟨_, rfl⟩, A', S', v, k, HJ.out, fun x hx => by rw [List.drop_eq_nil_of_le (by omega)] at hx; simp at hx⟩
    | true =>
      have hk : k < L.length := by simpa using hok.symm
      have hdrop : L.drop k = entAt L k :: L.drop (k + 1) := by
        rw [List.drop_eq_getElem_cons hk, entAt_eq hk]
      by_cases hx : (entAt L k).2 ≤ now
      · have HP0 := hj.hin.hin.pop
        rw [minV_drop hj.srt, show decide (k < L.length) = true by simp [hk]] at HP0
        have HP := Lib.hid HP0
        have HD := Lib.hid hdrop
        have HQ := Lib.hid (And.intro hq1 (And.intro hq2 (And.intro hq3 hq)))
        have HME := Lib.hid (lenAt_eq hj.hin.hin.1 hj.srt)
        obtain ⟨ok1, hok1⟩ : ∃ ok1, decide (k + 1 < L.length) = ok1 := ⟨_, rfl⟩
        have HOK1 := Lib.hid hok1
        clear hj hok hdrop HP0 hq hq2 hq3 hok1
        gi_wp2_with (first
          | (refine ⟨trivial, ?_⟩; gi_at_call 23; refine (callsIn_wide.2 HP.out).mono ?_; rintro r w2 ⟨rfl, hn⟩; obtain ⟨S2, a1, a2, a3⟩ := HJ.out.pop HD.out hx hn; have k0 := (a3.keep q (World.block_lt_of_cell? _ _ r0) HQ.out.2.1).trans HQ.out.2.2.2; obtain ⟨p0, p1, pf, pl⟩ := row_two k0; obtain ⟨fn, tmps, assign, body, hy, hR⟩ := HYY.out _ _ _ _ _ _ hk a1; have HA := Lib.hid (And.intro a1 (And.intro a2 (And.intro a3 k0))); clear hn a1 a2 a3 k0))
        refine hR.mono ?_
        rintro r w3 ⟨rfl, v', b1, b2, b3⟩
        obtain ⟨a1, a2, a3, k0⟩ := HA.out
        have m0 := (b2.keep q pl (by
          have := HQ.out.2.2.1
          rintro (h | h | h)
          · omega
          · omega
          · exact this h)).trans k0
        obtain ⟨z0, z1, _, _⟩ := row_two m0
        have c1 : ∀ o, (w3.alloc o).cell? ⟨w.heap.size + 1, 0, none⟩ = some (.pointer (some ⟨e, 0, none⟩)) := fun o => (row_one (b1.below ((Below.refl _ _).alloc (Nat.le_refl _) o)).sb).1
        have HX2 := Lib.hid (fun o => by
          have := eNext_any (b1.below ((Below.refl _ _).alloc (Nat.le_refl _) o)).hin
          rw [minV_drop b1.srt, HOK1.out] at this
          exact this)
        have HB := Lib.hid (And.intro b1 (And.intro b2 b3))
        clear hR hy a1 a2 a3 k0 b1 b2 b3 m0
        gi_wp2_with (first
          | (refine ⟨trivial, ?_⟩; gi_at_call 31; refine (callsIn_wide.2 (HX2.out _)).mono ?_; rintro r w4 ⟨rfl, hb4⟩; have hl4 := hb4.size; simp only [World.size_alloc] at hl4; have kk := (hb4.block w3.heap.size (by simp)).trans (heap_alloc_new _ _); obtain ⟨g0, g1, gf, gl⟩ := row_two kk; have HB4 := Lib.hid (And.intro hb4 kk); clear hb4 kk))
        go_roundw
        case rel =>
          obtain ⟨b1, b2, b3⟩ := HB.out
          obtain ⟨hb4, kk⟩ := HB4.out
          have hz3 := b1.sz
          have h5 := (b1.below ((Below.refl _ _).alloc (Nat.le_refl _) _)).below hb4
          refine ⟨_, S2, v', k + 1, w3.heap.size, ok1, rfl, rfl, HOK1.out.symm, h5.other (F := fun z => z = w3.heap.size) (((Upd.refl (fun z => z = w3.heap.size) w4).setCell (p := ⟨w3.heap.size, 0, none⟩) (fun _ => rfl) _).setCell (p := ⟨w3.heap.size, 1, none⟩) (fun _ => rfl) _) ?_, by omega, fun hs => absurd (b1.hin.foot hs).2 (by omega), fun hv => absurd (b1.own.lt _ hv).2 (by omega), row_two_set kk _ _⟩
          rintro z rfl
          exact ⟨by omega, fun hs => absurd (b1.hin.foot hs).2 (by omega), fun hv => absurd (b1.own.lt _ hv).2 (by omega)⟩
        case measure =>
          obtain ⟨b1, b2, b3⟩ := HB.out
          obtain ⟨hb4, kk⟩ := HB4.out
          have h5 := (b1.below ((Below.refl _ _).alloc (Nat.le_refl _) _)).below hb4
          have h6 := h5.other (F := fun z => z = w3.heap.size) (((Upd.refl (fun z => z = w3.heap.size) w4).setCell (p := ⟨w3.heap.size, 0, none⟩) (fun _ => rfl) (.int .i64 ((entAt L (k + 1)).1 : Int))).setCell (p := ⟨w3.heap.size, 1, none⟩) (fun _ => rfl) (.int .i64 (entAt L (k + 1)).2)) (by
            rintro z rfl
            exact ⟨by have := b1.sz; omega, fun hs => absurd (b1.hin.foot hs).2 (by omega), fun hv => absurd (b1.own.lt _ hv).2 (by omega)⟩)
          rw [lenAt_eq h6.hin.hin.1 h6.srt, HME.out]
          simp only [List.length_drop]
          omega
      · have hl := hj.le
        clear hok
        gi_wp2
        go_end0
        have ho := HJ.out.srt.ord
        have hf : ∀ x ∈ L.drop k, now < x.2 := by
          rw [hdrop] at ho ⊢
          exact head_late ho (by omega)
        first
          | exact ⟨⟨_, rfl⟩, A', S', v, k, HJ.out, hf⟩
          | exact ⟨⟨_, rfl⟩, A', S', v, k, HJ.out, fun a c h => hf (a, c) h⟩
end Go.Proofs.Ytmlbacbcdjfioaa
