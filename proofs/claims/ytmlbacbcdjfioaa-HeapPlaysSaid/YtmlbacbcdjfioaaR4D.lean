/- R4D: layer 4: the document's heap: List, Min, Pop. -/
import Derived.Test.YtmlbacbcdjfioaaR4C
set_option linter.unusedSimpArgs false
set_option linter.unusedVariables false
namespace Go.Proofs.Ytmlbacbcdjfioaa
open Go.ChangeShapes Go.WideShapes Go.ChangeAt Go.RowKit

set_option maxHeartbeats 2000000
set_option maxRecDepth 100000
def sliceLen : Value → Nat
  | .slice _ n _ => n
  | _ => 0
section
variable {B : Nat} {w : World} {g n : Nat} {v : Value} {L : List Ent} {A : Hp}
theorem r4List_any (h : Ref4 B w g n v L) (hs : Lst A L) (ho : A.Ok) {M : List Ent} (hM : Srt A M) : Calls Try.prog 82 #[.pointer (some ⟨g, 0, none⟩)] w fun r w' => ∃ a cap, r = .returned (.slice a M.length cap) ∧ EntsIn w' a M.length cap M ∧ (∀ ad, a = some ad → w.heap.size ≤ ad.block) ∧ Below w.heap.size w w' := by
  obtain ⟨c0, c1, c2, cf, hg⟩ := row_three h.row
  have HV := Lib.hid (r4Valid_any h)
  have hln := h.hl
  have hns := h.ns
  have HW := Lib.hid h.all
  obtain ⟨a, cap, rfl, _⟩ := h.list
  have HLM := Lib.hid (hs.len hM)
  have HS := Lib.hid (And.intro hs (And.intro hM trivial))
  clear h hs hM ho
  go_enter Try.func82, Try.ntmps82
  go_wp2_with (first
    | (go_at_call 84; refine HV.out.mono ?_; rintro r wz ⟨rfl, rfl⟩)
    | (go_at_call 86; refine HW.out.mono ?_; rintro e w1 ⟨v', rfl, q1, q2⟩; obtain ⟨a1, c1', rfl⟩ := owns_shape q1; have HQ := Lib.hid (And.intro q1 q2); clear q1 q2))
  go_loopw [3, 4] (fun u y wr => ∃ (k : Nat) (R : List Ent) (A' : Hp) (a : Option Addr) (cap : Nat), k + R.length = M.length ∧ Lst A' R ∧ Srt A' (M.drop k) ∧ y = .slice a R.length cap ∧
      Sep w wr [ownT w.heap.size 28 2 k u (flat (M.take k).length (entAt (M.take k))), entsT a R.length cap R]) (fun _ y _ => sliceLen y)
  case atStart =>
    have h1 := (Sep.start w).add HQ.out.2 (ownT w.heap.size 28 2 L.length (.slice a1 L.length c1') (flat L.length (entAt L))) HQ.out.1 (fun q hq => (HQ.out.1.lt q hq).1)
    obtain ⟨a2, c2', he, h2⟩ := h1.own_ents 0 rfl
    simp only [Value.slice.injEq, true_and] at he
    obtain ⟨rfl, rfl⟩ := he
    refine ⟨0, L, A, a1, c1', by rw [HLM.out]; simp, HS.out.1, HS.out.2.1, rfl, ?_⟩
    exact h2.add (Below.refl _ _) _ (World.ownsRow_nil _ _ _ _) (fun q hq => by simp [ownT, Value.ownBlock] at hq)
  case round =>
    obtain ⟨k, R, A', ar, cr, hkR, hR, hMk, rfl, hsep⟩ := hrel
    have her := (show EntsIn wr ar R.length cr R from hsep.get 1 rfl)
    have hle := her.hle
    have hmx := her.hmax
    have hk6 : k + R.length ≤ 65536 := by have := HLM.out; omega
    have HKR := Lib.hid hkR
    have HX := Lib.hid (And.intro hR hMk)
    by_cases h0 : 0 < R.length
    · obtain ⟨b, off, rfl⟩ := her.addr h0
      have HSEP := Lib.hid hsep
      clear her hsep hR hMk hkR
      go_wp2
      go_loopw [5, 6] (fun u y wq => ∃ (f j : Nat), u = .int .i64 f ∧ y = .int .i64 j ∧ f < j ∧ j ≤ R.length ∧ (∀ i, i < j → before (entAt R i) (entAt R f) = false) ∧ Sep w wq [ownT w.heap.size 28 2 k u3 (flat (M.take k).length (entAt (M.take k))), entsT (some ⟨b, off, none⟩) R.length cr R]) (fun _ y _ => R.length - (intOf y).toNat)
      case atStart =>
        refine ⟨0, 1, rfl, rfl, by omega, by omega, fun i hi => ?_, HSEP.out⟩
        obtain rfl : i = 0 := by omega
        exact before_irrefl _
      case round =>
        obtain ⟨f, j, rfl, rfl, hfj, hj, hmin, hsep⟩ := hrel
        have HE2 := Lib.hid (show EntsIn wr (some ⟨b, off, none⟩) R.length cr R from hsep.get 1 rfl)
        have HMIN := Lib.hid hmin
        have HS2 := Lib.hid hsep
        clear hmin
        obtain ⟨x, hx⟩ : ∃ x, entAt R j = x := ⟨_, rfl⟩
        obtain ⟨y, hy⟩ : ∃ y, entAt R f = y := ⟨_, rfl⟩
        have hflt : f < R.length := by omega
        obtain ⟨hbz, k2, k3⟩ := HE2.out.cellsAt hflt
        rw [hy] at k2 k3
        by_cases hlt : j < R.length
        · obtain ⟨_, k0, k1⟩ := HE2.out.cellsAt hlt
          rw [hx] at k0 k1
          have HXY := Lib.hid (And.intro hx hy)
          clear hx hy hsep
          cases hbe : before x y with
          | true =>
            have HB := Lib.hid (show ∀ W : World, Calls Try.prog 95 #[.agg #[.int .i64 (x.1 : Int), .int .i64 x.2], .agg #[.int .i64 (y.1 : Int), .int .i64 y.2]] W fun e w' => e = .returned (.bool true) ∧ Below W.heap.size W w' from fun W => by have := r4Before_any x y W; rwa [hbe] at this)
            have HREL := Lib.hid (show ∀ i, i < j + 1 → before (entAt R i) (entAt R j) = false from fun i hi => by
              by_cases e : i = j
              · subst e; exact before_irrefl _
              · cases h2 : before (entAt R i) (entAt R j) with
                | false => rfl
                | true =>
                  have h3 := HMIN.out i (by omega)
                  have h4 := before_trans h2 (show before (entAt R j) (entAt R f) = true by rw [HXY.out.1, HXY.out.2]; exact hbe)
                  rw [h4] at h3
                  exact h3)
            clear hbe
            generalize (x.1 : Int) = x1 at k0 HB
            generalize x.2 = x2 at k1 HB
            generalize (y.1 : Int) = y1 at k2 HB
            generalize y.2 = y2 at k3 HB
            go_wp2
            go_region_held3 (fun w' => w'.cell? ⟨b, off + j * 2, none⟩ = some (.int .i64 x1) ∧ w'.cell? ⟨b, off + j * 2 + 1, none⟩ = some (.int .i64 x2) ∧ w'.cell? ⟨b, off + f * 2, none⟩ = some (.int .i64 y1) ∧ w'.cell? ⟨b, off + f * 2 + 1, none⟩ = some (.int .i64 y2)) (go_keep)
              (first | (go_at_call 95; refine (HB.out _).mono ?_; rintro e w1 ⟨rfl, hb⟩; have q0 := (hb.cell (p := ⟨b, off + j * 2, none⟩) hbz).trans k0; have q1 := (hb.cell (p := ⟨b, off + j * 2 + 1, none⟩) hbz).trans k1; have q2 := (hb.cell (p := ⟨b, off + f * 2, none⟩) hbz).trans k2; have q3 := (hb.cell (p := ⟨b, off + f * 2 + 1, none⟩) hbz).trans k3; have H1 := Lib.hid (HS2.out.drew.keep hb); clear hb))
            go_wp2
            go_roundw
            case rel => exact ⟨j, j + 1, rfl, by simp, by omega, by omega, HREL.out, H1.out⟩
            case measure => simp [intOf]; omega
          | false =>
            have HB := Lib.hid (show ∀ W : World, Calls Try.prog 95 #[.agg #[.int .i64 (x.1 : Int), .int .i64 x.2], .agg #[.int .i64 (y.1 : Int), .int .i64 y.2]] W fun e w' => e = .returned (.bool false) ∧ Below W.heap.size W w' from fun W => by have := r4Before_any x y W; rwa [hbe] at this)
            have HREL := Lib.hid (show ∀ i, i < j + 1 → before (entAt R i) (entAt R f) = false from fun i hi => by
              by_cases e : i = j
              · subst e; rw [HXY.out.1, HXY.out.2]; exact hbe
              · exact HMIN.out i (by omega))
            clear hbe
            generalize (x.1 : Int) = x1 at k0 HB
            generalize x.2 = x2 at k1 HB
            generalize (y.1 : Int) = y1 at k2 HB
            generalize y.2 = y2 at k3 HB
            go_wp2
            go_region_held3 (fun w' => w'.cell? ⟨b, off + j * 2, none⟩ = some (.int .i64 x1) ∧ w'.cell? ⟨b, off + j * 2 + 1, none⟩ = some (.int .i64 x2) ∧ w'.cell? ⟨b, off + f * 2, none⟩ = some (.int .i64 y1) ∧ w'.cell? ⟨b, off + f * 2 + 1, none⟩ = some (.int .i64 y2)) (go_keep)
              (first | (go_at_call 95; refine (HB.out _).mono ?_; rintro e w1 ⟨rfl, hb⟩; have q0 := (hb.cell (p := ⟨b, off + j * 2, none⟩) hbz).trans k0; have q1 := (hb.cell (p := ⟨b, off + j * 2 + 1, none⟩) hbz).trans k1; have q2 := (hb.cell (p := ⟨b, off + f * 2, none⟩) hbz).trans k2; have q3 := (hb.cell (p := ⟨b, off + f * 2 + 1, none⟩) hbz).trans k3; have H1 := Lib.hid (HS2.out.drew.keep hb); clear hb))
            go_wp2
            go_roundw
            case rel => exact ⟨f, j + 1, rfl, by simp, by omega, by omega, HREL.out, H1.out⟩
            case measure => simp [intOf]; omega
        · have hjR : j = R.length := by omega
          obtain ⟨N, hN⟩ := HX.out.1.least HX.out.2 hflt (fun i hi => HMIN.out i (by omega))
          rw [hy] at hN
          have hkM : k < M.length := by have := HKR.out; omega
          have hMx : M[k] = y := by
            have := List.drop_eq_getElem_cons hkM
            rw [hN] at this
            exact (List.cons.inj this).1.symm
          have HT := Lib.hid (show M.take k ++ [y] = M.take (k + 1) by rw [← hMx, List.take_append_getElem])
          have hdl := dropAt_length hflt
          have hdm := dropAt_len R (f : Int)
          have HNX := Lib.hid (show Lst (A'.del y.1) (dropAt R (f : Int)) ∧ Srt (A'.del y.1) (M.drop (k + 1)) ∧ k + 1 + (dropAt R (f : Int)).length = M.length by
            refine ⟨by rw [← hy]; exact HX.out.1.del hflt, ?_, by have := HKR.out; omega⟩
            have h1 := HX.out.2
            rw [hN] at h1
            have h2 := h1.del_cons
            have h3 : M.drop (k + 1) = N := by
              have := List.drop_eq_getElem_cons hkM
              rw [hN] at this
              exact (List.cons.inj this).2.symm
            rw [h3]; exact h2)
          have hown := (show wr.ownsRow w.heap.size 28 2 u3 k (flat (M.take k).length (entAt (M.take k))) from hsep.get 0 rfl)
          have HO := Lib.hid hown
          have hz := hsep.size
          have hmeas : (dropAt R (f : Int)).length < R.length := by omega
          subst hjR
          clear hx hy hsep hN hkM hMx hown HMIN hlt hdl
          go_wp2_with (first
            | (at_builtin; (refine wpList_append2 _ _ 68 rfl rfl infoEntry Try.underlying68 rfl (by decide) rfl rfl (HO.out.alloc _) (news := [.int .i64 (y.1 : Int), .int .i64 y.2]) rfl (cell_two (u := .int .i64 (y.1 : Int)) (v := .int .i64 y.2) (ad := ⟨wr.heap.size, 0, none⟩) (World.cell?_alloc_at _ _ _ _ (by simp)) (World.cell?_alloc_at _ _ _ 1 (by simp))) (two_oneCell rfl rfl) (by unfold maxLen; omega) (by omega) (by simp; omega) ?_); intro v1 w1 hown1 hgr1 hnil1 hblk1; rw [flat_app, HT.out] at hown1; have h4 := HS2.out.own_append 0 rfl hown1 hgr1 hblk1; have H4 := Lib.hid h4; clear hown1 hgr1 hnil1 hblk1 h4)
            | (go_at_call 86; refine (r4Without_any (show EntsIn _ _ _ _ R from H4.out.get 1 rfl) (by omega) (f : Int) (by omega)).mono ?_; rintro r w2 ⟨v2, rfl, q1, q2⟩; have H5 := Lib.hid (H4.out.add q2 (ownT w.heap.size 28 2 (dropAt R (f : Int)).length v2 (flat (dropAt R (f : Int)).length (entAt (dropAt R (f : Int))))) (ownsRow_base q1 H4.out.size) (fun q hq => (q1.lt q hq).1)); obtain ⟨a2, c2', rfl⟩ := owns_shape q1; clear q1 q2))
          go_roundw
          case rel =>
            obtain ⟨a3, c3', he, h6⟩ := H5.out.own_ents 0 rfl
            simp only [Value.slice.injEq, true_and] at he
            obtain ⟨rfl, rfl⟩ := he
            refine ⟨k + 1, dropAt R (f : Int), A'.del y.1, a2, c2', HNX.out.2.2, HNX.out.1, HNX.out.2.1, rfl, ?_⟩
            refine h6.sub (fun i => if i = 0 then 1 else if i = 1 then 0 else i) _ ?_ ?_
            · intro i j e
              rcases i with _ | _ | i <;> rcases j with _ | _ | j <;> simp_all
            · intro i z hi
              match i, hi with
              | 0, hi => exact hi
              | 1, hi => exact hi
              | i + 2, hi => simp at hi
          case measure => simpa [sliceLen] using hmeas
    · have hR0 : R = [] := List.length_eq_zero_iff.1 (by omega)
      have hkM : k = M.length := by rw [hR0] at hkR; simpa using hkR
      have hown := (show wr.ownsRow w.heap.size 28 2 u3 k (flat (M.take k).length (entAt (M.take k))) from hsep.get 0 rfl)
      rw [hkM, List.take_length] at hown
      obtain ⟨a2, c2', hu, he, _, hblk⟩ := EntsIn.of_owns hown
      subst hu
      have HF := Lib.hid (And.intro he (And.intro hown (And.intro hblk hsep.below)))
      clear her hsep hR hMk hkR hR0 hkM hown he hblk
      go_wp2
      go_ret
      refine ⟨a2, c2', by simp, HF.out.1, fun ad ha => (HF.out.2.1.lt _ (HF.out.2.2.1 ad ha)).1, HF.out.2.2.2⟩
end
end Go.Proofs.Ytmlbacbcdjfioaa
