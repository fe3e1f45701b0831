/- Rf35E: layer 35: the document's schedule: Set. -/
import Derived.Test.YtmlbacbcdjfioaaRf35D
set_option linter.unusedSimpArgs false
set_option linter.unusedVariables false
namespace Go.Proofs.Ytmlbacbcdjfioaa
open Go.ChangeShapes Go.WideShapes Go.ChangeAt Go.RowKit

/-- The list that is being built, behind j entries of M. -/
def SetInv (X : Ent) (M : List Ent) (j : Nat) (O : List Ent) (dn : Bool) : Prop :=
  O.length ≤ j + 1 ∧ ((dn = false ∧ O = M.take j ∧ ins X M = M.take j ++ ins X (M.drop j)) ∨ (dn = true ∧ O ++ M.drop j = ins X M))
namespace SetInv
variable {X : Ent} {M : List Ent} {j : Nat} {O : List Ent}
theorem start (X : Ent) (M : List Ent) : SetInv X M 0 [] false := ⟨by simp, Or.inl ⟨rfl, by simp, by simp⟩⟩
theorem keepF (h : SetInv X M j O false) (hj : j < M.length) (hb : before X (entAt M j) = false) : SetInv X M (j + 1) (O ++ [entAt M j]) false := by
  obtain ⟨h0, ⟨_, rfl, h1⟩ | ⟨h2, _⟩⟩ := h
  · refine ⟨by simp only [List.length_append, List.length_cons, List.length_nil]; omega, Or.inl ⟨rfl, ?_, ?_⟩⟩
    · rw [List.take_succ_eq_append_getElem hj, entAt_eq hj]
    · rw [h1, List.take_succ_eq_append_getElem hj, List.drop_eq_getElem_cons hj, entAt_eq hj]
      simp [ins, hb]
  · simp at h2
theorem addT (h : SetInv X M j O false) (hj : j < M.length) (hb : before X (entAt M j) = true) : SetInv X M (j + 1) ((O ++ [X]) ++ [entAt M j]) true := by
  obtain ⟨h0, ⟨_, rfl, h1⟩ | ⟨h2, _⟩⟩ := h
  · refine ⟨by simp; omega, Or.inr ⟨rfl, ?_⟩⟩
    rw [h1, List.drop_eq_getElem_cons hj, entAt_eq hj]
    simp [ins, hb]
  · simp at h2
theorem keepT (h : SetInv X M j O true) (hj : j < M.length) : SetInv X M (j + 1) (O ++ [entAt M j]) true := by
  obtain ⟨h0, ⟨h2, _⟩ | ⟨_, h1⟩⟩ := h
  · simp at h2
  · refine ⟨by simp only [List.length_append, List.length_cons, List.length_nil]; omega, Or.inr ⟨rfl, ?_⟩⟩
    rw [← h1, List.drop_eq_getElem_cons hj, entAt_eq hj]
    simp
theorem endF (h : SetInv X M M.length O false) : O ++ [X] = ins X M := by
  obtain ⟨h0, ⟨_, rfl, h1⟩ | ⟨h2, _⟩⟩ := h
  · rw [h1]; simp [ins]
  · simp at h2
theorem endT (h : SetInv X M M.length O true) : O = ins X M := by
  obtain ⟨h0, ⟨h2, _⟩ | ⟨_, h1⟩⟩ := h
  · simp at h2
  · rw [← h1]; simp
end SetInv

theorem FindR.ge {L : List Ent} {i k : Int} (h : FindR L i k) : -1 ≤ k := by
  rcases h with ⟨rfl, _⟩ | ⟨j, rfl, _⟩ <;> omega
theorem ents_list {w : World} {B : Nat} {v : Value} {L : List Ent} (h : w.ownsRow B 28 2 v L.length (flat L.length (entAt L))) : ∃ a cap, v = .slice a L.length cap ∧ (∀ j, j < L.length → ∃ k, a = some ⟨k, 0, none⟩ ∧ w.cell? ⟨k, j * 2, none⟩ = some (.int .i64 ((entAt L j).1 : Int)) ∧ w.cell? ⟨k, j * 2 + 1, none⟩ = some (.int .i64 (entAt L j).2)) := by
  obtain ⟨a, cap, h1, h2⟩ := owns_slice h
  refine ⟨a, cap, h1, fun j hj => ?_⟩
  obtain ⟨k, rfl, h3⟩ := h2 (by omega)
  exact ⟨k, rfl, (h3 _ (by omega)).trans (flat_get0 _ hj), (h3 _ (by omega)).trans (flat_get1 _ hj)⟩

section
variable {w0 w : World} {l : List Thing} {i g n : Nat} {A : Hp} {L : List Ent} {bk : Option Nat}
set_option maxHeartbeats 2000000
set_option maxRecDepth 100000 in
theorem Sep.s35Set_in (h : Sep w0 w l) (hi : l[i]? = some (refT w0.heap.size g n L bk)) (hs : Srt A L) (ho : A.Ok) (ha : A.slots = n) (q : Nat) (hq : q < n) (x : Int) (hx : -9223372036854775808 ≤ x ∧ x ≤ 9223372036854775807) :
    Calls Try.prog 38 #[.pointer (some ⟨g, 0, none⟩), .int .i64 q, .int .i64 x] w fun r w' => r = .returned (.int .i64 0) ∧ ∃ L' bk', Srt (A.put q x) L' ∧ Sep w0 w' (l.set i (refT w0.heap.size g n L' bk')) := by
  obtain ⟨v, hv, hr⟩ := (h.get i hi : (refT _ _ _ _ _).P _)
  have HC0 := s35Check_any hr (q : Int)
  rw [show chkE n (q : Int) = 0 from if_pos (by omega)] at HC0
  have HC := Lib.hid HC0
  have HF := Lib.hid (s35Find_any hr (q : Int))
  have HW := Lib.hid (fun k hk => s35Without_any hr k hk)
  have hns := hr.ns
  have hln := hr.hl
  have HST := Lib.hid (fun (w1 w2 : World) (v' : Value) (k : Int) (hf : FindR L (q : Int) k) (hb : Below w.heap.size w w1) (hb2 : Below w1.heap.size w1 w2)
      (hown : w2.ownsRow w1.heap.size 28 2 v' (ins (q, x) (dropAt L k)).length (flat (ins (q, x) (dropAt L k)).length (entAt (ins (q, x) (dropAt L k))))) =>
    show ∃ L' bk', Srt (A.put q x) L' ∧ Sep w0 (w2.setCell ⟨g, 2, none⟩ v') (l.set i (refT w0.heap.size g n L' bk')) by
      have hsd := (drop_find hs hf).put_new x (show (A.del q).keys q = none by simp [Hp.del])
      rw [Hp.del_put] at hsd
      exact ⟨_, _, hsd, h.ref_store hi hr (hb.trans (hb2.mono hb.size)) (ownsRow_base hown hb.size) hsd (Hp.put_ok ho (by omega) hx) ha⟩)
  obtain ⟨c0, c1, c2, cf, hg⟩ := row_three hr.row
  clear h hi hr hv hs ho ha HC0
  go_enter Try.func38, Try.ntmps38
  go_wp2_with (first
    | (go_at_call 68; refine HC.out.mono ?_; rintro r wz ⟨rfl, rfl⟩)
    | (go_at_call 70; refine HF.out.mono ?_; rintro r wz ⟨⟨k, rfl, hk⟩, rfl⟩; have hk1 := hk.ge; have HK := Lib.hid hk; clear hk)
    | (go_at_call 69; refine (HW.out _ hk1).mono ?_; rintro r w1 ⟨v', rfl, hown, hb⟩; have hMl : (dropAt L k).length ≤ n := Nat.le_trans (dropAt_len _ _) hln; obtain ⟨M, hM⟩ : ∃ M, dropAt L k = M := ⟨_, rfl⟩; rw [hM] at hown hMl; obtain ⟨av, cv, rfl, hcells⟩ := ents_list hown; have HCE := Lib.hid hcells; have hz := hb.size; have cg := hb.block g hg; have cfz := fun o => World.frozen?_of_block (a := ⟨g, o, none⟩) cg; have HW1 := Lib.hid (And.intro hb (And.intro hM cg)); clear hown hb cg hcells hM))
  have cfz2 : ∀ o, w1.frozen? ⟨g, o, none⟩ = false := fun o => (cfz o).trans (cf o)
  clear cfz
  go_loopw [8, 9, 11] (fun u d y wr => ∃ (j : Nat) (O : List Ent) (dn : Bool), d = .bool dn ∧ y = .int .i64 j ∧ j ≤ M.length ∧ SetInv (q, x) M j O dn ∧ wr.ownsRow w1.heap.size 28 2 u O.length (flat O.length (entAt O)) ∧ Below w1.heap.size w1 wr) (fun _ _ y _ => M.length - (intOf y).toNat)
  case atStart => exact ⟨0, [], false, rfl, rfl, Nat.zero_le _, SetInv.start _ _, World.ownsRow_nil _ _ _ _, Below.refl _ _⟩
  case round =>
    obtain ⟨j, O, dn, rfl, rfl, hj, hinv, hown, hb⟩ := hrel
    have hz1 := hb.size
    have hOl := hinv.1
    by_cases hlt : j < M.length
    · obtain ⟨bq, hbq, k0, k1⟩ := HCE.out j hlt
      have hq2 : bq < w1.heap.size := World.block_lt_of_cell? w1 _ k0
      have k0' := (hb.cell (p := ⟨bq, j * 2, none⟩) hq2).trans k0
      have k1' := (hb.cell (p := ⟨bq, j * 2 + 1, none⟩) hq2).trans k1
      have HB := Lib.hid hb
      have HO := Lib.hid hown
      obtain ⟨y, hy⟩ : ∃ y, entAt M j = y := ⟨_, rfl⟩
      rw [hy] at k0' k1'
      subst hbq
      cases dn with
      | true =>
        have HI := Lib.hid (hinv.keepT hlt)
        rw [hy] at HI
        clear hinv hown hb k0 k1 hy
        go_wp2_with (at_builtin; (refine wpList_append2 _ _ 68 rfl rfl infoEntry Try.underlying68 rfl (by decide) rfl rfl ((HO.out.alloc _).alloc _) (news := [.int .i64 (y.1 : Int), .int .i64 y.2]) rfl (cell_two (u := .int .i64 (y.1 : Int)) (v := .int .i64 y.2) (ad := ⟨wr.heap.size + 1, 0, none⟩) (World.cell?_alloc_at _ _ _ _ (by simp)) (World.cell?_alloc_at _ _ _ 1 (by simp))) (two_oneCell rfl rfl) (by unfold maxLen; omega) (by omega) (by simp; omega) ?_); intro v1 w2 hown1 hgr1 hnil1 hblk1; rw [flat_app] at hown1; have hb1 := ((HB.out.alloc hz1 (.cells #[.int .i64 (y.1 : Int), .int .i64 y.2] 28)).alloc (by simp; omega) (.cells #[.int .i64 (y.1 : Int), .int .i64 y.2] 28)).grown hgr1 (by simp; omega) (fun q hq => (HO.out.lt q hq).1); have H1 := Lib.hid (And.intro hown1 hb1); clear hown1 hgr1 hnil1 hblk1 hb1)
        go_roundw
        case rel => exact ⟨j + 1, O ++ [y], true, rfl, by simp, by omega, HI.out, by have := H1.out.1; simpa using this, H1.out.2⟩
        case measure => simp [intOf]; omega
      | false =>
        have hcase : (before (q, x) y = false ∧ ((y.2 ≤ x ∧ (y.2 == x) = false) ∨ (y.2 ≤ x ∧ (y.2 == x) = true ∧ (y.1 : Int) ≤ q))) ∨ (before (q, x) y = true ∧ (x < y.2 ∨ (y.2 ≤ x ∧ (y.2 == x) = true ∧ (q : Int) < y.1))) := by
          cases hbb : before (q, x) y with
          | true =>
            rw [before_iff] at hbb
            refine Or.inr ⟨rfl, ?_⟩
            rcases hbb with h | ⟨h, h2⟩
            · exact Or.inl h
            · exact Or.inr ⟨by simp only at h; omega, by simp only at h; simp [h], by simp only at h2; omega⟩
          | false =>
            rw [not_before_iff] at hbb
            refine Or.inl ⟨rfl, ?_⟩
            rcases hbb with h | ⟨h, h2⟩
            · exact Or.inl ⟨by simp only at h; omega, by simp only at h; simp; omega⟩
            · exact Or.inr ⟨by simp only at h; omega, by simp only at h; simp [h], by simp only at h2; omega⟩
        rcases hcase with ⟨hbf, hF⟩ | ⟨hbt, hT⟩
        · have HI := Lib.hid (hinv.keepF hlt (by rw [hy]; exact hbf))
          rw [hy] at HI
          clear hinv hown hb k0 k1 hy hbf
          rcases hF with ⟨h1, h2⟩ | ⟨h1, h2, h3⟩
          all_goals
            go_wp2_with (at_builtin; (refine wpList_append2 _ _ 68 rfl rfl infoEntry Try.underlying68 rfl (by decide) rfl rfl ((HO.out.alloc _).alloc _) (news := [.int .i64 (y.1 : Int), .int .i64 y.2]) rfl (cell_two (u := .int .i64 (y.1 : Int)) (v := .int .i64 y.2) (ad := ⟨wr.heap.size + 1, 0, none⟩) (World.cell?_alloc_at _ _ _ _ (by simp)) (World.cell?_alloc_at _ _ _ 1 (by simp))) (two_oneCell rfl rfl) (by unfold maxLen; omega) (by omega) (by simp; omega) ?_); intro v1 w2 hown1 hgr1 hnil1 hblk1; rw [flat_app] at hown1; have hb1 := ((HB.out.alloc hz1 (.cells #[.int .i64 (y.1 : Int), .int .i64 y.2] 28)).alloc (by simp; omega) (.cells #[.int .i64 (y.1 : Int), .int .i64 y.2] 28)).grown hgr1 (by simp; omega) (fun q hq => (HO.out.lt q hq).1); have H1 := Lib.hid (And.intro hown1 hb1); clear hown1 hgr1 hnil1 hblk1 hb1)
            go_roundw
            case rel => exact ⟨j + 1, O ++ [y], false, rfl, by simp, by omega, HI.out, by have := H1.out.1; simpa using this, H1.out.2⟩
            case measure => simp [intOf]; omega
        · have HI := Lib.hid (hinv.addT hlt (by rw [hy]; exact hbt))
          rw [hy] at HI
          clear hinv hown hb k0 k1 hy hbt
          rcases hT with h1 | ⟨h1, h2, h3⟩
          all_goals
            go_wp2_with (first
              | (at_builtin; (refine wpList_append2 _ _ 68 rfl rfl infoEntry Try.underlying68 rfl (by decide) rfl rfl (H2.out.1.alloc _) (news := [.int .i64 (y.1 : Int), .int .i64 y.2]) rfl (cell_two (u := .int .i64 (y.1 : Int)) (v := .int .i64 y.2) (ad := ⟨w2.heap.size, 0, none⟩) (World.cell?_alloc_at _ _ _ _ (by simp)) (World.cell?_alloc_at _ _ _ 1 (by simp))) (two_oneCell rfl rfl) (by unfold maxLen; omega) (by omega) (by simp; omega) ?_); intro v2 w3 hown2 hgr2 hnil2 hblk2; rw [flat_app M2 y] at hown2; have hb2 := (H2.out.2.alloc hz2 (.cells #[.int .i64 (y.1 : Int), .int .i64 y.2] 28)).grown hgr2 (by simp; omega) (fun q hq => (H2.out.1.lt q hq).1); have H3 := Lib.hid (And.intro hown2 hb2); clear hown2 hgr2 hnil2 hblk2 hb2)
              | (at_builtin; (refine wpList_append2 _ _ 68 rfl rfl infoEntry Try.underlying68 rfl (by decide) rfl rfl ((HO.out.alloc _).alloc _) (news := [.int .i64 (q : Int), .int .i64 x]) rfl (cell_two (u := .int .i64 (q : Int)) (v := .int .i64 x) (ad := ⟨wr.heap.size + 1, 0, none⟩) (World.cell?_alloc_at _ _ _ _ (by simp)) (World.cell?_alloc_at _ _ _ 1 (by simp))) (two_oneCell rfl rfl) (by unfold maxLen; omega) (by omega) (by simp; omega) ?_); intro v1 w2 hown1 hgr1 hnil1 hblk1; rw [flat_app O (q, x)] at hown1; have hb1 := ((HB.out.alloc hz1 (.cells #[.int .i64 (y.1 : Int), .int .i64 y.2] 28)).alloc (by simp; omega) (.cells #[.int .i64 (q : Int), .int .i64 x] 28)).grown hgr1 (by simp; omega) (fun q hq => (HO.out.lt q hq).1); have kx := (hgr1.block wr.heap.size (by simp; omega) (fun e => by have := (HO.out.lt _ e.symm).2; omega)).trans ((heap_alloc_old _ _ (by simp)).trans (heap_alloc_new _ _)); obtain ⟨p0, p1, pf, pl⟩ := row_two kx; have hz2 := hb1.size; obtain ⟨M2, hM2⟩ : ∃ M2, O ++ [(q, x)] = M2 := ⟨_, rfl⟩; have hM2l : M2.length = O.length + 1 := (by rw [← hM2]; simp); rw [hM2] at hown1; rw [← hM2l] at hown1; have HM2 := Lib.hid hM2; have H2 := Lib.hid (And.intro hown1 hb1); clear hown1 hgr1 hnil1 hblk1 hb1 kx hM2))
            go_roundw
            case rel => exact ⟨j + 1, M2 ++ [y], true, rfl, by simp, by omega, by rw [← HM2.out]; exact HI.out, by have := H3.out.1; simpa using this, H3.out.2⟩
            case measure => simp [intOf]; omega
    · obtain rfl : j = M.length := by omega
      have hb2 := hb
      have c2' := (World.cell?_of_block (a := ⟨g, 2, none⟩) ((hb.block g (by omega)).trans HW1.out.2.2)).trans c2
      have cf' : ∀ o, wr.frozen? ⟨g, o, none⟩ = false := fun o => (World.frozen?_of_block (a := ⟨g, o, none⟩) (hb.block g (by omega))).trans (cfz2 o)
      have hg2 : g < wr.heap.size := by omega
      cases dn with
      | true =>
        obtain ⟨au, cu, rfl, _⟩ := owns_slice hown
        have HE := Lib.hid (HST.out w1 wr _ k HK.out HW1.out.1 hb (by rw [HW1.out.2.1, ← hinv.endT]; exact hown))
        clear hinv hown hb hb2
        go_wp2
        go_ret
        exact ⟨by simp, HE.out⟩
      | false =>
        have HB := Lib.hid hb
        have HO := Lib.hid hown
        have HE := Lib.hid hinv.endF
        have hlE : (ins (q, x) M).length = O.length + 1 := by rw [← hinv.endF]; simp
        have HL := Lib.hid hlE
        clear hinv hown hb hb2 hlE
        go_wp2_with (at_builtin; (refine wpList_append2 _ _ 68 rfl rfl infoEntry Try.underlying68 rfl (by decide) rfl rfl (HO.out.alloc _) (news := [.int .i64 (q : Int), .int .i64 x]) rfl (cell_two (u := .int .i64 (q : Int)) (v := .int .i64 x) (ad := ⟨wr.heap.size, 0, none⟩) (World.cell?_alloc_at _ _ _ _ (by simp)) (World.cell?_alloc_at _ _ _ 1 (by simp))) (two_oneCell rfl rfl) (by unfold maxLen; omega) (by omega) (by simp; omega) ?_); intro v1 w2 hown1 hgr1 hnil1 hblk1; obtain ⟨g1, cap1, rfl⟩ := ownsRow_succ hown1; rw [flat_app O (q, x)] at hown1; have hb1 := (HB.out.alloc hz1 (.cells #[.int .i64 (q : Int), .int .i64 x] 28)).grown hgr1 (by simp; omega) (fun q hq => (HO.out.lt q hq).1); have kg := (hb1.block g (by omega)).trans HW1.out.2.2; have c2x := (World.cell?_of_block (a := ⟨g, 2, none⟩) kg).trans c2; have cfx := fun o => (World.frozen?_of_block (a := ⟨g, o, none⟩) kg).trans (cf o); have hz2 := hb1.size; have H1 := Lib.hid (And.intro hown1 hb1); clear hown1 hgr1 hnil1 hblk1 hb1 kg)
        go_ret
        refine ⟨by simp, HST.out w1 w2 _ k HK.out HW1.out.1 H1.out.2 ?_⟩
        rw [HW1.out.2.1, HL.out, ← HL.out, ← HE.out]
        have := H1.out.1
        simpa using this
end
end Go.Proofs.Ytmlbacbcdjfioaa
