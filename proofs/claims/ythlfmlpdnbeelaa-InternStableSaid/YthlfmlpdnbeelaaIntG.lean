/- IntG: layer 3: Put. -/
import Derived.Test.YthlfmlpdnbeelaaIntF
set_option linter.unusedSimpArgs false
set_option linter.unusedVariables false
namespace Go.Proofs.Ythlfmlpdnbeelaa
open Go.ChangeShapes Go.WideShapes Go.ChangeAt Go.RowKit

def putV (R : Nat × Bool × Nat) : Value := .tuple #[.int .i64 (R.1 : Int), .bool R.2.1, .int .i64 (R.2.2 : Int)]

theorem cell_one' {w : World} {ad : Addr} {u : Value} (h : w.cell? ad = some u) : ∀ j v, [u][j]? = some v → w.cell? (ad.add j) = some v := by
  intro j v hj
  match j, hj with
  | 0, hj => simp at hj; subst hj; simpa [Addr.add] using h

section
variable {w0 w : World} {l r : List Thing} {t ab lb M : Nat} {T : It} {iv cv : Value} {c : Nat → Nat} {S : Nat → Prop}
/-- A table with one id more. -/
theorem TbOk.add (ho : TbOk T M c) (hok : T.Ok) {x i D : Nat} (hx : x < 18446744073709551616) (hg : T.get x = none) (hi : T.ar.next = some i) (hl : 2 * (T.ar.list.length + 1) ≤ M) (hD : D < M)
    (hz : c (rgo M (ihome M (x : Nat)) D) = 0) (hp : ∀ e, e < D → c (rgo M (ihome M (x : Nat)) e) ≠ 0) : TbOk (T.add x i) M (fun p => if p = rgo M (ihome M (x : Nat)) D then i + 1 else c p) := by
  have hui := (Ar.p_next_inv hok.ar hi).2.1
  have hni : ¬ T.ar.used i = true := by rw [hui]; simp
  have h1 := ho.tab.homes (h' := fun j => ihome M ((T.add x i).ids j : Nat)) (fun j hj => by
    have e : j ≠ i := fun e => hni (e ▸ hj)
    show ihome M ((if j = i then x else T.ids j : Nat) : Nat) = _
    rw [if_neg e])
  have hhi : ihome M ((T.add x i).ids i : Nat) = ihome M (x : Nat) := by show ihome M ((if i = i then x else T.ids i : Nat) : Nat) = _; rw [if_pos rfl]
  have h2 := h1.add (i := i) (k := rgo M (ihome M (x : Nat)) D) hni (by rw [hhi]; exact ho.home _) hD (by rw [hhi]) hz (by rw [hhi]; exact hp)
  have hao := It.add_ok hok hx hg hi
  refine ⟨ho.pow, h2.iff (fun j => (Ar.take_used hok.ar hi j).symm), hao.idlt, hao.inj, ?_⟩
  show 2 * (T.ar.take i).list.length ≤ M
  rw [Ar.p_take_len hok.ar hi]
  exact hl

set_option maxHeartbeats 4000000
set_option maxRecDepth 100000
theorem Sep.iPut (h : Sep w0 w (tabT w0.heap.size t T S :: r)) (x : Nat) (hx : x < 18446744073709551616) :
    Calls Try.prog 22 #[.pointer (some ⟨t, 0, none⟩), .int .u64 (x : Int)] w fun e w' => e = .returned (putV (T.putR x)) ∧ ∃ S', Sep w0 w' (tabT w0.heap.size t (T.put x) S' :: r) := by
  have HS := Lib.hid h
  obtain ⟨l, ⟨ab, lb, iv, cv, M, c, ho, rfl⟩, h2⟩ := h.unpack
  have hok := h2.tab_ok ho
  obtain ⟨q0, q1, q2, q3, qf, qg⟩ := row4 (h2.get 0 rfl : w.heap[t]? = _)
  have HV := Lib.hid (iValid_any q0)
  have hfv := h2.tab_fv ho
  obtain ⟨b, cap, hc3, hb1, hb2, hb3, hcell⟩ := hfv.c3
  rw [q3] at hc3
  simp only [Option.some.injEq] at hc3
  subst hc3
  have hf6 := hfv.n6
  have hM := ho.m6.1
  cases hg : T.get x with
  | some i =>
    obtain ⟨k, hk, hck, hF⟩ := h2.find_some ho hg
    have hif := ho.le k hk
    have hcl := hcell k hk
    rw [hck] at hcl hif
    have HF := Lib.hid hF
    have HP := Lib.hid (show T.put x = T ∧ T.putR x = (i, false, 0) by unfold It.put It.putR; rw [hg]; exact ⟨rfl, rfl⟩)
    clear h h2 ho hok hfv hcell hg hF hck
    go_enter Try.func22, Try.ntmps22
    go_wp2_with (first
      | (go_at_call 56; refine HV.out.mono ?_; rintro e wz ⟨rfl, rfl⟩)
      | (go_at_call 57; refine HF.out.mono ?_; rintro e w1 ⟨rfl, hb⟩; have n3 := (hb.cell (p := ⟨t, 3, none⟩) qg).trans q3; have nk := (hb.cell (p := ⟨b, k, none⟩) hb3).trans hcl; have HB := Lib.hid hb; clear hb))
    refine bodyPost_ret (results_3' rfl (.tmp 4 rfl) (.tmp 5 rfl) (.tmp 6 rfl)) rfl ?_
    exact ⟨by rw [HP.out.2]; simp [putV], S, by rw [HP.out.1]; exact HS.out.keep HB.out⟩
  | none =>
    obtain ⟨D, _, _, _, hF⟩ := h2.find_none ho hx hg
    obtain ⟨k, hk⟩ : ∃ k, rgo M (ihome M (x : Nat)) D = k := ⟨_, rfl⟩
    rw [hk] at hF
    have HF := Lib.hid hF
    have hsl := hok.ar.slots
    have hll := Ar.p_list_len hok.ar
    have hlen : (T.ar.fresh : Int) - T.ar.stack.length = (T.ar.list.length : Int) := by omega
    by_cases hfull : T.ar.list.length = T.ar.slots
    · have HA := Lib.hid (fun (w1 : World) (hb : Below w.heap.size w w1) => show Calls Try.prog 60 #[.pointer (some ⟨ab, 0, none⟩)] w1 fun e w' => e = .returned (.int .i64 (T.ar.slots : Int)) ∧ w1 = w' by
        have := aLen_any ((h2.keep hb).get 1 rfl : (arT ab lb T.ar).P w1).1
        rwa [hlen, hfull] at this)
      have HP := Lib.hid (show T.put x = T ∧ T.putR x = (0, false, 4) by
        unfold It.put It.putR; rw [hg, Ar.p_next_none hok.ar hfull]; exact ⟨rfl, rfl⟩)
      clear h h2 ho hok hfv hcell hg hF hk hlen hll hfull
      generalize T.ar.slots = sl at *
      go_enter Try.func22, Try.ntmps22
      go_wp2_with (first
        | (go_at_call 56; refine HV.out.mono ?_; rintro e wz ⟨rfl, rfl⟩)
        | (go_at_call 57; refine HF.out.mono ?_; rintro e w1 ⟨rfl, hb⟩; have n0 := (hb.cell (p := ⟨t, 0, none⟩) qg).trans q0; have n1 := (hb.cell (p := ⟨t, 1, none⟩) qg).trans q1; have HB := Lib.hid hb; clear hb))
      have HA1 := Lib.hid (fun n => HA.out (w1.drewN n) (below_drewN HB.out n))
      go_quiet ((go_at_call 60; exact quietC (HA1.out _)))
      go_wp2
      refine bodyPost_ret (results_3' rfl (.tmp 4 rfl) (.tmp 5 rfl) (.tmp 6 rfl)) rfl ?_
      exact ⟨by rw [HP.out.2]; simp [putV], S, by rw [HP.out.1]; exact (HS.out.keep HB.out).drewN _⟩
    · have hroom : T.ar.list.length < T.ar.slots := by have := Ar.p_len_le hok.ar; omega
      obtain ⟨i, hi, his, _, hcase⟩ := Ar.p_next hok.ar hroom
      have HA := Lib.hid (fun (w1 : World) (hb : Below w.heap.size w w1) => show Calls Try.prog 60 #[.pointer (some ⟨ab, 0, none⟩)] w1 fun e w' => e = .returned (.int .i64 (T.ar.list.length : Int)) ∧ w1 = w' by
        have := aLen_any ((h2.keep hb).get 1 rfl : (arT ab lb T.ar).P w1).1
        rwa [hlen] at this)
      have HP := Lib.hid (show T.put x = T.add x i ∧ T.putR x = (i, true, 0) by
        unfold It.put It.putR; rw [hg, hi]; exact ⟨rfl, rfl⟩)
      have HG := Lib.hid (fun (w1 : World) (hb : Below w.heap.size w w1) => iGrow_any (h2.keep hb) ho hroom)
      have HX := Lib.hid (And.intro hok (And.intro hg (And.intro hi (And.intro his hcase))))
      have hli : ((T.ar.list.length : Int) == (T.ar.slots : Int)) = false := by simp; omega
      have hfle := hok.ar.fresh
      clear h h2 ho hok hfv hcell hg hF hk hlen hll hfull hi hcase
      obtain ⟨ln, hln⟩ : ∃ ln, T.ar.list.length = ln := ⟨_, rfl⟩
      rw [hln] at hli HA
      clear hln hroom
      go_enter Try.func22, Try.ntmps22
      go_wp2_with (first
        | (go_at_call 56; refine HV.out.mono ?_; rintro e wz ⟨rfl, rfl⟩)
        | (go_at_call 57; refine HF.out.mono ?_; rintro e w1 ⟨rfl, hb⟩; have n0 := (hb.cell (p := ⟨t, 0, none⟩) qg).trans q0; have n1 := (hb.cell (p := ⟨t, 1, none⟩) qg).trans q1; have HB := Lib.hid hb; clear hb))
      have HA1 := Lib.hid (fun n => HA.out (w1.drewN n) (below_drewN HB.out n))
      have hli2 : ((ln : Int) == (T.ar.slots : Int)) = false := hli
      go_quiet ((go_at_call 60; exact quietC (HA1.out _)))
      go_wp2_with fail
      refine (HG.out _ (below_drewN HB.out _)).mono ?_
      rintro e w2 ⟨rfl, cv', M', c', ho', hl', h3⟩
      obtain ⟨hok, hg, hi, his, hcase⟩ := HX.out
      obtain ⟨D', hD', hz', hn', hF'⟩ := h3.find_none ho' hx hg
      have hadd := ho'.add hok hx hg hi hl' hD' hz' hn'
      obtain ⟨k', hk'⟩ : ∃ k, rgo M' (ihome M' (x : Nat)) D' = k := ⟨_, rfl⟩
      rw [hk'] at hF' hadd
      have hklt : k' < M' := by rw [← hk']; exact rgo_lt _ _ ho'.tab.pos
      obtain ⟨p0, p1, p2, p3, pf, pg⟩ := row4 (h3.get 0 rfl : w2.heap[t]? = _)
      have HF' := Lib.hid hF'
      have HADD := Lib.hid hadd
      have H3 := Lib.hid h3
      have hM' := ho'.m6.1
      clear hF' hadd h3 ho' hl' hz' hn' hk' q0 q1 q2 q3 qf n0 n1
      have hcn := (H3.out.get 3 rfl : (ownT _ _ _ _ _ _).P w2)
      obtain ⟨gc, capc, hcve⟩ : ∃ gc capc, cv' = .slice (some ⟨gc, 0, none⟩) M' capc ∧ M' ≤ capc ∧ capc ≤ 9223372036854775807 := by
        rcases hcn.2 with ⟨_, h0⟩ | ⟨g, cap, cur, h0, hg, hh, hnc, hm, _, _⟩
        · omega
        · exact ⟨g, cap, h0, hnc, by simpa [maxLen] using hm⟩
      obtain ⟨rfl, hcc1, hcc2⟩ := hcve
      have hin := (H3.out.get 2 rfl : (ownT _ _ _ _ _ _).P w2)
      have hw1 : IntKind.i32.wrap (i : Int) = (i : Int) := by rw [IntKind.wrap_i32]; omega
      have hfin : ∀ (w' : World) (iv' : Value) (h : Sep w0 w' (tabParts w0.heap.size t ab lb (T.add x i).ar (T.add x i).ids iv' (.slice (some ⟨gc, 0, none⟩) M' capc) M' (fun p => if p = k' then i + 1 else c' p) ++ r)), ∃ S', Sep w0 w' (tabT w0.heap.size t (T.put x) S' :: r) := fun w' iv' h => by
        rw [HP.out.1]
        exact ⟨_, h.pack ⟨ab, lb, iv', _, M', _, HADD.out, rfl⟩⟩
      have HFIN := Lib.hid hfin
      clear hfin hcn
      rcases hcase with ⟨hif, hst⟩ | ⟨hif, hst⟩
      · -- a fresh index
        have hb : ((i : Int) == (T.ar.fresh : Int)) = true := by simp [hif]
        obtain ⟨ai, capi, rfl⟩ := own_shape hin
        have hfr : (T.ar.take i).fresh = i + 1 := by rw [Ar.take_fresh hok.ar hi, if_pos hif, hif]
        have HFR := Lib.hid (And.intro hif hfr)
        have HI0 := Lib.hid (show (idsV T.ar.fresh T.ids ++ [Value.int .u64 0])[i]? = some (.int .u64 0) by rw [List.getElem?_append_right (by rw [idsV_len]; omega), idsV_len, hif, Nat.sub_self]; rfl)
        have hi1 : i < T.ar.fresh + 1 := by omega
        clear hif hst hin hfr hok hg
        go_wp2_with (first
          | (go_at_call 57; refine HF'.out.mono ?_; rintro e w3 ⟨rfl, hbb⟩; have h4 := H3.out.keep hbb; have q0 := (hbb.cell (p := ⟨t, 0, none⟩) pg).trans p0; have H4 := Lib.hid h4; clear hbb h4)
          | (go_at_call 62; refine (Sep.aAlloc H4.out 1 rfl hi).mono ?_; rintro e w4 ⟨rfl, h5⟩; obtain ⟨s0, s1, s2, s3, sf, sg⟩ := row4 (h5.get 0 rfl : w4.heap[t]? = _); have H5 := Lib.hid h5; have hz5 := h5.size; have HO5 := Lib.hid (show w4.ownsRow w0.heap.size 23 1 (.slice ai T.ar.fresh capi) T.ar.fresh (idsV T.ar.fresh T.ids) from h5.get 2 rfl); clear h5)
          | (at_builtin; (refine wpList_append2 _ _ 37 rfl rfl infoU64 Try.underlying37 rfl (by decide) rfl rfl (HO5.out.alloc _) (news := [.int .u64 0]) rfl (cell_one' (ad := ⟨w4.heap.size, 0, none⟩) (World.cell?_alloc_at _ _ _ _ rfl)) (one_oneCell rfl) (by unfold maxLen; omega) (by omega) (by simp; omega) ?_); intro v1 w5 hown1 hgr1 hnil1 hblk1; obtain ⟨g1, cap1, rfl⟩ := ownsRow_succ hown1; have h6 := H5.out.own_append 2 rfl hown1 hgr1 hblk1; obtain ⟨y0, y1, y2, y3, yf, yg⟩ := row4 (h6.get 0 rfl : w5.heap[t]? = _); have HO6 := Lib.hid hown1; have H6 := Lib.hid h6; have x1 := World.ownsRow.cellAt hown1 i (by omega); rw [HI0.out] at x1; have x2 := World.ownsRow.frozenAt hown1; have hcn := (h6.get 3 rfl : (ownT _ _ _ _ _ _).P w5); have x3 := World.ownsRow.cellAt hcn k' (by omega); have x4 := World.ownsRow.frozenAt hcn; have e1 : t ≠ g1 := (fun e => h6.dis 0 2 _ _ (by omega) rfl rfl t rfl (by rw [e]; rfl)); have e2 : t ≠ gc := (fun e => h6.dis 0 3 _ _ (by omega) rfl rfl t rfl (by rw [e]; rfl)); have e3 : g1 ≠ gc := (fun e => h6.dis 2 3 _ _ (by omega) rfl rfl g1 rfl (by rw [e]; rfl)); rw [cellsV_at _ hklt] at x3; clear hown1 hgr1 hnil1 hblk1 h6 hcn))
        refine bodyPost_ret (results_3' rfl (.tmp 4 rfl) (.tmp 5 rfl) (.tmp 6 rfl)) rfl ?_
        refine ⟨by rw [HP.out.2]; simp [putV], ?_⟩
        obtain ⟨hif, hfr⟩ := HFR.out
        have h6 := H6.out
        have h7 := h6.set 0 rfl (F := fun q => q = t) ((Upd.refl (fun q => q = t) w5).setCell (p := ⟨t, 2, none⟩) (fun _ => rfl) (.slice (some ⟨g1, 0, none⟩) (T.ar.fresh + 1) cap1)) (fun q hq => Or.inl hq) (tabRow t ab T.ar.slots (.slice (some ⟨g1, 0, none⟩) (T.ar.fresh + 1) cap1) (.slice (some ⟨gc, 0, none⟩) M' capc)) (row4_set2 (h6.get 0 rfl) _) (fun q hq => Or.inl hq)
        have h8 := h7.own_set1 2 rfl (k := i) (by omega) (u := .int .u64 (x : Int)) rfl
        have h9 := h8.own_set1 3 rfl hklt (u := .int .i32 ((i + 1 : Nat) : Int)) rfl
        rw [cellsV_set] at h9
        have e1 : (idsV T.ar.fresh T.ids ++ [Value.int .u64 0]).set i (.int .u64 (x : Int)) = idsV (i + 1) (fun j => if j = i then x else T.ids j) := by
          rw [← hif, List.set_append_right _ _ (by rw [idsV_len]; omega), idsV_len, Nat.sub_self, ← idsV_push, if_pos rfl]
          congr 1
          exact idsV_congr (fun j hj => by rw [if_neg (by omega)])
        rw [e1] at h9
        refine HFIN.out _ (.slice (some ⟨g1, 0, none⟩) (T.ar.fresh + 1) cap1) ?_
        have e2 : (T.add x i).ar.fresh = i + 1 := hfr
        unfold tabParts
        rw [e2]
        rw [show T.ar.fresh + 1 = i + 1 by omega] at h9 ⊢
        exact h9
      · -- an index that was given back
        have hb : ((i : Int) == (T.ar.fresh : Int)) = false := by simp; omega
        have hfr : (T.ar.take i).fresh = T.ar.fresh := by rw [Ar.take_fresh hok.ar hi, if_neg (by omega)]
        obtain ⟨g1, cap1, hie⟩ : ∃ g cap, iv = .slice (some ⟨g, 0, none⟩) T.ar.fresh cap ∧ T.ar.fresh ≤ cap ∧ cap ≤ 9223372036854775807 := by
          rcases hin.2 with ⟨_, h0⟩ | ⟨g, cap, cur, h0, hg, hh, hnc, hm, _, _⟩
          · omega
          · exact ⟨g, cap, h0, hnc, by simpa [maxLen] using hm⟩
        obtain ⟨rfl, hic1, hic2⟩ := hie
        have HFR := Lib.hid hfr
        clear hst hin hfr hok hg
        go_wp2_with (first
          | (go_at_call 57; refine HF'.out.mono ?_; rintro e w3 ⟨rfl, hbb⟩; have h4 := H3.out.keep hbb; have q0 := (hbb.cell (p := ⟨t, 0, none⟩) pg).trans p0; have H4 := Lib.hid h4; clear hbb h4)
          | (go_at_call 62; refine (Sep.aAlloc H4.out 1 rfl hi).mono ?_; rintro e w4 ⟨rfl, h5⟩; obtain ⟨s0, s1, s2, s3, sf, sg⟩ := row4 (h5.get 0 rfl : w4.heap[t]? = _); have hown1 := (show w4.ownsRow w0.heap.size 23 1 (.slice (some ⟨g1, 0, none⟩) T.ar.fresh cap1) T.ar.fresh (idsV T.ar.fresh T.ids) from h5.get 2 rfl); have x1 := World.ownsRow.cellAt hown1 i (by omega); rw [idsV_at _ hif] at x1; have x2 := World.ownsRow.frozenAt hown1; have hcn := (h5.get 3 rfl : (ownT _ _ _ _ _ _).P w4); have x3 := World.ownsRow.cellAt hcn k' (by omega); have x4 := World.ownsRow.frozenAt hcn; have e1 : t ≠ g1 := (fun e => h5.dis 0 2 _ _ (by omega) rfl rfl t rfl (by rw [e]; rfl)); have e2 : t ≠ gc := (fun e => h5.dis 0 3 _ _ (by omega) rfl rfl t rfl (by rw [e]; rfl)); have e3 : g1 ≠ gc := (fun e => h5.dis 2 3 _ _ (by omega) rfl rfl g1 rfl (by rw [e]; rfl)); rw [cellsV_at _ hklt] at x3; have H5 := Lib.hid h5; clear h5 hown1 hcn))
        refine bodyPost_ret (results_3' rfl (.tmp 4 rfl) (.tmp 5 rfl) (.tmp 6 rfl)) rfl ?_
        refine ⟨by rw [HP.out.2]; simp [putV], ?_⟩
        have h8 := H5.out.own_set1 2 rfl (k := i) hif (u := .int .u64 (x : Int)) rfl
        have h9 := h8.own_set1 3 rfl hklt (u := .int .i32 ((i + 1 : Nat) : Int)) rfl
        rw [cellsV_set, idsV_set] at h9
        refine HFIN.out _ (.slice (some ⟨g1, 0, none⟩) T.ar.fresh cap1) ?_
        have e2 : (T.add x i).ar.fresh = T.ar.fresh := HFR.out
        unfold tabParts
        rw [e2]
        exact h9
end
end Go.Proofs.Ythlfmlpdnbeelaa
