/- IntI: layer 3: Del. -/
import Derived.Test.YthlfmlpdnbeelaaIntH
import Derived.WalkMore
set_option linter.unusedSimpArgs false
set_option linter.unusedVariables false
namespace Go.Proofs.Ythlfmlpdnbeelaa
open Go.ChangeShapes Go.WideShapes Go.ChangeAt Go.RowKit

/-- While the hole moves: s cells behind it are full; p0: an empty cell. -/
structure DelJ (w0 wr : World) (t ab lb : Nat) (A : Ar) (ids : Nat → Nat) (iv cv : Value) (M : Nat) (U : Nat → Prop) (p0 : Nat) (c : Nat → Nat) (hole s : Nat) (r : List Thing) : Prop where
  sep : Sep w0 wr (tabParts w0.heap.size t ab lb A ids iv cv M c ++ r)
  hol : Hole M c (fun i => ihome M (ids i : Nat)) U hole s
  zero : c p0 = 0
  far : p0 ≠ hole
  lt : p0 < M
  le : ∀ k, k < M → c k ≤ A.fresh

theorem roff_pos {M a p : Nat} (ha : a < M) (hp : p < M) (hne : p ≠ a) : 0 < roff M a p := by
  rcases Nat.eq_zero_or_pos (roff M a p) with h | h
  · have := rgo_off ha hp
    rw [h, rgo_zero ha] at this
    exact absurd this.symm hne
  · exact h
theorem DelJ.room {w0 wr : World} {t ab lb : Nat} {A : Ar} {ids : Nat → Nat} {iv cv : Value} {M : Nat} {U : Nat → Prop} {p0 : Nat} {c : Nat → Nat} {hole s : Nat} {r : List Thing} (h : DelJ w0 wr t ab lb A ids iv cv M U p0 c hole s r) :
    s < roff M hole p0 ∧ s + 1 < M := by
  have h1 := roff_pos h.hol.hl h.lt h.far
  have h2 := roff_lt hole p0 (show 0 < M by have := h.lt; omega)
  have h3 : s < roff M hole p0 := by
    refine Classical.byContradiction fun hn => ?_
    have := h.hol.full (roff M hole p0) h1 (by omega)
    rw [rgo_off h.hol.hl h.lt] at this
    exact this h.zero
  exact ⟨h3, by omega⟩
theorem roff_step {M hole s p0 : Nat} (hh : hole < M) (hp : p0 < M) (hs : s ≤ roff M hole p0) (hsM : s < M) : roff M (rgo M hole s) p0 = roff M hole p0 - s :=
  roff_via (rgo_lt _ _ (by omega)) hh hp (roff_go hh hsM) hs
/-- k less h, in the ring. -/
theorem and_roff {M : Nat} (hp : ∃ p, p < 62 ∧ M = 2 ^ p) {h k : Nat} (hh : h < M) (hk : k < M) : bits .and .i64 ((k : Int) - (h : Int)) ((M : Int) - 1) = (roff M h k : Int) := by
  obtain ⟨p, hp, rfl⟩ := hp
  rw [and_mask _ p (by omega)]
  unfold roff
  rw [Int.natCast_emod, show ((k + 2 ^ p - h : Nat) : Int) = ((k : Int) - h) + ((2 ^ p : Nat) : Int) by omega, Int.add_emod_right]

section
variable {w0 w : World} {l r : List Thing} {t ab lb M : Nat} {T : It} {iv cv : Value} {c : Nat → Nat} {S : Nat → Prop}
set_option maxHeartbeats 8000000
set_option maxRecDepth 100000
theorem Sep.iDel (h : Sep w0 w (tabT w0.heap.size t T S :: r)) (x : Nat) (hx : x < 18446744073709551616) :
    Calls Try.prog 21 #[.pointer (some ⟨t, 0, none⟩), .int .u64 (x : Int)] w fun e w' => e = .returned (.int .i64 (T.delE x : Nat)) ∧ ∃ S', Sep w0 w' (tabT w0.heap.size t (T.del x) S' :: r) := by
  have HS := Lib.hid h
  obtain ⟨l, ⟨ab, lb, iv, cv, M, c, ho, rfl⟩, h2⟩ := h.unpack
  have hok := h2.tab_ok ho
  obtain ⟨q0, q1, q2, q3, qf, qg⟩ := row4 (h2.get 0 rfl : w.heap[t]? = _)
  have HV := Lib.hid (iValid_any q0)
  have hfv := h2.tab_fv ho
  obtain ⟨b, cap, hc3, hb1, hb2, hb3, hcell⟩ := hfv.c3
  rw [q3] at hc3
  simp only [Option.some.injEq] at hc3
  subst hc3
  have hf6 := hfv.n6
  have hM := ho.m6.1
  cases hg : T.get x with
  | none =>
    obtain ⟨D, _, _, _, hF⟩ := h2.find_none ho hx hg
    obtain ⟨k, hk⟩ : ∃ k, rgo M (ihome M (x : Nat)) D = k := ⟨_, rfl⟩
    rw [hk] at hF
    have HF := Lib.hid hF
    have HP := Lib.hid (show T.del x = T ∧ T.delE x = 5 by unfold It.del It.delE; rw [hg]; exact ⟨rfl, rfl⟩)
    clear h h2 ho hok hfv hcell hg hF hk
    go_enter Try.func21, Try.ntmps21
    go_wp2
    go_step3
    go_wp2_with (first
      | (go_at_call 56; refine HV.out.mono ?_; rintro e wz ⟨rfl, rfl⟩)
      | (go_at_call 57; refine HF.out.mono ?_; rintro e w1 ⟨rfl, hb⟩; have HB := Lib.hid hb; clear hb))
    rw [Exit.noGoto_ret]
    go_ret
    exact ⟨by rw [HP.out.2]; simp, S, by rw [HP.out.1]; exact HS.out.keep HB.out⟩
  | some i =>
    obtain ⟨hu, hix⟩ := (It.get_some hok).1 hg
    obtain ⟨k, hk, hck, hF⟩ := h2.find_some ho hg
    have hif := Ar.used_lt hu
    have hcl := hcell k hk
    rw [hck, Int.natCast_add, Int.natCast_one] at hcl
    have HF := Lib.hid hF
    have hpow := ho.pow
    have HWI := Lib.hid (show IntKind.i64.wrap ((i : Int) + 1) = (i : Int) + 1 ∧ IntKind.i64.wrap ((i : Int) + 1 - 1) = (i : Int) from ⟨wrap_eq (by unfold ok64; omega), by
      rw [show (i : Int) + 1 - 1 = (i : Int) by omega]
      exact wrap_eq (by unfold ok64; omega)⟩)
    have HP := Lib.hid (show T.del x = ⟨T.ar.freed i, T.ids⟩ ∧ T.delE x = 0 by unfold It.del It.delE; rw [hg]; exact ⟨rfl, rfl⟩)
    obtain ⟨p0, hp0, hz0⟩ := ho.tab.room T.ar.list (fun i hi => (Ar.p_mem_list hok.ar i).2 hi) (by have := ho.load; have := ho.m6.2; omega)
    have H2 := Lib.hid h2
    have HX := Lib.hid (And.intro ho (And.intro hok (And.intro hu (And.intro hck (And.intro hp0 hz0)))))
    clear h h2 ho hok hfv hcell hg hF hck hu hp0 hz0
    go_enter Try.func21, Try.ntmps21
    go_wp2
    go_step3
    go_wp2_with (first
      | (go_at_call 56; refine HV.out.mono ?_; rintro e wz ⟨rfl, rfl⟩)
      | (go_at_call 57; refine HF.out.mono ?_; rintro e w1 ⟨rfl, hb⟩; have n0 := (hb.cell (p := ⟨t, 0, none⟩) qg).trans q0; have n3 := (hb.cell (p := ⟨t, 3, none⟩) qg).trans q3; have nk := (hb.cell (p := ⟨b, k, none⟩) hb3).trans hcl; have H3 := Lib.hid (H2.out.keep hb); clear hb))
    have hd1 : w1.drew.cell? ⟨t, 0, none⟩ = some (.pointer (some ⟨ab, 0, none⟩)) := n0
    go_region_held3 (fun w' => w'.cell? ⟨t, 0, none⟩ = some (.pointer (some ⟨ab, 0, none⟩)) ∧ w'.cell? ⟨t, 3, none⟩ = some (.slice (some ⟨b, 0, none⟩) M cap) ∧ w'.cell? ⟨b, k, none⟩ = some (.int .i32 ((i : Int) + 1))) (go_keep)
      (first
        | (go_at_call 58; rw [HWI.out.1, HWI.out.2]; refine (Sep.aFree (H3.out.drew) 1 rfl HX.out.2.2.1).mono ?_; rintro e w2 ⟨rfl, h4⟩; obtain ⟨m0, m1, m2, m3, mf, mg⟩ := row4 (h4.get 0 rfl : w2.heap[t]? = _); have hcn := (h4.get 3 rfl : (ownT _ _ _ _ _ _).P w2); have mk := (World.ownsRow.cellAt hcn k (by omega)).trans (cellsV_at c hk); rw [HX.out.2.2.2.1, Int.natCast_add, Int.natCast_one] at mk; have H4 := Lib.hid h4; clear h4 hcn))
    go_wp2
    go_step3
    go_wp2
    have hstart : DelJ w0 w2 t ab lb (T.ar.freed i) T.ids iv (.slice (some ⟨b, 0, none⟩) M cap) M (fun j => T.ar.used j = true ∧ j ≠ i) p0 c k 0 r := by
      obtain ⟨ho, hok, hu, hck, hp0, hz0⟩ := HX.out
      exact ⟨H4.out, ho.tab.hole hk hck, hz0, fun e => by rw [e, hck] at hz0; omega, hp0, ho.le⟩
    have HSTART := Lib.hid hstart
    clear hstart m0 m1 m2 m3 mf mg mk n0 n3 nk q0 q1 q2 q3 qf hcl hd1
    have hm8 := HX.out.1.m6.2
    go_loopw [5, 8] (fun u y wr => ∃ (c' : Nat → Nat) (hole s : Nat), u = .int .i64 (hole : Int) ∧ y = .int .i64 (rgo M hole s : Nat) ∧ DelJ w0 wr t ab lb (T.ar.freed i) T.ids iv (.slice (some ⟨b, 0, none⟩) M cap) M (fun j => T.ar.used j = true ∧ j ≠ i) p0 c' hole s r) (fun _ y _ => roff M (intOf y).toNat p0)
    case atStart => exact ⟨c, k, 0, rfl, by rw [rgo_zero hk], HSTART.out⟩
    case round =>
      obtain ⟨c', hole, s, rfl, rfl, hj⟩ := hrel
      obtain ⟨hs1, hs2⟩ := hj.room
      have hhl := hj.hol.hl
      have hfv := fv_of (hj.sep.get 0 rfl : wr.heap[t]? = _) (hj.sep.get 2 rfl : (ownT _ _ _ _ _ _).P wr) (hj.sep.get 3 rfl : (ownT _ _ _ _ _ _).P wr) hpow hj.le hf6
      obtain ⟨ai, capi, d2, e1, e2, hcell⟩ := hfv.c2
      obtain ⟨z0, z1, z2, z3, zf, zg⟩ := row4 (hj.sep.get 0 rfl : wr.heap[t]? = _)
      rw [z2] at d2
      simp only [Option.some.injEq] at d2
      subst d2
      have hcn := (hj.sep.get 3 rfl : (ownT _ _ _ _ _ _).P wr)
      have hcl : ∀ q, q < M → wr.cell? ⟨b, q, none⟩ = some (.int .i32 (c' q)) := fun q hq => (World.ownsRow.cellAt hcn q (by omega)).trans (cellsV_at c' hq)
      have hcf := World.ownsRow.frozenAt hcn
      have hgM := rgo_lt hole (s + 1) (show 0 < M by omega)
      have hgM0 := rgo_lt hole s (show 0 < M by omega)
      have hgs := roff_go hhl hs2
      have hp62 : ∃ p, p < 62 ∧ M = 2 ^ p := by obtain ⟨p, h1, h2, h3⟩ := hpow; exact ⟨p, by omega, h3⟩
      have hmk : bits .and .i64 (((rgo M hole s : Nat) : Int) + 1) ((M : Int) - 1) = ((rgo M hole (s + 1) : Nat) : Int) := by
        obtain ⟨p, h1, h3⟩ := hp62
        have := and_mask (((rgo M hole s : Nat) : Int) + 1) p (by omega)
        rw [← h3] at this
        rw [this]
        have e : rgo M hole (s + 1) = (rgo M hole s + 1) % M := by unfold rgo; rw [Nat.mod_add_mod, Nat.add_assoc]
        rw [e, Int.natCast_emod]; rfl
      have hsub := and_roff hp62 (h := hole) (k := rgo M hole (s + 1)) hhl hgM
      rw [hgs] at hsub
      have hmeas0 : roff M (rgo M hole s) p0 = roff M hole p0 - s := roff_step hhl hj.lt (by omega) (by omega)
      have hmeas1 : roff M (rgo M hole (s + 1)) p0 = roff M hole p0 - (s + 1) := roff_step hhl hj.lt (by omega) hs2
      have hneh : rgo M hole (s + 1) ≠ hole := fun e => by
        rw [e] at hmeas1
        omega
      have HMEAS := Lib.hid (show roff M (rgo M hole (s + 1)) p0 < roff M (rgo M hole s) p0 by omega)
      obtain ⟨g0, hg0⟩ : ∃ g0, rgo M hole s = g0 := ⟨_, rfl⟩
      obtain ⟨g, hg⟩ : ∃ g, rgo M hole (s + 1) = g := ⟨_, rfl⟩
      have hcg := hcl _ hgM
      have hch := hcl _ hhl
      by_cases hz : c' (rgo M hole (s + 1)) = 0
      · have htab := hj.hol.done hs2 hz
        rw [hz] at hcg
        have HJ := Lib.hid hj.sep
        have HTAB := Lib.hid htab
        rw [hg0] at hmk hgM0
        rw [hg] at hcg hmk hgM
        rw [hg0]
        clear hj hfv hcell hcn hcl hgs hsub hmeas0 hmeas1 hneh hz htab hg0 hg HMEAS hp62
        go_wp2
        rw [Exit.noGoto_ret]
        go_ret
        refine ⟨by rw [HP.out.2]; simp, ?_⟩
        rw [HP.out.1]
        have h5 := HJ.out.own_set1 3 rfl hhl (u := .int .i32 ((0 : Nat) : Int)) rfl
        rw [cellsV_set] at h5
        obtain ⟨ho, hok, hu, hck, hp0, hz0⟩ := HX.out
        refine ⟨_, Sep.pack (l := tabParts w0.heap.size t ab lb (T.ar.freed i) T.ids _ (.slice (some ⟨b, 0, none⟩) M cap) M (fun p => if p = hole then 0 else c' p)) h5 ⟨ab, lb, _, _, M, _, ?_, rfl⟩⟩
        refine ⟨ho.pow, HTAB.out.iff (fun j => (Ar.freed_used i j).symm), ho.idlt, fun j l hj hl e => ?_, ?_⟩
        · have h1 := (Ar.freed_used i j).1 hj
          have h2 := (Ar.freed_used i l).1 hl
          exact ho.inj j l h1.1 h2.1 e
        · have := Ar.p_freed_len hok.ar hu
          have := ho.load
          show 2 * (T.ar.freed i).list.length ≤ M
          omega
      · obtain ⟨z, hz1⟩ : ∃ z, c' (rgo M hole (s + 1)) = z + 1 := ⟨c' (rgo M hole (s + 1)) - 1, by omega⟩
        rw [hz1] at hcg
        have hU := hj.hol.used _ hgM hneh hz
        rw [hz1, Nat.add_sub_cancel] at hU
        have hzf := Ar.used_lt hU.1
        obtain ⟨bi, rfl, hbi, hid⟩ := hcell z hzf
        have hhome := HX.out.1.home (T.ids z : Nat)
        obtain ⟨p, hp, hMp⟩ := hp62
        have hH := iHome_any z3 (T.ids z : Int) (by have := HX.out.1.idlt z hzf; omega) p (by omega) hMp
        have hsub2 := and_roff ⟨p, hp, hMp⟩ (h := ihome M (T.ids z : Nat)) (k := rgo M hole (s + 1)) hhome hgM
        have hstay : roff M (ihome M (T.ids z : Nat)) (rgo M hole (s + 1)) < s + 1 → Hole M c' (fun i => ihome M (T.ids i : Nat)) (fun j => T.ar.used j = true ∧ j ≠ i) hole (s + 1) := fun h => hj.hol.stay hs2 hz1 h
        have hmove : s + 1 ≤ roff M (ihome M (T.ids z : Nat)) (rgo M hole (s + 1)) → Hole M (fun p => if p = hole then z + 1 else c' p) (fun i => ihome M (T.ids i : Nat)) (fun j => T.ar.used j = true ∧ j ≠ i) (rgo M hole (s + 1)) 0 := fun h => hj.hol.move hs2 hz1 h
        obtain ⟨hm, hhm⟩ : ∃ hm, ihome M (T.ids z : Nat) = hm := ⟨_, rfl⟩
        have hH2 : Calls Try.prog 59 #[.pointer (some ⟨t, 0, none⟩), .int .u64 (T.ids z : Int)] wr fun r w' => r = .returned (.int .i64 (hm : Nat)) ∧ wr = w' := by rw [← hhm]; exact hH
        rw [hhm] at hhome hsub2 hstay hmove
        obtain ⟨d, hd⟩ : ∃ d, roff M hm (rgo M hole (s + 1)) = d := ⟨_, rfl⟩
        rw [hd] at hsub2 hstay hmove
        have HH := Lib.hid hH2
        have HJ := Lib.hid hj
        have HST := Lib.hid hstay
        have HMV := Lib.hid hmove
        have HZ := Lib.hid hz1
        have HNE := Lib.hid hneh
        obtain ⟨xz, hxz⟩ : ∃ xz, T.ids z = xz := ⟨_, rfl⟩
        rw [hxz] at hid HH
        have hw1 : IntKind.i32.wrap (z : Int) = (z : Int) := by rw [IntKind.wrap_i32]; omega
        have HG := Lib.hid hg
        have HG0 := Lib.hid hg0
        rw [hg0] at hmk hgM0
        rw [hg] at hcg hmk hgM hsub hsub2
        have hdM : d < M := by rw [← hd]; exact roff_lt _ _ (by omega)
        rw [hg0]
        rw [Int.natCast_add, Int.natCast_one] at hsub
        clear hj hfv hcell hcn hcl hgs hmeas0 hmeas1 hneh hz hz1 hU hH hH2 hstay hmove hhm hd hg0 hg hxz hMp hp
        by_cases hlt : d < s + 1
        · go_wp2_with (go_at_call 59; refine HH.out.mono ?_; rintro e wz ⟨rfl, rfl⟩)
          go_roundw
          case rel => exact ⟨c', hole, s + 1, rfl, by rw [HG.out], ⟨HJ.out.sep, HST.out hlt, HJ.out.zero, HJ.out.far, HJ.out.lt, HJ.out.le⟩⟩
          case measure => have := HMEAS.out; rw [HG.out, HG0.out] at this; simpa [intOf] using this
        · have hge : s + 1 ≤ d := by omega
          go_wp2_with (go_at_call 59; refine HH.out.mono ?_; rintro e wz ⟨rfl, rfl⟩)
          go_roundw
          case rel =>
            have hj := HJ.out
            have h5 := hj.sep.own_set1 3 rfl hhl (u := .int .i32 ((z + 1 : Nat) : Int)) rfl
            rw [cellsV_set] at h5
            have hmv := HMV.out hge
            rw [HG.out] at hmv
            refine ⟨_, g, 0, rfl, by rw [rgo_zero hgM], ⟨h5, hmv, ?_, ?_, hj.lt, ?_⟩⟩
            · show (if p0 = hole then z + 1 else c' p0) = 0
              rw [if_neg hj.far]; exact hj.zero
            · intro e
              have h1 := hj.zero
              rw [e, ← HG.out, HZ.out] at h1
              omega
            · intro q hq
              show (if q = hole then z + 1 else c' q) ≤ _
              split
              · exact hzf
              · exact hj.le q hq
          case measure => have := HMEAS.out; rw [HG.out, HG0.out] at this; simpa [intOf] using this
end
end Go.Proofs.Ythlfmlpdnbeelaa
