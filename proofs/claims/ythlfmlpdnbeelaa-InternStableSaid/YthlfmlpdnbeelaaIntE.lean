/- IntE: layer 3: grow. -/
import Derived.Test.YthlfmlpdnbeelaaIntD
import Derived.Test.YthlfmlpdnbeelaaBit64
set_option linter.unusedSimpArgs false
set_option linter.unusedVariables false
namespace Go.Proofs.Ythlfmlpdnbeelaa
open Go.ChangeShapes Go.WideShapes Go.ChangeAt Go.RowKit

theorem infoI32 : (Try.prog.info? 21).map (fun i => (i.zero, i.size, i.bytes)) = some (some (.int .i32 0), 1, 4) := by kernel_rfl
theorem infoU64 : (Try.prog.info? 23).map (fun i => (i.zero, i.size, i.bytes)) = some (some (.int .u64 0), 1, 8) := by kernel_rfl
theorem made_i32 (n : Nat) : (madeCells (Value.cells (.int .i32 0)) (n * 1)).toList = cellsV n (fun _ => 0) := by
  rw [show Value.cells (.int .i32 0) = #[.int .i32 0] from rfl, toList_madeCells_one]
  apply List.ext_getElem?
  intro j
  by_cases hj : j < n
  · rw [cellsV_at _ hj]; simp [hj]
  · rw [List.getElem?_eq_none (by simp; omega), List.getElem?_eq_none (by rw [cellsV_len]; omega)]

theorem TbOk.le {T : It} {M : Nat} {c : Nat → Nat} (h : TbOk T M c) : ∀ k, k < M → c k ≤ T.ar.fresh := h.tab.le (fun _ hi => Ar.used_lt hi)
theorem TbOk.m6 {T : It} {M : Nat} {c : Nat → Nat} (h : TbOk T M c) : M ≤ 131072 ∧ 8 ≤ M := by
  obtain ⟨p, h1, h2, h3⟩ := h.pow
  subst h3
  exact ⟨Nat.pow_le_pow_right (n := 2) (by omega) h2, by have := Nat.pow_le_pow_right (n := 2) (by omega) h1; omega⟩
theorem TbOk.home {T : It} {M : Nat} {c : Nat → Nat} (h : TbOk T M c) (x : Int) : ihome M x < M := by
  obtain ⟨p, h1, h2, h3⟩ := h.pow
  exact ihome_lt (p := p) (by omega) h3 x

/-- Those whose cells were gone over. -/
def upTo (c : Nat → Nat) (q : Nat) (i : Nat) : Prop := ∃ k, k < q ∧ c k = i + 1

section
variable {w0 w : World} {l r : List Thing} {t ab lb M : Nat} {T : It} {iv cv : Value} {c : Nat → Nat}
theorem Sep.tab_fv (h : Sep w0 w (tabParts w0.heap.size t ab lb T.ar T.ids iv cv M c ++ r)) (ho : TbOk T M c) : FV w t M c T.ar.fresh T.ids := by
  have ha := (h.get 1 rfl : (arT ab lb T.ar).P w).1.ok
  exact fv_of (h.get 0 rfl) (h.get 2 rfl) (h.get 3 rfl) ho.pow ho.le (by have := ha.fresh; have := ha.slots; omega)

set_option maxHeartbeats 4000000
set_option maxRecDepth 100000
theorem iGrow_same (h : Sep w0 w (tabParts w0.heap.size t ab lb T.ar T.ids iv cv M c ++ r)) (ho : TbOk T M c) (hn : 2 * (T.ar.list.length + 1) ≤ M) :
    Calls Try.prog 61 #[.pointer (some ⟨t, 0, none⟩)] w fun e w' => e = .returned (.tuple #[]) ∧ ∃ n, w' = w.drewN n := by
  have ha := (h.get 1 rfl : (arT ab lb T.ar).P w).1
  have hll := Ar.p_list_len ha.ok
  have hfr := ha.ok.fresh
  have hsl := ha.ok.slots
  have HA := Lib.hid (fun n => aLen_any (ha.drewN n))
  obtain ⟨q0, q1, q2, q3, qf, qg⟩ := row4 (h.get 0 rfl : w.heap[t]? = _)
  obtain ⟨b, cap, hc3, hb1, hb2, _⟩ := (h.tab_fv ho).c3
  rw [q3] at hc3
  simp only [Option.some.injEq] at hc3
  subst hc3
  have hM := ho.m6.1
  obtain ⟨len, hlen⟩ : ∃ len, T.ar.list.length = len := ⟨_, rfl⟩
  have hle : (T.ar.fresh : Int) - T.ar.stack.length = (len : Int) := by omega
  simp only [hle] at HA
  have hn2 : len + 1 ≤ 65537 := by omega
  rw [hlen] at hn
  clear h ho ha hll hlen hle
  go_enter Try.func61, Try.ntmps61
  go_wp2
  have hg : 2 * ((len : Int) + 1) ≤ (M : Int) := by omega
  go_quiet ((go_at_call 60; exact quietC (HA.out _)))
  go_wp2
  refine bodyPost_ret (results_none rfl _ _ _) rfl ?_
  exact ⟨rfl, _, rfl⟩

/-- While the cells are laid anew: q of the old ones are done. -/
structure GrowJ (w0 wr : World) (t ab lb : Nat) (T : It) (iv cv cv' : Value) (M M' : Nat) (c c' : Nat → Nat) (q : Nat) (r : List Thing) : Prop where
  sep : Sep w0 wr (tabRow t ab T.ar.slots iv cv' :: arT ab lb T.ar :: ownT w0.heap.size 23 1 T.ar.fresh iv (idsV T.ar.fresh T.ids) :: ownT w0.heap.size 21 1 M' cv' (cellsV M' c') :: ownT w0.heap.size 21 1 M cv (cellsV M c) :: r)
  tab : Tab M' c' (fun i => ihome M' (T.ids i : Nat)) (upTo c q)

theorem upTo_used {c : Nat → Nat} {q : Nat} (ho : TbOk T M c) (hq : q ≤ M) {i : Nat} (hi : upTo c q i) : T.ar.used i = true := by
  obtain ⟨k, hk, hc⟩ := hi
  have := ho.tab.used k (by omega) (by omega)
  rwa [hc, Nat.add_sub_cancel] at this
theorem upTo_all (ho : TbOk T M c) (i : Nat) : upTo c M i ↔ T.ar.used i = true := by
  refine ⟨upTo_used ho (Nat.le_refl _), fun hi => ?_⟩
  obtain ⟨d, hd, h1, _⟩ := ho.tab.has i hi
  exact ⟨_, rgo_lt _ _ ho.tab.pos, h1⟩
theorem upTo_succ_zero {q : Nat} (hz : c q = 0) (i : Nat) : upTo c q i ↔ upTo c (q + 1) i := by
  constructor
  · rintro ⟨k, hk, h⟩; exact ⟨k, by omega, h⟩
  · rintro ⟨k, hk, h⟩
    by_cases e : k = q
    · subst e; omega
    · exact ⟨k, by omega, h⟩
theorem upTo_succ_some {q z : Nat} (hz : c q = z + 1) (i : Nat) : (i = z ∨ upTo c q i) ↔ upTo c (q + 1) i := by
  constructor
  · rintro (rfl | ⟨k, hk, h⟩)
    · exact ⟨q, by omega, hz⟩
    · exact ⟨k, by omega, h⟩
  · rintro ⟨k, hk, h⟩
    by_cases e : k = q
    · left; subst e; omega
    · right; exact ⟨k, by omega, h⟩
theorem upTo_new (ho : TbOk T M c) {q z : Nat} (hq : q < M) (hz : c q = z + 1) : ¬ upTo c q z := by
  rintro ⟨k, hk, h⟩
  have := ho.tab.inj k q (by omega) hq (by omega) (by omega)
  omega

theorem iGrow_more (h : Sep w0 w (tabParts w0.heap.size t ab lb T.ar T.ids iv cv M c ++ r)) (ho : TbOk T M c) (hn : M < 2 * (T.ar.list.length + 1)) (hroom : T.ar.list.length < T.ar.slots) :
    Calls Try.prog 61 #[.pointer (some ⟨t, 0, none⟩)] w fun e w' => e = .returned (.tuple #[]) ∧ ∃ cv' M' c', TbOk T M' c' ∧ 2 * (T.ar.list.length + 1) ≤ M' ∧ Sep w0 w' (tabParts w0.heap.size t ab lb T.ar T.ids iv cv' M' c' ++ r) := by
  have hp2 : ∃ p, 3 ≤ p ∧ p ≤ 16 ∧ M = 2 ^ p := by
    obtain ⟨p, h1, h2, h3⟩ := ho.pow
    refine ⟨p, h1, ?_, h3⟩
    have ha := (h.get 1 rfl : (arT ab lb T.ar).P w).1.ok.slots
    by_cases e : p = 17
    · subst e; omega
    · omega
  have hM' : ∃ M', 2 * M = M' := ⟨_, rfl⟩
  obtain ⟨M', hM'⟩ := hM'
  have hpow' : ∃ p, 3 ≤ p ∧ p ≤ 17 ∧ M' = 2 ^ p := by
    obtain ⟨p, h1, h2, h3⟩ := hp2
    exact ⟨p + 1, by omega, by omega, by rw [← hM', h3, Nat.pow_succ]; omega⟩
  have hload : 2 * T.ar.list.length ≤ M := ho.load
  have hm8 := ho.m6
  have hM6 : M' ≤ 131072 := by
    obtain ⟨p, h1, h2, h3⟩ := hpow'
    rw [h3]; exact Nat.pow_le_pow_right (n := 2) (by omega) h2
  have ha := (h.get 1 rfl : (arT ab lb T.ar).P w).1
  have hll := Ar.p_list_len ha.ok
  have hfr := ha.ok.fresh
  have hsl := ha.ok.slots
  have HA := Lib.hid (fun n => aLen_any (ha.drewN n))
  obtain ⟨q0, q1, q2, q3, qf, qg⟩ := row4 (h.get 0 rfl : w.heap[t]? = _)
  obtain ⟨b, cap, hc3, hb1, hb2, hb3, hcell⟩ := (h.tab_fv ho).c3
  rw [q3] at hc3
  simp only [Option.some.injEq] at hc3
  subst hc3
  obtain ⟨len, hlen⟩ : ∃ len, T.ar.list.length = len := ⟨_, rfl⟩
  have hle : (T.ar.fresh : Int) - T.ar.stack.length = (len : Int) := by omega
  simp only [hle] at HA
  have hn2 : len + 1 ≤ 65537 := by omega
  rw [hlen] at hn hroom hload
  have HO := Lib.hid (And.intro ho (And.intro hpow' (And.intro hM' hlen)))
  have HS := Lib.hid h
  have HROW := Lib.hid (show w.heap[t]? = _ from h.get 0 rfl)
  have HSL := Lib.hid (And.intro hfr hsl)
  have hdm : (2 : Int) * (M : Int) = (M' : Int) := by omega
  have hml := Nat.mul_le_mul hM6 (Nat.le_refl 1)
  clear h ho ha hll hle hlen hp2 hpow' hM' hfr hsl hcell
  go_enter Try.func61, Try.ntmps61
  go_wp2
  have hg : ¬ 2 * ((len : Int) + 1) ≤ (M : Int) := by omega
  have hg2 : (M : Int) < 2 * ((len : Int) + 1) := by omega
  go_quiet ((go_at_call 60; exact quietC (HA.out _)))
  go_wp2_with (at_make; refine wpList_makeN _ _ 62 rfl rfl infoI32 Try.underlying62 _ _ _ _ M' rfl rfl (by omega) (by omega) (by omega) (by unfold maxLen; omega) ?_; intro w1 hown hgr; have hb := (Below.refl w.heap.size (w.drewN nq)).grown hgr (Nat.le_refl _) (fun k hk => by simp at hk); obtain ⟨n0, n1, n2, n3, nf, ng⟩ := row4 ((hb.block t qg).trans HROW.out); have hgl := (hown.lt _ rfl).2; rw [made_i32] at hown; have H1 := Lib.hid (And.intro hown hb); clear hown hgr hb)
  have H1 := Lib.hid (show w1.ownsRow w.heap.size 21 1 (.slice (some ⟨w.heap.size, 0, none⟩) M' M') M' (cellsV M' (fun _ => 0)) ∧ Below w.heap.size w w1 from ⟨H1.out.1, ((Below.refl w.heap.size w).trans (below_drewN (Below.refl _ _) nq)).trans H1.out.2⟩)
  have hgl2 : w.heap.size < w1.heap.size := hgl
  have HSTART := Lib.hid (show GrowJ w0 (w1.setCell ⟨t, 3, none⟩ (.slice (some ⟨w.heap.size, 0, none⟩) M' M')) t ab lb T iv (.slice (some ⟨b, 0, none⟩) M cap) (.slice (some ⟨w.heap.size, 0, none⟩) M' M') M M' c (fun _ => 0) 0 r by
    obtain ⟨hown, hb⟩ := H1.out
    have h1 := HS.out
    have hz := h1.size
    have h2 := h1.add (hb.mono (Nat.le_refl _)) (ownT w0.heap.size 21 1 M' (.slice (some ⟨w.heap.size, 0, none⟩) M' M') (cellsV M' (fun _ => 0))) (own_base hown hz) (fun q hq => by
      have : q = w.heap.size := by simpa [ownT, Value.ownBlock] using hq.symm
      rw [this]; exact Nat.le_refl _)
    have h3 := h2.set 1 rfl (F := fun q => q = t) ((Upd.refl (fun q => q = t) w1).setCell (p := ⟨t, 3, none⟩) (fun _ => rfl) (.slice (some ⟨w.heap.size, 0, none⟩) M' M')) (fun q hq => Or.inl hq) (tabRow t ab T.ar.slots iv (.slice (some ⟨w.heap.size, 0, none⟩) M' M')) (row4_set3 (h2.get 1 rfl) _) (fun q hq => Or.inl hq)
    refine ⟨h3.sub (fun i => if i = 0 then 1 else if i = 1 then 2 else if i = 2 then 3 else if i = 3 then 0 else i) _ ?_ ?_, ?_⟩
    · intro i j e
      rcases i with _ | _ | _ | _ | i <;> rcases j with _ | _ | _ | _ | j <;> simp_all
    · intro i z hi
      match i, hi with
      | 0, hi => exact hi
      | 1, hi => exact hi
      | 2, hi => exact hi
      | 3, hi => exact hi
      | 4, hi => exact hi
      | i + 5, hi => exact hi
    · exact Tab.empty (by omega) _ (fun i hi => by obtain ⟨k, hk, _⟩ := hi; omega))
  clear n0 n1 n2 n3 nf ng H1 q0 q1 q2 q3 qf hgl hgl2
  go_loopw [33] (fun y wr => ∃ (q : Nat) (c' : Nat → Nat), y = .int .i64 q ∧ q ≤ M ∧ GrowJ w0 wr t ab lb T iv (.slice (some ⟨b, 0, none⟩) M cap) (.slice (some ⟨w.heap.size, 0, none⟩) M' M') M M' c c' q r) (fun y _ => M - (intOf y).toNat)
  case atStart => exact ⟨0, _, rfl, Nat.zero_le _, HSTART.out⟩
  case round =>
    obtain ⟨q, c', rfl, hq, hj⟩ := hrel
    obtain ⟨ho, hpow', hM', hlen⟩ := HO.out
    have hdone : ¬ q < M → TbOk T M' c' ∧ 2 * (T.ar.list.length + 1) ≤ M' := fun hnl => by
      obtain rfl : q = M := by omega
      exact ⟨⟨hpow', hj.tab.iff (upTo_all ho), ho.idlt, ho.inj, by omega⟩, by omega⟩
    by_cases hlt : q < M
    · have hold := (hj.sep.get 4 rfl : (ownT _ _ _ _ _ _).P wr)
      have hcq := (World.ownsRow.cellAt hold q (by omega)).trans (cellsV_at c hlt)
      by_cases hz : c q = 0
      · rw [hz] at hcq
        have HJ := Lib.hid (show GrowJ w0 wr t ab lb T iv (.slice (some ⟨b, 0, none⟩) M cap) (.slice (some ⟨w.heap.size, 0, none⟩) M' M') M M' c c' (q + 1) r from ⟨hj.sep, hj.tab.iff (upTo_succ_zero hz)⟩)
        clear hj hold hz ho hpow' hM' hlen hdone
        go_wp2
        go_roundw
        case rel => exact ⟨q + 1, c', by simp, by omega, HJ.out⟩
        case measure => simp [intOf]; omega
      · obtain ⟨z, hz1⟩ : ∃ z, c q = z + 1 := ⟨c q - 1, by omega⟩
        rw [hz1] at hcq
        have hzu := ho.tab.used q hlt (by omega)
        rw [hz1, Nat.add_sub_cancel] at hzu
        have hzf := Ar.used_lt hzu
        have hsl := HSL.out
        have hfv := fv_of (hj.sep.get 0 rfl : wr.heap[t]? = _) (hj.sep.get 2 rfl : (ownT _ _ _ _ _ _).P wr) (hj.sep.get 3 rfl : (ownT _ _ _ _ _ _).P wr) hpow' (hj.tab.le (fun i hi => Ar.used_lt (upTo_used ho (by omega) hi))) (by omega)
        obtain ⟨ai, capi, d2, e1, e2, hcell⟩ := hfv.c2
        obtain ⟨bi, rfl, hbi, hid⟩ := hcell z hzf
        have hhome : ihome M' (T.ids z : Nat) < M' := by
          obtain ⟨p, h1, h2, h3⟩ := hpow'
          exact ihome_lt (p := p) (by omega) h3 _
        obtain ⟨D, hE, hz0, hne⟩ := hj.tab.ends_none (x := T.ids z) (fun i hi e => by
          have := ho.inj i z (upTo_used ho (by omega) hi) hzu e
          subst this
          exact upTo_new ho hlt hz1 hi) hhome (l := T.ar.list) (fun i hi => (Ar.p_mem_list (hj.sep.get 1 rfl : (arT ab lb T.ar).P wr).1.ok i).2 (upTo_used ho (by omega) hi)) (by omega)
        have hFind := iFind_any (ho.idlt z hzf) hfv hE
        rw [show decide (c' (rgo M' (ihome M' (T.ids z : Nat)) D) ≠ 0) = false by simp [hz0]] at hFind
        have hk := rgo_lt (ihome M' (T.ids z : Nat)) D (show 0 < M' by omega)
        have htab := (hj.tab.add (i := z) (k := rgo M' (ihome M' (T.ids z : Nat)) D) (upTo_new ho hlt hz1) hhome hE.lt rfl hz0 hne).iff (upTo_succ_some hz1)
        obtain ⟨k, hke⟩ : ∃ k, rgo M' (ihome M' (T.ids z : Nat)) D = k := ⟨_, rfl⟩
        rw [hke] at hFind hk htab hz0
        have HFind := Lib.hid hFind
        have HTAB := Lib.hid htab
        have HJ := Lib.hid hj.sep
        obtain ⟨x, hx⟩ : ∃ x, T.ids z = x := ⟨_, rfl⟩
        rw [hx] at hid HFind
        have hw1 : IntKind.i32.wrap (z : Int) = (z : Int) := by rw [IntKind.wrap_i32]; omega
        clear hj hold hz hz1 ho hpow' hM' hlen hdone hzu hfv hcell hhome hE hne hFind htab hke hx hsl hz0
        go_wp2_with (go_at_call 57; refine HFind.out.mono ?_; rintro e w2 ⟨rfl, hb⟩; have h2 := HJ.out.keep hb; obtain ⟨n0, n1, n2, n3, nf, ng⟩ := row4 (h2.get 0 rfl : w2.heap[t]? = _); have hnew := (h2.get 3 rfl : (ownT _ _ _ _ _ _).P w2); have hck := (World.ownsRow.cellAt hnew k (by omega)).trans (cellsV_at c' hk); have hcf := World.ownsRow.frozenAt hnew; have hgl := (World.ownsRow.lt hnew w.heap.size rfl).2; have H2 := Lib.hid h2; clear hb h2 hnew)
        go_roundw
        case rel =>
          refine ⟨q + 1, _, by simp, by omega, ⟨?_, HTAB.out⟩⟩
          have h3 := H2.out.own_set1 3 rfl hk (u := .int .i32 ((z + 1 : Nat) : Int)) rfl
          rw [cellsV_set] at h3
          exact h3
        case measure => simp [intOf]; omega
    · have HD := Lib.hid (hdone hlt)
      have HJ := Lib.hid hj
      clear hj hdone ho hpow' hM' hlen
      go_wp2
      go_end0
      have hs := HJ.out.sep
      refine ⟨rfl, .slice (some ⟨w.heap.size, 0, none⟩) M' M', M', c', HD.out.1, HD.out.2, ?_⟩
      refine hs.sub (fun i => if i < 4 then i else i + 1) _ ?_ ?_
      · intro i j e
        (try simp only at e)
        split at e <;> split at e <;> omega
      · intro i z hi
        match i, hi with
        | 0, hi => exact hi
        | 1, hi => exact hi
        | 2, hi => exact hi
        | 3, hi => exact hi
        | i + 4, hi =>
          rw [if_neg (by omega)]
          exact hi
theorem iGrow_any (h : Sep w0 w (tabParts w0.heap.size t ab lb T.ar T.ids iv cv M c ++ r)) (ho : TbOk T M c) (hroom : T.ar.list.length < T.ar.slots) :
    Calls Try.prog 61 #[.pointer (some ⟨t, 0, none⟩)] w fun e w' => e = .returned (.tuple #[]) ∧ ∃ cv' M' c', TbOk T M' c' ∧ 2 * (T.ar.list.length + 1) ≤ M' ∧ Sep w0 w' (tabParts w0.heap.size t ab lb T.ar T.ids iv cv' M' c' ++ r) := by
  by_cases hn : 2 * (T.ar.list.length + 1) ≤ M
  · refine (iGrow_same h ho hn).mono ?_
    rintro e w' ⟨rfl, n, rfl⟩
    exact ⟨rfl, cv, M, c, ho, hn, h.drewN n⟩
  · exact iGrow_more h ho (by omega) hroom
end
end Go.Proofs.Ythlfmlpdnbeelaa
