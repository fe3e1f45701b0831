/- For every list of times, every number and every time seepagelaw35.ExpirySets returns true, and its arguments read as before. No condition. -/
import Derived.Test.YtmlbacbcdjfioaaExpT
import Derived.Test.YtmlbacbcdjfioaaClose
set_option linter.unusedSimpArgs false
set_option linter.unusedVariables false
namespace Go.Proofs.Ytmlbacbcdjfioaa
open Go.ChangeShapes Go.WideShapes Go.ChangeAt Go.RowKit
namespace ExpirySets

/-- The first j of these, but k. -/
def oth (xs : List Int) (k : Int) (j : Nat) : List Int := (xs.take j).filter fun y => y != k
theorem oth_step {xs : List Int} (k : Int) {j : Nat} (hj : j < xs.length) : oth xs k (j + 1) = oth xs k j ++ (if xs.getD j 0 != k then [xs.getD j 0] else []) := by
  unfold oth
  rw [List.take_succ_eq_append_getElem hj, List.filter_append]
  have : xs.getD j 0 = xs[j] := by simp [List.getD, hj]
  rw [this, List.filter_cons]
  split <;> simp
theorem oth_len (xs : List Int) (k : Int) (j : Nat) : (oth xs k j).length ≤ j := by
  unfold oth
  exact Nat.le_trans (List.length_filter_le _ _) (by rw [List.length_take]; omega)
theorem nats_filter (L : List Ent) (k : Nat) : (nats L).filter (fun y => y != (k : Int)) = nats (L.filter fun x => x.1 != k) := by
  induction L with
  | nil => rfl
  | cons x L ih =>
    unfold nats at *
    simp only [List.map_cons, List.filter_cons]
    by_cases h : x.1 = k
    · simp [h, ih]
    · have : ((x.1 : Int) != (k : Int)) = true := by simp; omega
      rw [if_pos this, if_pos (by simpa using h), List.map_cons, ih]

structure Facts (A : Hp) (len k : Nat) (x z : Int) (L D M : List Ent) : Prop where
  a1 : A.setE (k : Int) = 0
  a2 : A.setA (k : Int) x = A.put k x
  b1 : (A.put k x).setE (k : Int) = 0
  b2 : (A.put k x).setA (k : Int) z = A
  c1 : A.remE (k : Int) = 0
  c2 : A.remA (k : Int) = A.del k
  d1 : (A.del k).remE (k : Int) = 5
  d2 : (A.del k).remA (k : Int) = A.del k
  e1 : (A.del k).setE (k : Int) = 0
  e2 : (A.del k).setA (k : Int) x = A.put k x
  f1 : (A.put k x).remE (k : Int) = 0
  f2 : (A.put k x).remA (k : Int) = A.del k
  sL : Srt A L
  sD : Srt (A.del k) D
  sM : Srt (A.put k x) M
  lD : D.length + 1 = len
  lM : M.length = len
  dM : dueOf M 9223372036854775807 = M ∧ lateOf M 9223372036854775807 = []
  dD : dueOf D 9223372036854775807 = D ∧ lateOf D 9223372036854775807 = []
  fM : (nats M).filter (fun y => y != (k : Int)) = nats D
  wf : ∀ y ∈ nats M, (Lit.int .i64 y).wf = true

theorem facts {A : Hp} {len k : Nat} {x z : Int} {L : List Ent} (hL : Srt A L) (ho : A.Ok) (hl : L.length = len) (hk : A.keys k = some z) (hx : -9223372036854775808 ≤ x ∧ x ≤ 9223372036854775807) :
    ∃ D M, Facts A len k x z L D M := by
  have hs := ho.lt _ _ hk
  have ho1 := A.put_ok ho hs hx
  have ho2 := A.del_ok ho k
  have r1 := Hp.remE_some hs hk
  have r2 := Hp.remE_none (A := A.del k) hs (by simp [Hp.del])
  have r3 := Hp.remE_some (A := A.put k x) (v := x) hs (by simp [Hp.put])
  have hD := hL.del k
  have hM : Srt (A.put k x) (ins (k, x) (L.filter fun y => y.1 != k)) := hL.put x
  have hL2 : L = ins (k, z) (L.filter fun y => y.1 != k) := by
    have := hL.put (i := k) z
    rw [Hp.put_self A hk] at this
    exact hL.uniq this
  have hlen : (L.filter fun y => y.1 != k).length + 1 = len := by
    rw [← hl]; conv => rhs; rw [hL2, len_ins]
  refine ⟨_, _, ⟨Hp.setE_nat hs, Hp.setA_in x hs, Hp.setE_nat hs, ?_, r1.1, r1.2, r2.1, r2.2, Hp.setE_nat hs, ?_, r3.1, ?_, hL, hD, hM, hlen, ?_, due_all hM ho1, due_all hD ho2, ?_, ?_⟩⟩
  · rw [Hp.setA_in z (show k < (A.put k x).slots from hs), Hp.put_put, Hp.put_self A hk]
  · rw [Hp.setA_in x (show k < (A.del k).slots from hs), Hp.del_put]
  · rw [r3.2, Hp.put_del]
  · rw [len_ins]; exact hlen
  · rw [nats_filter]
    have h3 := hM.del k
    rw [Hp.put_del] at h3
    rw [h3.uniq hD]
  · intro y hy
    obtain ⟨e, he, rfl⟩ := List.mem_map.1 hy
    have := ho1.lt _ _ ((hM.mem e.1 e.2).2 he)
    have := ho1.slots
    simp only [Lit.wf, IntKind.min, IntKind.max, IntKind.signed, IntKind.bits, Bool.and_eq_true, decide_eq_true_eq, if_true]
    omega

set_option maxHeartbeats 4000000
set_option maxRecDepth 100000 in
theorem walk (a : Option Addr) (len cap : Nat) (zs : List Int) (p : Nat) (hp : p ≤ 65535) (x : Int) (hx : -9223372036854775808 ≤ x ∧ x ≤ 9223372036854775807) (w : World) (hin : IntsIn w .i64 a len cap zs) :
    Calls Try.prog 13 #[.slice a len cap, .int .u16 p, .int .i64 x] w fun e w' => e = .returned (.bool true) ∧ Below w.heap.size w w' := by
  have hle := hin.hle
  have hmax := hin.hmax
  by_cases hl : 1 ≤ len ∧ len ≤ 300
  · obtain ⟨hl1, hl⟩ := hl
    have HI := Lib.hid hin
    have ho := upto_ok35 hin hl
    obtain ⟨k, hk⟩ : ∃ k, p % len = k := ⟨_, rfl⟩
    have hkl : k < len := by have := Nat.mod_lt p (show 0 < len by omega); omega
    have hI : (p : Int) % (len : Int) = (k : Int) := by rw [← hk, Int.natCast_emod]
    obtain ⟨L, hL⟩ : ∃ L, Srt (Hp.upto zs len) L := ⟨_, Hp.sorted_srt ho⟩
    have hz := wf_i64 (hin.getD_wf k hkl)
    obtain ⟨b0, off, ha, hb0, hc⟩ := hin.hcell k hkl
    obtain ⟨z, hzz⟩ : ∃ z, zs.getD k 0 = z := ⟨_, rfl⟩
    obtain ⟨D, M, hF⟩ := facts (z := z) hL ho (srt_upto_len hL ho) (by simp only [Hp.upto]; rw [if_pos hkl, hzz]) hx
    rw [hzz] at hc hz
    subst ha
    have hIn : ((p : Int) % (len : Int)).toNat = k := by rw [hI]; simp
    obtain ⟨A, hA⟩ : ∃ A, Hp.upto zs len = A := ⟨_, rfl⟩
    rw [hA] at hF
    have HF := Lib.hid hF
    have HA := Lib.hid hA
    have HC := Lib.hid hc
    have hMl : (nats M).length = len := by rw [← hF.lM]; simp [nats]
    have HS1 := Lib.hid (show decide (nats M = nats M) = true by simp)
    have HS2 := Lib.hid (show oth (nats M) k M.length = nats D by
      unfold oth; rw [show M.length = (nats M).length by simp [nats], List.take_length, hF.fM])
    have hMl300 : M.length ≤ 300 := by rw [hF.lM]; exact hl
    have HOL := Lib.hid (show (oth (nats M) k M.length).length = D.length by
      unfold oth; rw [show M.length = (nats M).length by simp [nats], List.take_length, hF.fM]; simp [nats])
    have hq0 : ((len : Int) == 0) = false := by simp; omega
    have hd1 : ((D.length : Int) != (len : Int) - 1) = false := by have := hF.lD; simp; omega
    have hd2 : ((D.length : Int) == (M.length : Int) - 1) = true := by have := hF.lD; have := hF.lM; simp; omega
    have HML := Lib.hid hF.lM
    have HNL := Lib.hid hMl
    have HIR := Lib.hid hI
    clear hin ho hL hF hA hzz hc hk hMl hIn
    go_enter Try.func13, Try.ntmps13
    go_wp2_with (first
      | (go_at_call 32; refine (Sep.eDueEq H10.out 2 rfl HF.out.sM _ HF.out.dM.1 HF.out.dM.2).mono ?_; rintro r w11 ⟨a11, c11, A11, T11, rfl, _, hx11, _, h⟩; have H11 := Lib.hid h; clear h hx11 H10)
      | (go_at_call 35; have _t := tokU; refine (Sep.eDrop H9.out 0 rfl _).mono ?_; rintro r w10 ⟨rfl, S10, h⟩; rw [HF.out.f2] at h; rw [HF.out.f1]; have H10 := Lib.hid h; clear h H9 tokU)
      | (go_at_call 36; refine (Sep.eCopy H8.out 1 rfl).mono ?_; rintro r w9 ⟨e9, b9, S9, rfl, h⟩; have tokU := trivial; have H9 := Lib.hid h; clear h H8)
      | (go_at_call 30; have _t := tokN; refine (Sep.eLenEq H8.out 0 rfl HF.out.sM HML.out).mono ?_; rintro r wz ⟨rfl, rfl⟩; clear tokN)
      | (go_at_call 30; have _t := tokM; refine (Sep.eLenEq H8.out 1 rfl HF.out.sM HML.out).mono ?_; rintro r wz ⟨rfl, rfl⟩; have tokN := trivial; clear tokM)
      | (go_at_call 37; have _t := tokL; refine (Sep.eSet H7.out 0 rfl _ x hx).mono ?_; rintro r w8 ⟨rfl, S8, h⟩; rw [HF.out.e2] at h; rw [HF.out.e1]; have tokM := trivial; have H8 := Lib.hid h; clear h H7 tokL)
      | (go_at_call 30; refine (Sep.eLen H7.out 0 rfl HF.out.sD).mono ?_; rintro r wz ⟨rfl, rfl⟩; have tokL := trivial)
      | (go_at_call 35; refine (Sep.eDrop H6.out 0 rfl _).mono ?_; rintro r w7 ⟨rfl, S7, h⟩; rw [HF.out.d2] at h; rw [HF.out.d1]; have H7 := Lib.hid h; clear h H6)
      | (go_at_call 35; refine (Sep.eDrop H5.out 0 rfl _).mono ?_; rintro r w6 ⟨rfl, S6, h⟩; rw [HF.out.c2] at h; rw [HF.out.c1]; have H6 := Lib.hid h; clear h H5)
      | (go_at_call 37; refine (Sep.eSet H4.out 1 rfl _ x hx).mono ?_; rintro r w5 ⟨rfl, S5, h⟩; rw [HF.out.a2] at h; rw [HF.out.a1]; have H5 := Lib.hid h; clear h H4)
      | (go_at_call 37; refine (Sep.eSet H3.out 1 rfl _ z hz).mono ?_; rintro r w4 ⟨rfl, S4, h⟩; rw [HF.out.b2] at h; rw [HF.out.b1]; have H4 := Lib.hid h; clear h H3)
      | (go_at_call 37; refine (Sep.eSet H2.out 1 rfl _ x hx).mono ?_; rintro r w3 ⟨rfl, S3, h⟩; rw [HF.out.a2] at h; rw [HF.out.a1]; have ck := (h.below.cell (p := ⟨b0, off + k, none⟩) hb0).trans HC.out; have H3 := Lib.hid h; clear h H2)
      | (go_at_call 29; refine (Sep.l35filled H1.out true (HI.out.of_below H1.out.below) hl).mono ?_; rintro r w2 ⟨e2, b2, S2, rfl, h⟩; rw [HA.out] at h; have H2 := Lib.hid h; clear h H1)
      | (go_at_call 29; refine (Sep.l35filled (Sep.start w) false HI.out hl).mono ?_; rintro r w1 ⟨e1, b1, S1, rfl, h⟩; rw [HA.out] at h; have H1 := Lib.hid h; clear h))
    go_loopw [11, 114] (fun u y wr => ∃ (j : Nat), y = .int .i64 j ∧ j ≤ M.length ∧ Sep w wr (ownT w.heap.size 3 1 (oth (nats M) k j).length u ((oth (nats M) k j).map (Value.int .i64)) ::
      [intsT .i64 a11 M.length c11 (nats M), schedT w.heap.size e9 b9 (A.del k) S10, schedT w.heap.size e2 b2 (A.put k x) S8, schedT w.heap.size e1 b1 A11 T11])) (fun _ y _ => M.length - (intOf y).toNat)
    case atStart =>
      have h := H11.out.add (Below.refl _ _) (ownT w.heap.size 3 1 0 (.slice none 0 0) []) (World.ownsRow_nil _ _ _ _) (by rintro q hq; simp [ownT, Value.ownBlock] at hq)
      exact ⟨0, rfl, Nat.zero_le _, by simpa [oth] using h⟩
    case round =>
      obtain ⟨j, rfl, hj, hsep⟩ := hrel
      by_cases hlt : j < M.length
      · have hlt' : j < (nats M).length := by simpa [nats] using hlt
        obtain ⟨b3, o3, ha, hb3, hc⟩ := (show IntsIn wr .i64 a11 M.length c11 (nats M) from hsep.get 1 rfl).hcell j hlt
        subst ha
        have hst := oth_step (k : Int) hlt'
        have hol := oth_len (nats M) k j
        obtain ⟨y, hy⟩ : ∃ y, (nats M).getD j 0 = y := ⟨_, rfl⟩
        rw [hy] at hc hst
        by_cases hyk : y = (k : Int)
        · have hne : (y != (k : Int)) = false := by simpa using hyk
          rw [if_neg (by simpa using hyk), List.append_nil] at hst
          have HS := Lib.hid (show Sep w wr (ownT w.heap.size 3 1 (oth (nats M) k (j + 1)).length u11 ((oth (nats M) k (j + 1)).map (Value.int .i64)) ::
            [intsT .i64 (some ⟨b3, o3, none⟩) M.length c11 (nats M), schedT w.heap.size e9 b9 (A.del k) S10, schedT w.heap.size e2 b2 (A.put k x) S8, schedT w.heap.size e1 b1 A11 T11]) by rw [hst]; exact hsep)
          clear hsep hst hyk hy
          go_wp2
          go_roundw
          case rel => exact ⟨j + 1, by simp, by omega, HS.out⟩
          case measure => simp [intOf]; omega
        · have hne : (y != (k : Int)) = true := by simpa using hyk
          rw [if_pos (by simpa using hyk)] at hst
          have own : wr.ownsRow w.heap.size 3 1 u11 (oth (nats M) k j).length ((oth (nats M) k j).map (Value.int .i64)) := hsep.get 0 rfl
          have hz0 := hsep.size
          have HS := Lib.hid hsep
          have HST := Lib.hid hst
          have hlenb : (oth (nats M) k j).length ≤ 300 := by
            have := hMl300; omega
          clear hsep hst hyk hy
          go_wp2_with (at_builtin; refine wpList_append2 _ _ 43 rfl rfl infoInt Try.underlying43 rfl (by decide) rfl rfl (own.alloc _) (news := [.int .i64 y]) rfl (cell_one (ad := ⟨wr.heap.size, 0, none⟩) (World.cell?_alloc_at _ _ _ _ rfl)) (one_oneCell rfl) (by unfold maxLen; omega) (by omega) (by simp; omega) ?_; intro v' w1 hown1 hgr1 hnil1 hblk1; have HO := Lib.hid (And.intro hown1 (And.intro hgr1 hblk1)); clear hown1 hgr1 hnil1 hblk1)
          go_roundw
          case rel =>
            obtain ⟨hown1, hgr1, hblk1⟩ := HO.out
            have h2 := HS.out.own_append 0 rfl hown1 hgr1 hblk1
            refine ⟨j + 1, by simp, by omega, ?_⟩
            rw [HST.out, List.length_append, List.map_append]
            exact h2
          case measure => simp [intOf]; omega
      · obtain rfl : j = M.length := by omega
        obtain ⟨ao, co, rfl, h12⟩ := hsep.own_ints 0 rfl (fun y hy => HF.out.wf y (List.mem_of_mem_take (List.mem_filter.1 hy).1))
        rw [HOL.out] at h12 ⊢
        have H12 := Lib.hid h12
        clear hsep h12
        go_wp2_with (first
          | (go_at_call 28; refine (Sep.l35works H16.out).mono ?_; rintro r w17 ⟨rfl, h⟩; have H17 := Lib.hid h; clear h)
          | (go_at_call 33; refine (Sep.l35sameEq H15.out HS2.out (H15.out.get 2 rfl) (H15.out.get 0 rfl)).mono ?_; rintro r w16 ⟨rfl, h⟩; have H16 := Lib.hid h; clear h H15)
          | (go_at_call 32; refine (Sep.eDueEq H14.out 3 rfl HF.out.sD _ HF.out.dD.1 HF.out.dD.2).mono ?_; rintro r w15 ⟨a15, c15, A15, T15, rfl, _, _, _, h⟩; have H15 := Lib.hid h; clear h H14)
          | (go_at_call 33; refine (Sep.l35sameEq H13.out rfl (H13.out.get 2 rfl) (H13.out.get 0 rfl)).mono ?_; rintro r w14 ⟨rfl, h⟩; have H14 := Lib.hid h; clear h H13)
          | (go_at_call 32; refine (Sep.eDueEq H12.out 3 rfl HF.out.sM _ HF.out.dM.1 HF.out.dM.2).mono ?_; rintro r w13 ⟨a13, c13, A13, T13, rfl, _, _, _, h⟩; have H13 := Lib.hid h; clear h H12))
        go_ret
        exact ⟨by simp, H17.out.below⟩
  · clear hin
    by_cases h0 : len = 0
    · subst h0
      go_enter Try.func13, Try.ntmps13
      go_wp2_with (go_at_call 28; refine (l35works_any _).mono ?_; rintro e w' ⟨rfl, hb⟩)
      go_ret
      exact ⟨by simp, by assumption⟩
    · have h1 : 300 < len := by omega
      have h2 : ((len : Int) == 0) = false := by simp; omega
      go_enter Try.func13, Try.ntmps13
      go_wp2_with (go_at_call 28; refine (l35works_any _).mono ?_; rintro e w' ⟨rfl, hb⟩)
      go_ret
      exact ⟨by simp, by assumption⟩
end ExpirySets
end Go.Proofs.Ytmlbacbcdjfioaa
