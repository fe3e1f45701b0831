/- Rf35D: layer 35: the document's schedule: without, Set, Drop. -/
import Derived.Test.YtmlbacbcdjfioaaRf35C
import Derived.Test.YtmlbacbcdjfioaaExpT
set_option linter.unusedSimpArgs false
set_option linter.unusedVariables false
namespace Go.Proofs.Ytmlbacbcdjfioaa
open Go.ChangeShapes Go.WideShapes Go.ChangeAt Go.RowKit

/-- The entries but the k-th. -/
def dropAt (L : List Ent) (k : Int) : List Ent := if 0 ≤ k then L.eraseIdx k.toNat else L
theorem dropAt_succ {L : List Ent} {j : Nat} (hj : j < L.length) (k : Int) : dropAt (L.take (j + 1)) k = if (j : Int) = k then dropAt (L.take j) k else dropAt (L.take j) k ++ [entAt L j] := by
  rw [List.take_succ_eq_append_getElem hj, entAt_eq hj]
  have hlen : (L.take j).length = j := by simp; omega
  unfold dropAt
  by_cases h0 : 0 ≤ k
  · obtain ⟨m, rfl⟩ := Int.eq_ofNat_of_zero_le h0
    simp only [h0, if_true, Int.toNat_natCast, Int.ofNat_eq_natCast]
    by_cases h1 : j = m
    · subst h1
      rw [if_pos rfl, List.eraseIdx_append_of_length_le (by omega), List.eraseIdx_of_length_le (l := L.take j) (by omega), hlen, Nat.sub_self]
      simp
    · rw [if_neg (by omega)]
      by_cases h2 : m < j
      · rw [List.eraseIdx_append_of_lt_length (by omega)]
      · rw [List.eraseIdx_append_of_length_le (by omega), List.eraseIdx_of_length_le (l := L.take j) (by omega), List.eraseIdx_of_length_le (l := [entAt L j]) (by simp; omega)]
  · rw [if_neg h0, if_neg h0, if_neg (by omega)]
theorem dropAt_len (L : List Ent) (k : Int) : (dropAt L k).length ≤ L.length := by
  unfold dropAt
  split
  · exact List.length_eraseIdx_le ..
  · exact Nat.le_refl _
theorem dropAt_mem {L : List Ent} {k : Int} {x : Ent} (h : x ∈ dropAt L k) : x ∈ L := by
  unfold dropAt at h
  split at h
  · exact List.mem_of_mem_eraseIdx h
  · exact h
theorem flat_app (M : List Ent) (x : Ent) : flat M.length (entAt M) ++ [.int .i64 (x.1 : Int), .int .i64 x.2] = flat (M ++ [x]).length (entAt (M ++ [x])) := by
  rw [flat_push, List.length_append]
  refine flat_congr fun q hq => ?_
  show (if q = M.length then (x.1, x.2) else entAt M q) = _
  by_cases e : q = M.length
  · rw [if_pos e, e]; simp [entAt, List.getD]
  · have h2 : q < M.length := by first | omega | (simp at hq; omega)
    rw [if_neg e]
    simp [entAt, List.getD, List.getElem?_append_left h2]

section
variable {B : Nat} {w : World} {g n : Nat} {v : Value} {L : List Ent}
set_option maxHeartbeats 1000000
theorem s35Without_any (h : Ref35 B w g n v L) (k : Int) (hk : -1 ≤ k) : Calls Try.prog 69 #[.pointer (some ⟨g, 0, none⟩), .int .i64 k] w fun r w' => ∃ v', r = .returned v' ∧
    w'.ownsRow w.heap.size 28 2 v' (dropAt L k).length (flat (dropAt L k).length (entAt (dropAt L k))) ∧ Below w.heap.size w w' := by
  obtain ⟨c0, c1, c2, cf, hg⟩ := row_three h.row
  obtain ⟨a, cap, rfl, hcells⟩ := h.list
  have hn := h.ns
  have hl := h.hl
  have HC := Lib.hid hcells
  clear h hcells
  go_enter Try.func69, Try.ntmps69
  go_wp2
  go_loopw [5, 6] (fun u y wr => ∃ (j : Nat) (M : List Ent), y = .int .i64 j ∧ j ≤ L.length ∧ M = dropAt (L.take j) k ∧ wr.ownsRow w.heap.size 28 2 u M.length (flat M.length (entAt M)) ∧ Below w.heap.size w wr) (fun _ y _ => L.length - (intOf y).toNat)
  case atStart => exact ⟨0, [], rfl, Nat.zero_le _, by unfold dropAt; simp, World.ownsRow_nil _ _ _ _, Below.refl _ _⟩
  case round =>
    obtain ⟨j, M, rfl, hj, hM, hown, hb⟩ := hrel
    have c2' := (hb.cell (p := ⟨g, 2, none⟩) hg).trans c2
    have hz := hb.size
    have hMl : M.length ≤ L.length := by rw [hM]; exact Nat.le_trans (dropAt_len _ _) (by rw [List.length_take]; exact Nat.min_le_right _ _)
    by_cases hlt : j < L.length
    · obtain ⟨q, hq, k0, k1⟩ := HC.out j hlt
      have hq2 : q < w.heap.size := World.block_lt_of_cell? w _ k0
      have k0' := (hb.cell (p := ⟨q, j * 2, none⟩) hq2).trans k0
      have k1' := (hb.cell (p := ⟨q, j * 2 + 1, none⟩) hq2).trans k1
      have hstep := dropAt_succ hlt k
      rw [← hM] at hstep
      subst hq
      by_cases he : (j : Int) = k
      · rw [if_pos he] at hstep
        have hneq : ((j : Int) != k) = false := by simpa using he
        have HS := Lib.hid (And.intro hstep (And.intro hown hb))
        clear he hstep hown hM hb k0 k1
        go_wp2
        go_roundw
        case rel => exact ⟨j + 1, M, by simp, by omega, HS.out.1.symm, HS.out.2.1, HS.out.2.2⟩
        case measure => simp [intOf]; omega
      · rw [if_neg he] at hstep
        have hneq : ((j : Int) != k) = true := by simpa using he
        have HS := Lib.hid hstep
        have HB := Lib.hid hb
        have HO := Lib.hid hown
        obtain ⟨x, hx⟩ : ∃ x, entAt L j = x := ⟨_, rfl⟩
        rw [hx] at k0' k1' HS
        clear he hstep hM hx hown hb k0 k1
        go_wp2_with (at_builtin; (refine wpList_append2 _ _ 68 rfl rfl infoEntry Try.underlying68 rfl (by decide) rfl rfl (HO.out.alloc _) (news := [.int .i64 (x.1 : Int), .int .i64 x.2]) rfl (cell_two (u := .int .i64 (x.1 : Int)) (v := .int .i64 x.2) (ad := ⟨wr.heap.size, 0, none⟩) (World.cell?_alloc_at _ _ _ _ (by simp)) (World.cell?_alloc_at _ _ _ 1 (by simp))) (two_oneCell rfl rfl) (by unfold maxLen; omega) (by omega) (by simp; omega) ?_); intro v1 w1 hown1 hgr1 hnil1 hblk1; rw [flat_app] at hown1; have hb1 := (HB.out.alloc hz (.cells #[.int .i64 (x.1 : Int), .int .i64 x.2] 28)).grown hgr1 (by simp; omega) (fun q hq => (HO.out.lt q hq).1); have H1 := Lib.hid (And.intro hown1 hb1); clear hown1 hgr1 hnil1 hblk1 hb1)
        go_roundw
        case rel => exact ⟨j + 1, M ++ [x], by simp, by omega, HS.out.symm, by have := H1.out.1; simpa using this, H1.out.2⟩
        case measure => simp [intOf]; omega
    · obtain rfl : j = L.length := by omega
      rw [List.take_length] at hM
      have HS := Lib.hid (And.intro hM (And.intro hown hb))
      clear hM hown hb
      go_wp2
      go_ret
      refine ⟨u5, by simp, ?_, HS.out.2.2⟩
      rw [← HS.out.1]
      exact HS.out.2.1

theorem row_three_set {w : World} {g : Nat} {a b c : Value} {t : TypeId} (h : w.heap[g]? = some (.cells #[a, b, c] t (0, 0))) (p : Value) : (w.setCell ⟨g, 2, none⟩ p).heap[g]? = some (.cells #[a, b, p] t (0, 0)) := by
  have h1 := heap_setCell_same w g 2 _ _ p h
  rw [h1]; rfl
/-- A new list is stored. -/
theorem Ref35.store {w1 : World} {L' : List Ent} {v' : Value} (h : Ref35 B w g n v L) (hb : Below w.heap.size w w1) (hown : w1.ownsRow w.heap.size 28 2 v' L'.length (flat L'.length (entAt L'))) (hB : B ≤ w.heap.size)
    (hl : L'.length ≤ n) (hwf : ∀ j, j < L'.length → -9223372036854775808 ≤ (entAt L' j).2 ∧ (entAt L' j).2 ≤ 9223372036854775807) :
    Ref35 B (w1.setCell ⟨g, 2, none⟩ v') g n v' L' ∧ Upd (fun q => q = g) w (w1.setCell ⟨g, 2, none⟩ v') ∧ (∀ q, v'.ownBlock = some q → w.heap.size ≤ q) := by
  have hg := (row_three h.row).2.2.2.2
  have hge : ∀ q, v'.ownBlock = some q → w.heap.size ≤ q := fun q hq => (hown.lt q hq).1
  refine ⟨⟨row_three_set ((hb.block g hg).trans h.row) v', owns_same (ownsRow_base hown hB) (fun q hq => Below.heap_setCell _ _ _ _ (by have := hge q hq; simp; omega)), h.ns, hl, hwf⟩, ?_, hge⟩
  exact ((Upd.of_below hb).mono (G := fun q => q = g) (fun i hi hx => absurd hi (by omega))).setCell (p := ⟨g, 2, none⟩) (fun _ => rfl) v'
theorem Srt.facts35 {A : Hp} (hs : Srt A L) (ho : A.Ok) (ha : A.slots = n) : L.length ≤ n ∧ ∀ j, j < L.length → -9223372036854775808 ≤ (entAt L j).2 ∧ (entAt L j).2 ≤ 9223372036854775807 := by
  refine ⟨hs.length_le n (fun x hx => by rw [← ha]; exact ho.lt _ _ ((hs.mem x.1 x.2).2 hx)), fun j hj => ?_⟩
  rw [← entAt_eq hj]
  exact ho.wf _ _ ((hs.mem (L[j]).1 (L[j]).2).2 (List.getElem_mem hj))
theorem drop_find {A : Hp} (hs : Srt A L) {i : Nat} {k : Int} (hf : FindR L (i : Int) k) : Srt (A.del i) (dropAt L k) := by
  rcases hf with ⟨rfl, hno⟩ | ⟨j, rfl, hj, he⟩
  · have hk : A.keys i = none := by
      cases hkk : A.keys i with
      | none => rfl
      | some u =>
        obtain ⟨j, hj, e⟩ := List.getElem_of_mem ((hs.mem _ _).1 hkk)
        rw [entAt_eq hj] at e
        exact absurd (by rw [e]) (hno j hj)
    have e : A.del i = A := by
      obtain ⟨s, ks⟩ := A
      unfold Hp.del
      simp only [Hp.mk.injEq, true_and]
      funext q
      by_cases h : q = i
      · rw [if_pos h, h]; exact hk.symm
      · rw [if_neg h]
    rw [e]
    unfold dropAt
    rw [if_neg (by omega)]
    exact hs
  · have he' : (L[j]).1 = i := by rw [entAt_eq hj]; omega
    unfold dropAt
    rw [if_pos (by omega), Int.toNat_natCast]
    refine ⟨?_, hs.ord.sublist (List.eraseIdx_sublist L j)⟩
    intro q v
    rw [List.mem_eraseIdx_iff_getElem]
    have hd : (A.del i).keys q = if q = i then none else A.keys q := rfl
    rw [hd]
    constructor
    · intro h
      split at h
      · simp at h
      · rename_i hq
        obtain ⟨m, hm, e⟩ := List.getElem_of_mem ((hs.mem _ _).1 h)
        refine ⟨m, hm, fun e2 => hq ?_, e⟩
        subst e2
        rw [← he', e]
    · rintro ⟨m, hm, hne, e⟩
      have hmem : (q, v) ∈ L := by rw [← e]; exact List.getElem_mem hm
      rw [if_neg, (hs.mem _ _).2 hmem]
      intro hq
      have hnd := List.pairwise_iff_getElem.1 hs.nodup
      have e1 : (L[m]).1 = (L[j]).1 := by rw [e, he']; exact hq
      rcases Nat.lt_trichotomy m j with h | h | h
      · exact hnd m j (by simpa using hm) (by simpa using hj) h (by simpa using e1)
      · exact hne h
      · exact hnd j m (by simpa using hj) (by simpa using hm) h (by simpa using e1.symm)
end

section
variable {w0 w : World} {l : List Thing} {i g n : Nat} {A : Hp} {L : List Ent} {bk : Option Nat}
theorem find_none {k : Int} {q : Nat} (hs : Srt A L) (h : FindR L (q : Int) k) : (A.keys q = none ∧ k = -1) ∨ (A.keys q ≠ none ∧ 0 ≤ k) := by
  rcases h with ⟨rfl, hno⟩ | ⟨j, rfl, hj, he⟩
  · left
    refine ⟨?_, rfl⟩
    cases hkk : A.keys q with
    | none => rfl
    | some u =>
      obtain ⟨j, hj, e⟩ := List.getElem_of_mem ((hs.mem _ _).1 hkk)
      rw [entAt_eq hj] at e
      exact absurd (by rw [e]) (hno j hj)
  · right
    refine ⟨?_, by omega⟩
    have : A.keys (entAt L j).1 = some (entAt L j).2 := by rw [hs.mem, ← entAt_eq hj]; exact List.getElem_mem hj
    rw [show q = (entAt L j).1 by omega, this]; simp
/-- The list is stored: the document's schedule among the others. -/
theorem Sep.ref_store {w1 : World} {v v' : Value} {L' : List Ent} (h : Sep w0 w l) (hi : l[i]? = some (refT w0.heap.size g n L bk)) (hr : Ref35 w0.heap.size w g n v L) (hb : Below w.heap.size w w1) (hown : w1.ownsRow w.heap.size 28 2 v' L'.length (flat L'.length (entAt L')))
    {A' : Hp} (hs : Srt A' L') (ho : A'.Ok) (ha : A'.slots = n) : Sep w0 (w1.setCell ⟨g, 2, none⟩ v') (l.set i (refT w0.heap.size g n L' v'.ownBlock)) := by
  obtain ⟨f1, f2⟩ := hs.facts35 ho ha
  obtain ⟨a1, a2, a3⟩ := hr.store hb hown h.size f1 f2
  refine h.set i hi a2 (fun q hq => Or.inl (Or.inl hq)) _ ⟨v', rfl, a1⟩ ?_
  rintro q (hq | hq)
  · exact Or.inl (Or.inl hq)
  · exact Or.inr (a3 q hq)

set_option maxHeartbeats 1000000
theorem Sep.s35Drop (h : Sep w0 w l) (hi : l[i]? = some (refT w0.heap.size g n L bk)) (hs : Srt A L) (ho : A.Ok) (ha : A.slots = n) (x : Int) :
    Calls Try.prog 39 #[.pointer (some ⟨g, 0, none⟩), .int .i64 x] w fun r w' => r = .returned (.int .i64 (A.remE x)) ∧ ∃ L' bk', Srt (A.remA x) L' ∧ Sep w0 w' (l.set i (refT w0.heap.size g n L' bk')) := by
  obtain ⟨v, hv, hr⟩ := (h.get i hi : (refT _ _ _ _ _).P _)
  have HSAME := Lib.hid (show ∀ A', A' = A → ∃ L' bk', Srt A' L' ∧ Sep w0 w (l.set i (refT w0.heap.size g n L' bk')) from fun A' e => ⟨L, bk, by rw [e]; exact hs, by
    have := h.turnAt i hi (y := refT w0.heap.size g n L bk) (h.get i hi) (fun q hq => hq)
    exact this⟩)
  have HC0 := s35Check_any hr x
  by_cases hin : 0 ≤ x ∧ x < (n : Int)
  · obtain ⟨q, rfl⟩ := Int.eq_ofNat_of_zero_le hin.1
    rw [show chkE n (q : Int) = 0 from if_pos hin] at HC0
    have hq : q < A.slots := by omega
    have HC := Lib.hid HC0
    have HF := Lib.hid (s35Find_any hr (q : Int))
    have HW := Lib.hid (fun k hk => s35Without_any hr k hk)
    have HST := Lib.hid (fun (w1 : World) (v' : Value) (k : Int) (hf : FindR L (q : Int) k) (hb : Below w.heap.size w w1) (hown : w1.ownsRow w.heap.size 28 2 v' (dropAt L k).length (flat (dropAt L k).length (entAt (dropAt L k)))) => h.ref_store hi hr hb hown (drop_find hs hf) (Hp.del_ok ho q) ha)
    have HFN := Lib.hid (fun k hf => find_none (A := A) (q := q) (k := k) hs hf)
    have HDF := Lib.hid (fun k hf => drop_find (i := q) (k := k) hs hf)
    have HE1 := Lib.hid (fun hk => Hp.remE_none hq hk)
    have HE2 := Lib.hid (fun v hk => Hp.remE_some (v := v) hq hk)
    obtain ⟨c0, c1, c2, cf, hg⟩ := row_three hr.row
    clear h hi hr hv hs ho ha HC0 hin hq
    go_enter Try.func39, Try.ntmps39
    go_wp2_with (first
      | (go_at_call 68; refine HC.out.mono ?_; rintro r wz ⟨rfl, rfl⟩)
      | (go_at_call 70; refine HF.out.mono ?_; rintro r wz ⟨⟨k, rfl, hk⟩, rfl⟩; have HK := Lib.hid hk; rcases HFN.out k hk with ⟨hn1, rfl⟩ | ⟨hn1, hk0⟩ <;> (have HN := Lib.hid hn1; clear hn1 hk))
      | (go_at_call 69; refine (HW.out _ (by omega)).mono ?_; rintro r w1 ⟨v', rfl, hown, hb⟩; obtain ⟨av, cv, rfl, _⟩ := owns_slice hown; have hz := hb.size; have cg := hb.block g hg; have hfz := World.frozen?_of_block (a := ⟨g, 2, none⟩) cg; rw [cf] at hfz; have hcz := (World.cell?_of_block (a := ⟨g, 2, none⟩) cg).trans c2; have H1 := Lib.hid (HST.out _ _ _ HK.out hb hown); clear hown hb cg))
    · go_ret
      exact ⟨by rw [(HE1.out HN.out).1]; simp, HSAME.out _ (HE1.out HN.out).2⟩
    · go_ret
      obtain ⟨u, hu⟩ : ∃ u, A.keys q = some u := Option.ne_none_iff_exists'.1 HN.out
      refine ⟨by rw [(HE2.out u hu).1]; simp, _, _, ?_, H1.out⟩
      rw [(HE2.out u hu).2]
      exact HDF.out _ HK.out
  · rw [show chkE n x = 3 from if_neg hin] at HC0
    have HC := Lib.hid HC0
    have HR := Lib.hid (show A.remE x = 3 ∧ A.remA x = A by
      unfold Hp.remE Hp.remA
      rw [if_neg (by rw [ha]; exact hin), if_neg (fun h => hin ⟨h.1, by rw [← ha]; exact h.2.1⟩)]
      exact ⟨rfl, rfl⟩)
    clear h hi hr hv hs ho ha HC0
    go_enter Try.func39, Try.ntmps39
    go_wp2_with (go_at_call 68; refine HC.out.mono ?_; rintro r wz ⟨rfl, rfl⟩)
    go_ret
    exact ⟨by rw [HR.out.1]; simp, HSAME.out _ HR.out.2⟩
end
end Go.Proofs.Ytmlbacbcdjfioaa
