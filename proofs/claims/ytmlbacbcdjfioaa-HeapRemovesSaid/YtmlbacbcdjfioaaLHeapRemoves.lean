/- For every list of keys and every index seepagelaw04.HeapRemoves returns true, and its arguments read as before. No condition. -/
import Derived.Test.YtmlbacbcdjfioaaHeapI
import Derived.Test.YtmlbacbcdjfioaaClose
set_option linter.unusedSimpArgs false
set_option linter.unusedVariables false
namespace Go.Proofs.Ytmlbacbcdjfioaa
open Go.ChangeShapes Go.WideShapes Go.ChangeAt Go.RowKit
namespace HeapRemoves

def others (L : List Ent) (i : Int) : List Ent := L.filter fun x => decide ((x.1 : Int) ≠ i)
theorem others_step {L : List Ent} {k : Nat} (i : Int) (h : k < L.length) : others (L.take (k + 1)) i = if ((entAt L k).1 : Int) ≠ i then others (L.take k) i ++ [entAt L k] else others (L.take k) i := by
  rw [List.take_succ_eq_append_getElem h, entAt_eq h]
  unfold others
  rw [List.filter_append]
  by_cases e : ((entAt L k).1 : Int) ≠ i
  · rw [if_pos e]; congr 1; rw [List.filter_cons]; simp [e]
  · rw [if_neg e]; rw [List.filter_cons]; simp at e; simp [e]
theorem others_len (L : List Ent) (i : Int) (k : Nat) : (others (L.take k) i).length ≤ L.length :=
  Nat.le_trans (List.length_filter_le _ _) (by rw [List.length_take]; exact Nat.min_le_right _ _)

set_option maxHeartbeats 4000000
set_option maxRecDepth 100000 in
theorem walk (a : Option Addr) (len cap : Nat) (zs : List Int) (i : Int) (hi : -9223372036854775808 ≤ i ∧ i ≤ 9223372036854775807) (w : World) (hin : IntsIn w .i64 a len cap zs) :
    Calls Try.prog 15 #[.slice a len cap, .int .i64 i] w fun e w' => e = .returned (.bool true) ∧ Below w.heap.size w w' := by
  have hle := hin.hle
  have hmax := hin.hmax
  by_cases hl : len ≤ 300
  · have HI := Lib.hid hin
    have ho := upto_ok35 hin hl
    obtain ⟨A, hA⟩ : ∃ A, Hp.upto zs len = A := ⟨_, rfl⟩
    obtain ⟨L, hL⟩ : ∃ L, Srt A L := ⟨_, Hp.sorted_srt (hA ▸ ho)⟩
    have hLl : L.length = len := srt_upto_len (hA ▸ hL) ho
    have hfin : Srt (A.remA i) (others L i) ∧ ((A.remE i == 0) = (decide (0 ≤ i) && decide (i < (len : Int)))) := by
      rcases A.rem_cases i with ⟨hE, hR, _, hK⟩ | ⟨j, v, hj, hjs, hjk, hE, hR, _⟩
      · have hno : ∀ x ∈ L, ((x.1 : Int) ≠ i) := by
          intro x hx e
          have h1 := (hL.mem x.1 x.2).2 hx
          have h2 := hK (hA ▸ ho)
          rw [← e] at h2
          simp only [Hp.keyAt, Int.toNat_natCast] at h2
          rw [if_pos (by omega), h1] at h2
          simp at h2
        have e1 : others L i = L := by
          unfold others; rw [List.filter_eq_self]; intro x hx; simpa using hno x hx
        refine ⟨by rw [hR, e1]; exact hL, ?_⟩
        rw [show (A.remE i == 0) = false by rcases hE with hE | hE <;> rw [hE] <;> rfl]
        symm
        rw [Bool.and_eq_false_iff, decide_eq_false_iff_not, decide_eq_false_iff_not]
        by_cases h0 : 0 ≤ i
        · right
          intro h1
          obtain ⟨j, rfl⟩ := Int.eq_ofNat_of_zero_le h0
          have h2 := hK (hA ▸ ho)
          rw [← hA] at h2
          have hjl : j < len := by omega
          simp [Hp.keyAt, Hp.upto, hjl] at h2
        · left; exact h0
      · subst hj
        have e1 : others L (j : Int) = L.filter fun x => x.1 != j := by
          unfold others
          congr 1
          funext x
          have hxj : ((x.1 : Int) = (j : Int)) ↔ x.1 = j := by omega
          by_cases e : x.1 = j
          · simp [e]
          · have h1 : ¬ ((x.1 : Int) = (j : Int)) := by omega
            simp [e, h1]
        refine ⟨by rw [hR, e1]; exact hL.del j, ?_⟩
        have hjl : j < len := Hp.upto_key (hA ▸ hjk)
        rw [hE, decide_eq_true (show (0 : Int) ≤ (j : Int) by omega), decide_eq_true (show (j : Int) < (len : Int) by omega)]
        rfl
    obtain ⟨r0, hr0⟩ : ∃ r0, A.remE i = r0 := ⟨_, rfl⟩
    rw [hr0] at hfin
    have HA := Lib.hid hA
    have HL := Lib.hid hL
    have HLL := Lib.hid hLl
    have HF := Lib.hid hfin.1
    have hb := hfin.2
    have HR := Lib.hid hr0
    clear hin ho hA hL hLl hfin hr0
    go_enter Try.func15, Try.ntmps15
    go_wp2_with (first
      | (go_at_call 44; refine (Sep.hRemove H2.out 1 rfl i).mono ?_; rintro r w3 ⟨rfl, T3, h⟩; rw [HR.out]; have H3 := Lib.hid h; clear h H2)
      | (go_at_call 42; refine (Sep.hListEq H1.out 0 rfl HL.out HLL.out).mono ?_; rintro r w2 ⟨a2, c2, rfl, q2, m2, h⟩; have H2 := Lib.hid h; clear h H1)
      | (go_at_call 22; refine (Sep.l4filled (Sep.start w) true HI.out hl).mono ?_; rintro r w1 ⟨b1, T1, rfl, h⟩; rw [HA.out] at h; have H1 := Lib.hid h; clear h))
    go_loopw [8, 9] (fun u y wr => ∃ (k : Nat) (M : List Ent), y = .int .i64 k ∧ k ≤ len ∧ M = others (L.take k) i ∧ Sep w wr [ownT w.heap.size 28 2 M.length u (flat M.length (entAt M)), entsT a2 len c2 L, heapT w.heap.size b1 (A.remA i) T3]) (fun _ y _ => len - (intOf y).toNat)
    case atStart => exact ⟨0, [], rfl, Nat.zero_le _, rfl, H3.out.add (Below.refl _ _) _ (World.ownsRow_nil _ _ _ _) (fun q hq => by simp [ownT, Value.ownBlock] at hq)⟩
    case round =>
      obtain ⟨k, M, rfl, hk, hM, hsep⟩ := hrel
      have HS := Lib.hid hsep
      have hMl : M.length ≤ len := by rw [hM, ← HLL.out]; exact others_len L i k
      by_cases hlt : k < len
      · have hlL : k < L.length := by rw [HLL.out]; exact hlt
        have hstep := others_step i hlL
        rw [← hM] at hstep
        obtain ⟨b0, off, rfl, hb0, e0, e1⟩ := EntsIn.hcell (show EntsIn _ a2 len c2 L from hsep.get 1 rfl) k hlt
        obtain ⟨x, hx⟩ : ∃ x, entAt L k = x := ⟨_, rfl⟩
        rw [hx] at hstep e0 e1
        by_cases he : (x.1 : Int) = i
        · rw [if_neg (by simpa using he)] at hstep
          have hne : ((x.1 : Int) != i) = false := by simpa using he
          have HST := Lib.hid hstep
          clear he hstep hM hx hsep
          go_wp2
          go_roundw
          case rel => exact ⟨k + 1, M, by simp, by omega, HST.out.symm, HS.out⟩
          case measure => simp [intOf]; omega
        · rw [if_pos (by simpa using he)] at hstep
          have hne : ((x.1 : Int) != i) = true := by simpa using he
          have HST := Lib.hid hstep
          have hown := (hsep.get 0 rfl : (ownT _ _ _ _ _ _).P _)
          have HO := Lib.hid (show wr.ownsRow w.heap.size 28 2 u8 M.length (flat M.length (entAt M)) from hown)
          have hz := hsep.size
          clear he hstep hM hx hsep hown
          go_wp2_with (at_builtin; (refine wpList_append2 _ _ 68 rfl rfl infoEntry Try.underlying68 rfl (by decide) rfl rfl (HO.out.alloc _) (news := [.int .i64 (x.1 : Int), .int .i64 x.2]) rfl (cell_two (u := .int .i64 (x.1 : Int)) (v := .int .i64 x.2) (ad := ⟨wr.heap.size, 0, none⟩) (World.cell?_alloc_at _ _ _ _ (by simp)) (World.cell?_alloc_at _ _ _ 1 (by simp))) (two_oneCell rfl rfl) (by unfold maxLen; omega) (by omega) (by simp; omega) ?_); intro v1 w1 hown1 hgr1 hnil1 hblk1; rw [flat_app] at hown1; have h4 := HS.out.own_append 0 rfl hown1 hgr1 hblk1; have H4 := Lib.hid h4; clear hown1 hgr1 hnil1 hblk1 h4)
          go_roundw
          case rel => exact ⟨k + 1, M ++ [x], by simp, by omega, HST.out.symm, by have := H4.out; simpa using this⟩
          case measure => simp [intOf]; omega
      · obtain rfl : k = len := by omega
        have hM2 : M = others L i := by rw [hM, ← HLL.out, List.take_length]
        obtain ⟨a4, c4, hu, h4⟩ := hsep.own_ents 0 rfl
        subst hu
        have HM := Lib.hid hM2
        have H4 := Lib.hid h4
        have h4r := (show EntsIn wr a4 M.length c4 M from h4.get 0 rfl)
        have q4 := h4r.hle
        have m4 := h4r.hmax
        clear hsep HS hM hM2 h4 h4r
        by_cases hge : 0 ≤ i
        · by_cases hlt2 : i < (k : Int)
          · rw [decide_eq_true hge, decide_eq_true hlt2] at hb
            simp only [Bool.and_self] at hb
            go_wp2_with (first
              | (go_at_call 21; refine (Sep.l4works H6.out).mono ?_; rintro r w7 ⟨rfl, h⟩; have H7 := Lib.hid h; clear h H6)
              | (go_at_call 43; refine (Sep.l4sameEq H5.out HM.out.symm (H5.out.get 0 rfl) (H5.out.get 1 rfl)).mono ?_; rintro r w6 ⟨rfl, h⟩; have H6 := Lib.hid h; clear h H5)
              | (go_at_call 42; refine (Sep.hListEq H4.out 2 rfl HF.out rfl).mono ?_; rintro r w5 ⟨a5, c5, rfl, q5, m5, h⟩; have H5 := Lib.hid h; clear h H4))
            go_ret
            exact ⟨by simp, H7.out.below⟩
          · rw [decide_eq_true hge, decide_eq_false hlt2] at hb
            simp only [Bool.and_false] at hb
            go_wp2_with (first
              | (go_at_call 21; refine (Sep.l4works H6.out).mono ?_; rintro r w7 ⟨rfl, h⟩; have H7 := Lib.hid h; clear h H6)
              | (go_at_call 43; refine (Sep.l4sameEq H5.out HM.out.symm (H5.out.get 0 rfl) (H5.out.get 1 rfl)).mono ?_; rintro r w6 ⟨rfl, h⟩; have H6 := Lib.hid h; clear h H5)
              | (go_at_call 42; refine (Sep.hListEq H4.out 2 rfl HF.out rfl).mono ?_; rintro r w5 ⟨a5, c5, rfl, q5, m5, h⟩; have H5 := Lib.hid h; clear h H4))
            go_ret
            exact ⟨by simp, H7.out.below⟩
        · rw [decide_eq_false hge] at hb
          simp only [Bool.false_and] at hb
          go_wp2_with (first
            | (go_at_call 21; refine (Sep.l4works H6.out).mono ?_; rintro r w7 ⟨rfl, h⟩; have H7 := Lib.hid h; clear h H6)
            | (go_at_call 43; refine (Sep.l4sameEq H5.out HM.out.symm (H5.out.get 0 rfl) (H5.out.get 1 rfl)).mono ?_; rintro r w6 ⟨rfl, h⟩; have H6 := Lib.hid h; clear h H5)
            | (go_at_call 42; refine (Sep.hListEq H4.out 2 rfl HF.out rfl).mono ?_; rintro r w5 ⟨a5, c5, rfl, q5, m5, h⟩; have H5 := Lib.hid h; clear h H4))
          go_ret
          exact ⟨by simp, H7.out.below⟩
  · clear hin
    go_enter Try.func15, Try.ntmps15
    go_wp2_with (go_at_call 21; refine (l4works_any _).mono ?_; rintro e w' ⟨rfl, hb⟩)
    go_ret
    exact ⟨by simp, by assumption⟩
end HeapRemoves
end Go.Proofs.Ytmlbacbcdjfioaa
