/- For every list of times and every two numbers seepagelaw35.ExpiryMoves returns true, and its arguments read as before. No condition. -/
import Derived.Test.YtmlbacbcdjfioaaExpT
import Derived.Test.YtmlbacbcdjfioaaClose
set_option linter.unusedSimpArgs false
set_option linter.unusedVariables false
namespace Go.Proofs.Ytmlbacbcdjfioaa
open Go.ChangeShapes Go.WideShapes Go.ChangeAt Go.RowKit
namespace ExpiryMoves

def mv (by_ : Int) (L : List Ent) : List Ent := L.map fun x => (x.1, x.2 + by_)
theorem mv_srt {zs : List Int} {len : Nat} {L : List Ent} (h : Srt (Hp.upto zs len) L) (by_ : Int) (hl : zs.length = len) : Srt (Hp.upto (zs.map (· + by_)) len) (mv by_ L) := by
  have hk : ∀ i, (Hp.upto zs len).keys i = if i < len then some (zs.getD i 0) else none := fun i => rfl
  refine ⟨?_, ?_⟩
  · intro i v
    have h1 : (Hp.upto (zs.map (· + by_)) len).keys i = some v ↔ (Hp.upto zs len).keys i = some (v - by_) := by
      simp only [Hp.upto]
      by_cases hi : i < len
      · have e : (zs.map (· + by_)).getD i 0 = zs.getD i 0 + by_ := by
          simp [List.getD, List.getElem?_eq_getElem (show i < zs.length by omega)]
        rw [if_pos hi, if_pos hi, e]
        simp only [Option.some.injEq]; omega
      · rw [if_neg hi, if_neg hi]; simp
    rw [h1, h.mem]
    unfold mv
    rw [List.mem_map]
    constructor
    · intro hm; exact ⟨_, hm, by simp⟩
    · rintro ⟨x, hx, e⟩
      have e1 : i = x.1 := (congrArg Prod.fst e).symm
      have e2 : v - by_ = x.2 := by have := congrArg Prod.snd e; simp at this; omega
      rw [e1, e2]; exact hx
  · unfold mv
    rw [List.pairwise_map]
    refine h.ord.imp ?_
    intro x y hb
    rw [before_iff] at hb ⊢
    simp only
    omega
theorem mv_due (by_ now : Int) (L : List Ent) : nats (dueOf (mv by_ L) (now + by_)) = nats (dueOf L now) := by
  induction L with
  | nil => rfl
  | cons x L ih =>
    unfold nats dueOf mv at *
    simp only [List.map_cons, List.filter_cons]
    by_cases h : x.2 ≤ now
    · rw [if_pos (by simp; omega), if_pos (by simpa using h), List.map_cons, List.map_cons, ih]
    · rw [if_neg (by simp; omega), if_neg (by simpa using h), ih]
theorem left_of {zs : List Int} {len j : Nat} {now : Int} (hj : j < len) (hl : len ≤ 300) (hf : -9223372036854775808 ≤ zs.getD j 0 - now ∧ zs.getD j 0 - now ≤ 9223372036854775807) : (Hp.upto zs len).leftR (j : Int) now = (zs.getD j 0 - now, 0) := by
  have hk : (Hp.upto zs len).keys j = some (zs.getD j 0) := by simp only [Hp.upto]; rw [if_pos hj]
  have h1 : (Hp.upto zs len).keyAt (j : Int) = some (zs.getD j 0) := by unfold Hp.keyAt; rw [if_pos (by omega)]; simpa using hk
  unfold Hp.leftR
  rw [if_pos (Hp.remE_some (show j < 300 by omega) hk).1, h1]
  show subR _ _ = _
  unfold subR
  rw [if_pos hf]

theorem infoI64 : (Try.prog.info? 2).map (fun i => (i.zero, i.size, i.bytes)) = some (some (.int .i64 0), 1, 8) := by kernel_rfl

set_option maxHeartbeats 4000000
set_option maxRecDepth 100000 in
theorem walk (a : Option Addr) (len cap : Nat) (zs : List Int) (bv : Int) (hbv : -2147483648 ≤ bv ∧ bv ≤ 2147483647) (now : Int) (hnow : -2147483648 ≤ now ∧ now ≤ 2147483647) (w : World) (hin : IntsIn w .i32 a len cap zs) :
    Calls Try.prog 7 #[.slice a len cap, .int .i32 bv, .int .i32 now] w fun e w' => e = .returned (.bool true) ∧ Below w.heap.size w w' := by
  have hle := hin.hle
  have hmax := hin.hmax
  have hzl := hin.hlen
  by_cases hl : len ≤ 300
  · have HI := Lib.hid hin
    have HZL := Lib.hid hzl
    clear hin hzl
    go_enter Try.func7, Try.ntmps7
    go_wp2
    go_loopw [7, 8, 24] (fun u v y wr => ∃ (j : Nat), y = .int .i64 j ∧ j ≤ len ∧ Sep w wr [ownT w.heap.size 2 1 j u ((zs.take j).map (Value.int .i64)), ownT w.heap.size 2 1 j v (((zs.map (· + bv)).take j).map (Value.int .i64))]) (fun _ _ y _ => len - (intOf y).toNat)
    case atStart =>
      have h := ((Sep.start w).add (Below.refl _ _) (ownT w.heap.size 2 1 0 (.slice none 0 0) []) (World.ownsRow_nil _ _ _ _) (by rintro q hq; simp [ownT, Value.ownBlock] at hq)).add (Below.refl _ _) (ownT w.heap.size 2 1 0 (.slice none 0 0) []) (World.ownsRow_nil _ _ _ _) (by rintro q hq; simp [ownT, Value.ownBlock] at hq)
      exact ⟨0, rfl, Nat.zero_le _, by simpa using h⟩
    case round =>
      obtain ⟨j, rfl, hj, hsep⟩ := hrel
      by_cases hlt : j < len
      · obtain ⟨b0, off, rfl, hb0, hc⟩ := HI.out.hcell j hlt
        have hwf := wf_i32 (HI.out.getD_wf j hlt)
        have hc2 := (hsep.below.cell (p := ⟨b0, off + j, none⟩) hb0).trans hc
        obtain ⟨z, hz⟩ : ∃ z, zs.getD j 0 = z := ⟨_, rfl⟩
        rw [hz] at hc2 hwf
        have HT := Lib.hid (show (zs.take (j + 1)).map (Value.int .i64) = (zs.take j).map (Value.int .i64) ++ [.int .i64 z] ∧ ((zs.map (· + bv)).take (j + 1)).map (Value.int .i64) = ((zs.map (· + bv)).take j).map (Value.int .i64) ++ [.int .i64 (z + bv)] by
          have hjl : j < zs.length := by rw [HZL.out]; exact hlt
          have e : zs[j] = z := by rw [← hz]; simp [List.getD, hjl]
          rw [List.take_succ_eq_append_getElem hjl, List.take_succ_eq_append_getElem (show j < (zs.map (· + bv)).length by simpa using hjl)]
          simp [e])
        have own1 : wr.ownsRow w.heap.size 2 1 u7 j ((zs.take j).map (Value.int .i64)) := hsep.get 0 rfl
        have hz0 := hsep.size
        have HO1 := Lib.hid own1
        have HS := Lib.hid hsep
        clear hsep hc hz own1
        go_wp2_with (first
          | (at_builtin; have _t := tok2; refine wpList_append2 (.tmp 33) (.tmp 39) 22 rfl rfl infoI64 Try.underlying22 rfl (by decide) rfl rfl ((show w1.ownsRow w.heap.size 2 1 u8 j (((zs.map (· + bv)).take j).map (Value.int .i64)) from H1.out.get 1 rfl).alloc _) (news := [.int .i64 (z + bv)]) rfl (cell_one (ad := ⟨w1.heap.size, 0, none⟩) (World.cell?_alloc_at _ _ _ _ rfl)) (one_oneCell rfl) (by unfold maxLen; omega) (by omega) (by simp; omega) ?_; intro v2 w2 hown2 hgr2 hnil2 hblk2; have h2 := H1.out.own_append 1 rfl hown2 hgr2 hblk2; have H2 := Lib.hid h2; clear hown2 hgr2 hnil2 hblk2 h2 H1 tok2)
          | (at_builtin; refine wpList_append2 (.tmp 28) (.tmp 31) 22 rfl rfl infoI64 Try.underlying22 rfl (by decide) rfl rfl (HO1.out.alloc _) (news := [.int .i64 z]) rfl (cell_one (ad := ⟨wr.heap.size, 0, none⟩) (World.cell?_alloc_at _ _ _ _ rfl)) (one_oneCell rfl) (by unfold maxLen; omega) (by omega) (by simp; omega) ?_; intro v1 w1 hown1 hgr1 hnil1 hblk1; have h1 := HS.out.own_append 0 rfl hown1 hgr1 hblk1; have hz1 := h1.size; have tok2 := trivial; have H1 := Lib.hid h1; clear hown1 hgr1 hnil1 hblk1 h1 HS HO1))
        go_roundw
        case rel => exact ⟨j + 1, by simp, by omega, by rw [HT.out.1, HT.out.2]; exact H2.out⟩
        case measure => simp [intOf]; omega
      · obtain rfl : j = len := by omega
        have e1 : zs.take j = zs := List.take_of_length_le (by rw [HZL.out]; exact Nat.le_refl _)
        have e2 : (zs.map (· + bv)).take j = zs.map (· + bv) := List.take_of_length_le (by simp [HZL.out])
        rw [e1, e2] at hsep
        have hwf : ∀ x ∈ zs, (Lit.int .i64 x).wf = true ∧ -2147483648 ≤ x ∧ x ≤ 2147483647 := by
          intro x hx
          have := wf_i32 (HI.out.hwf x hx)
          exact ⟨by simp [Lit.wf, IntKind.min, IntKind.max, IntKind.signed, IntKind.bits]; omega, by omega⟩
        obtain ⟨a1, c1, rfl, hsep⟩ := hsep.own_ints 0 rfl (fun x hx => (hwf x hx).1)
        obtain ⟨a2, c2, rfl, hsep⟩ := hsep.own_ints 1 rfl (fun x hx => by
          obtain ⟨y, hy, rfl⟩ := List.mem_map.1 hx
          have := (hwf y hy).2
          simp [Lit.wf, IntKind.min, IntKind.max, IntKind.signed, IntKind.bits]; omega)
        have hs0 : Sep w wr [intsT .i64 a1 j c1 zs, intsT .i64 a2 j c2 (zs.map (· + bv))] := hsep
        have i1 : IntsIn wr .i64 a1 j c1 zs := hs0.get 0 rfl
        have i2 : IntsIn wr .i64 a2 j c2 (zs.map (· + bv)) := hs0.get 1 rfl
        have hoA := upto_ok35 i1 hl
        have hoB := upto_ok35 i2 hl
        obtain ⟨L, hL⟩ : ∃ L, Srt (Hp.upto zs j) L := ⟨_, Hp.sorted_srt hoA⟩
        have HL := Lib.hid (And.intro hL (And.intro hoA hoB))
        have HI1 := Lib.hid i1
        have HS := Lib.hid hs0
        have HLB := Lib.hid (mv_srt hL bv HZL.out)
        clear hsep hs0 i1 i2 hoA hoB hL e1 e2 hwf hlt hj
        go_wp2_with (first
          | (go_at_call 29; have _t := tok2; refine (Sep.l35filled H1.out false (H1.out.get 2 rfl : IntsIn _ _ _ _ _ _) hl).mono ?_; rintro r w2 ⟨e2, b2, S2, rfl, h⟩; have H2 := Lib.hid h; clear h H1 tok2)
          | (go_at_call 29; refine (Sep.l35filled HS.out false HI1.out hl).mono ?_; rintro r w1 ⟨e1, b1, S1, rfl, h⟩; have tok2 := trivial; have H1 := Lib.hid h; clear h HS))
        go_loopw [6, 54] (fun u y wr => ∃ (i : Nat) (S1 S2 : Nat → Prop), u = .bool false ∧ y = .int .i64 i ∧ i ≤ j ∧ Sep w wr [schedT w.heap.size e2 b2 (Hp.upto (zs.map (· + bv)) j) S2, schedT w.heap.size e1 b1 (Hp.upto zs j) S1, intsT .i64 a1 j c1 zs, intsT .i64 a2 j c2 (zs.map (· + bv))]) (fun _ y _ => j - (intOf y).toNat)
        case atStart => exact ⟨0, S1, S2, rfl, rfl, Nat.zero_le _, H2.out⟩
        case round =>
          obtain ⟨i, T1, T2, rfl, rfl, hi, hsep⟩ := hrel
          by_cases hlt : i < j
          · obtain ⟨b0, off, ha, hb0, hc⟩ := (show IntsIn wr .i64 a1 j c1 zs from hsep.get 2 rfl).hcell i hlt
            have hwf := wf_i32 (HI.out.getD_wf i hlt)
            have hm : (zs.map (· + bv)).getD i 0 = zs.getD i 0 + bv := by
              have : i < zs.length := by rw [HZL.out]; exact hlt
              simp [List.getD, this]
            have hA := left_of (zs := zs) (now := now) hlt hl (by omega)
            have hB := left_of (zs := zs.map (· + bv)) (now := now + bv) hlt hl (by rw [hm]; omega)
            rw [hm] at hB
            obtain ⟨z, hz⟩ : ∃ z, zs.getD i 0 = z := ⟨_, rfl⟩
            rw [hz] at hc hwf hA hB
            rw [show z + bv - (now + bv) = z - now by omega] at hB
            have HA := Lib.hid hA
            have HB := Lib.hid hB
            have HS2 := Lib.hid hsep
            have HZ := Lib.hid hz
            subst ha
            clear hsep hA hB hm hz
            go_wp2_with (first
              | (go_at_call 34; refine (Sep.eLeft H5.out 0 rfl _ _ (by omega)).mono ?_; rintro r w6 ⟨rfl, S6, h⟩; rw [HB.out]; simp only [leftV]; have hc6 : w6.cell? ⟨b0, off + i, none⟩ = some (.int .i64 z) := (by obtain ⟨b', o', ha', _, hc'⟩ := (show IntsIn w6 .i64 (some ⟨b0, off, none⟩) j c1 zs from h.get 2 rfl).hcell i hlt; simp only [Option.some.injEq, Addr.mk.injEq] at ha'; obtain ⟨rfl, rfl, _⟩ := ha'; rw [hc', HZ.out]); have H6 := Lib.hid h; clear h H5)
              | (go_at_call 34; refine (Sep.eLeft HS2.out 1 rfl _ now (by omega)).mono ?_; rintro r w5 ⟨rfl, S5, h⟩; rw [HA.out]; simp only [leftV]; have H5 := Lib.hid h; clear h HS2))
            go_roundw
            case rel => exact ⟨i + 1, S5, S6, rfl, by simp, by omega, H6.out⟩
            case measure => simp [intOf]; omega
          · obtain rfl : i = j := by omega
            have HS2 := Lib.hid hsep
            clear hsep hlt hi
            go_wp2_with (first
              | (go_at_call 28; refine (Sep.l35works H7.out).mono ?_; rintro r w8 ⟨rfl, h⟩; have H8 := Lib.hid h; clear h)
              | (go_at_call 33; refine (Sep.l35sameEq H6.out (mv_due bv now L).symm (H6.out.get 1 rfl : IntsIn _ _ _ _ _ _) (H6.out.get 0 rfl : IntsIn _ _ _ _ _ _)).mono ?_; rintro r w7 ⟨rfl, h⟩; have H7 := Lib.hid h; clear h H6)
              | (go_at_call 32; have _t := tok6; refine (Sep.eDue H5.out 1 rfl HLB.out (now + bv)).mono ?_; rintro r w6 ⟨a6, c6, A6, T6, rfl, _, _, _, h⟩; have H6 := Lib.hid h; clear h H5 tok6)
              | (go_at_call 32; refine (Sep.eDue HS2.out 1 rfl HL.out.1 now).mono ?_; rintro r w5 ⟨a5, c5, A5, T5, rfl, _, _, _, h⟩; have tok6 := trivial; have H5 := Lib.hid h; clear h HS2))
            go_ret
            exact ⟨by simp, H8.out.below⟩
  · clear hin
    go_enter Try.func7, Try.ntmps7
    go_wp2_with (go_at_call 28; refine (l35works_any _).mono ?_; rintro e w' ⟨rfl, hb⟩)
    go_ret
    exact ⟨by simp, by assumption⟩
end ExpiryMoves
end Go.Proofs.Ytmlbacbcdjfioaa
