/- Rf35G: layer 35: the document's schedule: Due; nil ones. -/
import Derived.Test.YtmlbacbcdjfioaaRf35F
set_option linter.unusedSimpArgs false
set_option linter.unusedVariables false
namespace Go.Proofs.Ytmlbacbcdjfioaa
open Go.ChangeShapes Go.WideShapes Go.ChangeAt Go.RowKit

set_option maxHeartbeats 1000000
theorem xs35Set (w : World) (i x : Int) : Calls Try.prog 38 #[.pointer none, .int .i64 i, .int .i64 x] w fun r w' => r = .returned (.int .i64 1) ∧ w = w' := by
  go_enter Try.func38, Try.ntmps38
  go_wp2_with (go_at_call 68; refine (xs35Check _ _).mono ?_; rintro r wz ⟨rfl, rfl⟩)
  go_ret
  exact ⟨by simp, rfl⟩
theorem xs35Drop (w : World) (i : Int) : Calls Try.prog 39 #[.pointer none, .int .i64 i] w fun r w' => r = .returned (.int .i64 1) ∧ w = w' := by
  go_enter Try.func39, Try.ntmps39
  go_wp2_with (go_at_call 68; refine (xs35Check _ _).mono ?_; rintro r wz ⟨rfl, rfl⟩)
  go_ret
  exact ⟨by simp, rfl⟩
theorem xs35Due (w : World) (x : Int) : Calls Try.prog 40 #[.pointer none, .int .i64 x] w fun r w' => r = .returned (.slice none 0 0) ∧ w = w' := by
  go_enter Try.func40, Try.ntmps40
  go_wp2_with (go_at_call 71; refine (xs35Valid _).mono ?_; rintro r wz ⟨rfl, rfl⟩)
  go_ret
  exact ⟨by simp, rfl⟩
theorem xs35Copy (w : World) : Calls Try.prog 41 #[.pointer none] w fun r w' => r = .returned (.pointer none) ∧ w = w' := by
  go_enter Try.func41, Try.ntmps41
  go_wp2_with (go_at_call 71; refine (xs35Valid _).mono ?_; rintro r wz ⟨rfl, rfl⟩)
  go_ret
  exact ⟨by simp, rfl⟩

section
variable {w0 w : World} {l : List Thing} {i g n : Nat} {A : Hp} {L : List Ent} {bk : Option Nat}
theorem dropAt_zero (L : List Ent) (k : Nat) : dropAt (L.drop k) 0 = L.drop (k + 1) := by
  unfold dropAt
  rw [if_pos (by omega)]
  show (L.drop k).eraseIdx 0 = _
  rw [List.eraseIdx_zero, List.tail_drop]
def lenRef (w : World) (g : Nat) : Nat := match w.cell? ⟨g, 2, none⟩ with
  | some (.slice _ n _) => n
  | _ => 0
theorem lenRef_eq {B : Nat} {v : Value} (h : Ref35 B w g n v L) : lenRef w g = L.length := by
  obtain ⟨_, _, c2, _⟩ := row_three h.row
  obtain ⟨a, cap, rfl, _⟩ := h.list
  unfold lenRef
  rw [c2]
theorem nats_take {k : Nat} (hk : k < L.length) : (nats (L.take (k + 1))).map (Value.int .i64) = (nats (L.take k)).map (Value.int .i64) ++ [.int .i64 ((entAt L k).1 : Int)] := by
  unfold nats
  rw [List.take_succ_eq_append_getElem hk, entAt_eq hk]
  simp

set_option maxHeartbeats 2000000
set_option maxRecDepth 100000 in
theorem Sep.s35Due (h : Sep w0 w l) (hi : l[i]? = some (refT w0.heap.size g n L bk)) (hs : Srt A L) (ho : A.Ok) (ha : A.slots = n) (now : Int) (hnow : -9223372036854775808 ≤ now ∧ now ≤ 9223372036854775807) :
    Calls Try.prog 40 #[.pointer (some ⟨g, 0, none⟩), .int .i64 now] w fun r w' => ∃ a cap bk', r = .returned (.slice a (dueOf L now).length cap) ∧
      Sep w0 w' (intsT .i64 a (dueOf L now).length cap (nats (dueOf L now)) :: l.set i (refT w0.heap.size g n (lateOf L now) bk')) := by
  obtain ⟨v, hv, hr⟩ := (h.get i hi : (refT _ _ _ _ _).P _)
  have HV := Lib.hid (s35Valid_any hr)
  have hil : i < l.length := (List.getElem?_eq_some_iff.1 hi).1
  have HS := Lib.hid (h.same_at hi)
  have HA := Lib.hid (And.intro hs (And.intro ho ha))
  have hns := hr.ns
  have hll := hr.hl
  clear h hi hv hr hs ho ha
  go_enter Try.func40, Try.ntmps40
  go_wp2_with (go_at_call 71; refine HV.out.mono ?_; rintro r wz ⟨rfl, rfl⟩)
  go_loopw [5] (fun u wr => ∃ (k : Nat) (bk : Option Nat) (A : Hp), k ≤ L.length ∧ (∀ x ∈ L.take k, x.2 ≤ now) ∧ Srt A (L.drop k) ∧ A.Ok ∧ A.slots = n ∧
    Sep w0 wr (ownT w0.heap.size 3 1 k u ((nats (L.take k)).map (Value.int .i64)) :: l.set i (refT w0.heap.size g n (L.drop k) bk))) (fun _ wr => lenRef wr g)
  case atStart => exact ⟨0, bk, A, Nat.zero_le _, by simp, by simpa using HA.out.1, HA.out.2.1, HA.out.2.2, by
    have := HS.out.add (Below.refl _ _) (ownT w0.heap.size 3 1 0 (.slice none 0 0) []) (World.ownsRow_nil _ _ _ _) (by rintro q hq; simp [ownT, Value.ownBlock] at hq)
    simpa [nats] using this⟩
  case round =>
    obtain ⟨k, bk, A', hk, hdue, hs', ho', ha', hsep⟩ := hrel
    have hget : ∀ (x y : Thing), (x :: l.set i y)[i + 1]? = some y := fun x y => by simp [hil]
    have HGET := Lib.hid hget
    obtain ⟨v, hv, hr⟩ := (hsep.get (i + 1) (hget _ _) : (refT _ _ _ _ _).P _)
    obtain ⟨c0, c1, c2, cf, hg⟩ := row_three hr.row
    obtain ⟨a, cap, rfl, hcells⟩ := hr.list
    have HLR := Lib.hid (lenRef_eq hr)
    have own : wr.ownsRow w0.heap.size 3 1 u5 k ((nats (L.take k)).map (Value.int .i64)) := hsep.get 0 rfl
    have hz0 := hsep.size
    obtain ⟨R, hR⟩ : ∃ R, L.drop k = R := ⟨_, rfl⟩
    -- at the end
    have HEND := Lib.hid (fun (hlate : ∀ x ∈ R, now < x.2) => show ∃ a cap bk', u5 = .slice a (dueOf L now).length cap ∧ Sep w0 wr (intsT .i64 a (dueOf L now).length cap (nats (dueOf L now)) :: l.set i (refT w0.heap.size g n (lateOf L now) bk')) by
      obtain ⟨d1, d2⟩ := due_split now k hdue (by rw [hR]; exact hlate)
      have e1 : dueOf L now = L.take k := by unfold dueOf; exact d1.symm
      have e2 : lateOf L now = L.drop k := by unfold lateOf; exact d2.symm
      have hl : (L.take k).length = k := by simp; omega
      obtain ⟨a2, cap2, h1, h2⟩ := hsep.own_ints 0 rfl (fun x hx => by
        obtain ⟨y, hy, rfl⟩ := List.mem_map.1 hx
        have hlt := dueOf_lt HA.out.1 HA.out.2.1 now y (by rw [e1]; exact hy)
        simp [Lit.wf, IntKind.min, IntKind.max, IntKind.signed, IntKind.bits]; omega)
      rw [e1, e2, hl]
      exact ⟨a2, cap2, bk, h1, h2⟩)
    cases R with
    | nil =>
      rw [hR] at c2
      clear hcells hr hsep own hdue hs' ho' ha' hv hget
      go_wp2
      go_ret
      obtain ⟨a2, cap2, bk2, e, h2⟩ := HEND.out (fun x hx => by simp at hx)
      first | exact ⟨a2, cap2, bk2, by simp [e], h2⟩ | exact ⟨a2, cap2, by simp [e], bk2, h2⟩ | exact ⟨a2, cap2, congrArg Ending.returned e, bk2, h2⟩
    | cons y R' =>
      rw [hR] at c2 hcells HLR hs'
      obtain ⟨q, rfl, k0, k1⟩ := hcells 0 (by simp)
      simp only [entAt, List.getD_cons_zero, Nat.zero_mul, Nat.zero_add] at k0 k1
      have hlt : k < L.length := by
        have := congrArg List.length hR
        simp at this; omega
      have hy0 : entAt L k = y ∧ L.drop (k + 1) = R' := by
        rw [List.drop_eq_getElem_cons hlt, entAt_eq hlt] at hR
        exact List.cons.inj hR
      by_cases hy : y.2 ≤ now
      · have HSEP := Lib.hid hsep
        have HO := Lib.hid own
        have HY := Lib.hid hy0
        have HK := Lib.hid (And.intro hs' (And.intro ho' ha'))
        have HR0 := Lib.hid hR
        have HDUE := Lib.hid (show ∀ x ∈ L.take (k + 1), x.2 ≤ now by
          intro x hx
          rw [List.take_succ_eq_append_getElem hlt, entAt_eq hlt, hy0.1, List.mem_append] at hx
          rcases hx with hx | hx
          · exact hdue x hx
          · simp at hx; rw [hx]; exact hy)
        clear hcells hr hsep own hdue hs' ho' ha' hv hget hR hy0
        go_wp2_with (first
          | (go_at_call 69; refine (s35Without_any HR2.out 0 (by omega)).mono ?_; rintro r w2 ⟨v', rfl, hown, hb⟩; obtain ⟨av, cv, rfl, _⟩ := owns_slice hown; have hz2 := hb.size; have kg := hb.block g hg2; have c2y := (World.cell?_of_block (a := ⟨g, 2, none⟩) kg).trans c2x; have cfy := fun o => (World.frozen?_of_block (a := ⟨g, o, none⟩) kg).trans (cfx o); have H3 := Lib.hid (And.intro hown hb); clear hown hb kg)
          | (at_builtin; refine wpList_append2 _ _ 43 rfl rfl infoInt Try.underlying43 rfl (by decide) rfl rfl (HO.out.alloc _) (news := [.int .i64 (y.1 : Int)]) rfl (cell_one (ad := ⟨wr.heap.size, 0, none⟩) (World.cell?_alloc_at _ _ _ _ rfl)) (one_oneCell rfl) (by unfold maxLen; omega) (by omega) (by simp; omega) ?_; intro v1 w1 hown1 hgr1 hnil1 hblk1; have h1 := HSEP.out.own_append 0 rfl hown1 hgr1 hblk1; obtain ⟨v2, hv2, hr2⟩ := (h1.get (i + 1) (HGET.out _ _) : (refT _ _ _ _ _).P _); rw [HR0.out] at hr2; obtain ⟨c0x, c1x, c2x, cfx, hg2⟩ := row_three hr2.row; obtain ⟨a2, cap2, rfl, _⟩ := hr2.list; have HR2 := Lib.hid hr2; have H1 := Lib.hid h1; clear hown1 hgr1 hnil1 hblk1 h1 hr2 hv2 c0 c1 c2 cf))
        go_roundw
        all_goals
          have hd0 : dropAt (y :: R') 0 = R' := by simp [dropAt]
          have hsd : Srt (A'.del y.1) R' := HK.out.1.del_cons
          have h5 : Sep w0 (w2.setCell ⟨g, 2, none⟩ (.slice av R'.length cv)) (ownT w0.heap.size 3 1 (k + 1) v1 ((nats (L.take k)).map (Value.int .i64) ++ [.int .i64 (y.1 : Int)]) :: l.set i (refT w0.heap.size g n R' (Value.slice av R'.length cv).ownBlock)) := by
            have := H1.out.ref_store (HGET.out _ _) (L' := R') (v' := .slice av R'.length cv) (by rw [HR0.out]; exact HR2.out) H3.out.2 (by have := H3.out.1; rw [hd0] at this; exact this) hsd (Hp.del_ok HK.out.2.1 y.1) HK.out.2.2
            simpa using this
        case rel =>
          refine ⟨k + 1, (Value.slice av R'.length cv).ownBlock, A'.del y.1, by omega, HDUE.out, by rw [HY.out.2]; exact hsd, Hp.del_ok HK.out.2.1 y.1, HK.out.2.2, ?_⟩
          rw [nats_take hlt, HY.out.1, HY.out.2, hd0]
          exact h5
        case measure =>
          obtain ⟨v3, hv3, hr3⟩ := (h5.get (i + 1) (HGET.out _ _) : (refT w0.heap.size g n R' (Value.slice av R'.length cv).ownBlock).P _)
          rw [hd0, lenRef_eq hr3, HLR.out]
          simp
      · have hlate : ∀ x ∈ y :: R', now < x.2 := head_late hs'.ord (by omega)
        have HLATE := Lib.hid hlate
        clear hcells hr hsep own hdue hs' ho' ha' hv hget hR hy0 hlate
        go_wp2
        go_ret
        obtain ⟨a2, cap2, bk2, e, h2⟩ := HEND.out HLATE.out
        first | exact ⟨a2, cap2, bk2, by simp [e], h2⟩ | exact ⟨a2, cap2, by simp [e], bk2, h2⟩ | exact ⟨a2, cap2, congrArg Ending.returned e, bk2, h2⟩
end
end Go.Proofs.Ytmlbacbcdjfioaa
