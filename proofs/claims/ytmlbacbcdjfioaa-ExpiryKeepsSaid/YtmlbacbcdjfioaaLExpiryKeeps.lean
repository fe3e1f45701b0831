/- For every list of times and every time seepagelaw35.ExpiryKeeps returns true, and its arguments read as before. No condition. -/
import Derived.Test.YtmlbacbcdjfioaaExpT
import Derived.Test.YtmlbacbcdjfioaaClose
set_option linter.unusedSimpArgs false
set_option linter.unusedVariables false
namespace Go.Proofs.Ytmlbacbcdjfioaa
open Go.ChangeShapes Go.WideShapes Go.ChangeAt Go.RowKit
namespace ExpiryKeeps

/-- Which slots are among the first j. -/
def dueAt (D : List Ent) (j i : Nat) : Bool := decide (i ∈ (D.take j).map Prod.fst)
theorem dueAt_step {D : List Ent} {j : Nat} (hj : j < D.length) : (fun i => Value.bool (dueAt D (j + 1) i)) = fun i => if i = (entAt D j).1 then .bool true else .bool (dueAt D j i) := by
  funext i
  unfold dueAt
  rw [List.take_succ_eq_append_getElem hj, entAt_eq hj]
  by_cases h : i = (entAt D j).1
  · simp [h]
  · simp [h]
theorem nats_at {D : List Ent} {j : Nat} (hj : j < D.length) : (nats D).getD j 0 = ((entAt D j).1 : Int) := by
  unfold nats
  rw [← entAt_eq hj]
  simp [List.getD, hj]

structure Facts (A' : Hp) (zs : List Int) (len : Nat) (now : Int) (D M : List Ent) : Prop where
  keys : ∀ i, A'.keys i = if i < len ∧ now < zs.getD i 0 then some (zs.getD i 0) else none
  due : ∀ i, i < len → dueAt D D.length i = decide (zs.getD i 0 ≤ now)
  lt : ∀ j, j < D.length → (entAt D j).1 < 300
  sM : Srt A' M
  lM : M.length + D.length = len

theorem facts {A' : Hp} {zs : List Int} {len : Nat} {now : Int} {L : List Ent} (hL : Srt (Hp.upto zs len) L) (ho : (Hp.upto zs len).Ok) (hl : len ≤ 300) (h' : Srt A' (lateOf L now)) : Facts A' zs len now (dueOf L now) (lateOf L now) := by
  have hk : ∀ i, (Hp.upto zs len).keys i = if i < len then some (zs.getD i 0) else none := fun i => rfl
  have hmem : ∀ i, i ∈ (dueOf L now).map Prod.fst ↔ i < len ∧ zs.getD i 0 ≤ now := by
    intro i
    rw [List.mem_map]
    constructor
    · rintro ⟨x, hx, rfl⟩
      unfold dueOf at hx
      rw [List.mem_filter] at hx
      have h1 := (hL.mem x.1 x.2).2 hx.1
      rw [hk] at h1
      have h2 : x.2 ≤ now := by simpa using hx.2
      split at h1
      · rename_i h3
        simp only [Option.some.injEq] at h1
        exact ⟨h3, by rw [h1]; exact h2⟩
      · simp at h1
    · rintro ⟨h1, h2⟩
      refine ⟨(i, zs.getD i 0), ?_, rfl⟩
      unfold dueOf
      rw [List.mem_filter]
      refine ⟨(hL.mem i _).1 (by rw [hk, if_pos h1]), by simpa using h2⟩
  refine ⟨?_, ?_, ?_, h', ?_⟩
  · intro i
    rw [hL.late h' i, hk]
    by_cases h1 : i < len
    · by_cases h2 : now < zs.getD i 0 <;> simp only [h1, h2, if_true, and_self, true_and, if_false]
    · simp [h1]
  · intro i hi
    unfold dueAt
    rw [List.take_length, decide_eq_decide, hmem]
    exact ⟨fun h => h.2, fun h => ⟨hi, h⟩⟩
  · intro j hj
    have h1 : (entAt (dueOf L now) j).1 ∈ (dueOf L now).map Prod.fst := by
      rw [← entAt_eq hj]
      exact List.mem_map.2 ⟨_, List.getElem_mem hj, rfl⟩
    have := ((hmem _).1 h1).1
    omega
  · rw [← srt_upto_len hL ho]
    unfold lateOf dueOf
    clear hmem h' hk hL ho
    induction L with
    | nil => rfl
    | cons x L ih =>
      simp only [List.filter_cons]
      by_cases h : x.2 ≤ now
      · rw [if_neg (show ¬ (decide (now < x.2) = true) by simp; omega), if_pos (by simpa using h)]
        simp only [List.length_cons]; omega
      · rw [if_pos (show decide (now < x.2) = true by simp; omega), if_neg (by simpa using h)]
        simp only [List.length_cons]; omega

set_option maxHeartbeats 4000000
set_option maxRecDepth 100000 in
theorem walk (a : Option Addr) (len cap : Nat) (zs : List Int) (now : Int) (hnow : -9223372036854775808 ≤ now ∧ now ≤ 9223372036854775807) (w : World) (hin : IntsIn w .i64 a len cap zs) :
    Calls Try.prog 9 #[.slice a len cap, .int .i64 now] w fun e w' => e = .returned (.bool true) ∧ Below w.heap.size w w' := by
  have hle := hin.hle
  have hmax := hin.hmax
  by_cases hl : len ≤ 300
  · have HI := Lib.hid hin
    have ho := upto_ok35 hin hl
    obtain ⟨L, hL⟩ : ∃ L, Srt (Hp.upto zs len) L := ⟨_, Hp.sorted_srt ho⟩
    have HL := Lib.hid (And.intro hL ho)
    obtain ⟨D, hD⟩ : ∃ D, dueOf L now = D := ⟨_, rfl⟩
    obtain ⟨M, hM⟩ : ∃ M, lateOf L now = M := ⟨_, rfl⟩
    have hDl : D.length ≤ 300 := by
      rw [← hD]
      exact Nat.le_trans (List.length_filter_le _ _) (by rw [srt_upto_len hL ho]; exact hl)
    have HD := Lib.hid (And.intro hD (And.intro hM trivial))
    clear hin ho hL hD hM
    go_enter Try.func9, Try.ntmps9
    go_wp2_with (first
      | (at_make; refine wpList_makeN _ _ 26 rfl rfl infoBool35 Try.underlying26 _ _ _ _ 300 rfl rfl (by omega) (by omega) (by omega) (by unfold maxLen; omega) ?_; intro w3 hown hgr; have hb3 : Below w2.heap.size w2 w3 := (Below.refl _ _).grown hgr (Nat.le_refl _) (fun k hk => by simp at hk); have h3 := H2.out.add hb3 (rowT w2.heap.size 300 (fun i => .bool (dueAt D 0 i))) ⟨fun i hi => by rw [hown.cellAt _ (by omega), made_bool35 300 i hi]; simp [dueAt], hown.frozenAt, (hown.lt _ rfl).2⟩ (by rintro q rfl; exact Nat.le_refl _); have H3 := Lib.hid h3; clear hown hgr hb3 h3)
      | (go_at_call 32; refine (Sep.eDueEq H1.out 0 rfl HL.out.1 _ HD.out.1 HD.out.2.1).mono ?_; rintro r w2 ⟨a2, c2, A2, T2, rfl, hsl, hx2, _, h⟩; have HX2 := Lib.hid (And.intro hx2 hsl); have H2 := Lib.hid h; clear h hx2 hsl H1)
      | (go_at_call 29; refine (Sep.l35filled (Sep.start w) true HI.out hl).mono ?_; rintro r w1 ⟨e1, b1, S1, rfl, h⟩; have H1 := Lib.hid h; clear h))
    have HF := Lib.hid (show Facts A2 zs len now D M by
      have := facts (A' := A2) (now := now) HL.out.1 HL.out.2 hl (by rw [HD.out.2.1]; exact HX2.out.1)
      rwa [HD.out.1, HD.out.2.1] at this)
    go_loopw [4, 28] (fun u y wr => ∃ (j : Nat), u = .bool false ∧ y = .int .i64 j ∧ j ≤ D.length ∧ Sep w wr [rowT w2.heap.size 300 (fun i => .bool (dueAt D j i)), intsT .i64 a2 D.length c2 (nats D), schedT w.heap.size e1 b1 A2 T2]) (fun _ y _ => D.length - (intOf y).toNat)
    case atStart => exact ⟨0, rfl, rfl, Nat.zero_le _, H3.out⟩
    case round =>
      obtain ⟨j, rfl, rfl, hj, hsep⟩ := hrel
      by_cases hlt : j < D.length
      · obtain ⟨b0, off, ha, hb0, hc⟩ := (show IntsIn wr .i64 a2 D.length c2 (nats D) from hsep.get 1 rfl).hcell j hlt
        subst ha
        rw [nats_at hlt] at hc
        have hm := HF.out.lt j hlt
        obtain ⟨m, hme⟩ : ∃ m, (entAt D j).1 = m := ⟨_, rfl⟩
        have hstep := hsep.row_set 0 rfl (show m < 300 by omega) (.bool true)
        rw [← hme] at hstep
        have hrow := hsep.get 0 rfl
        have hs1 := hrow.1 m (by omega)
        have hs2 := hrow.2.1
        rw [hme] at hc hm
        have HST := Lib.hid (show Sep w (wr.setCell ⟨w2.heap.size, m, none⟩ (.bool true)) [rowT w2.heap.size 300 (fun i => .bool (dueAt D (j + 1) i)), intsT .i64 (some ⟨b0, off, none⟩) D.length c2 (nats D), schedT w.heap.size e1 b1 A2 T2] by
          rw [dueAt_step hlt, ← hme]; exact hstep)
        clear hsep hrow hstep hme
        go_wp2
        go_roundw
        case rel => exact ⟨j + 1, rfl, by simp, by omega, HST.out⟩
        case measure => simp [intOf]; omega
      · obtain rfl : j = D.length := by omega
        have HS := Lib.hid hsep
        clear hsep hj hlt
        go_wp2
        have h0 : Sep w wr [rowT w2.heap.size 300 (fun i => .bool (dueAt D D.length i)), intsT .i64 a2 D.length c2 (nats D), schedT w.heap.size e1 b1 A2 T2] := HS.out
        have HS0 := Lib.hid h0
        clear h0 HS
        obtain ⟨wo, hwo⟩ : ∃ wo : World, wo = wr := ⟨_, rfl⟩
        go_loopw [4, 44] (fun u y wr => ∃ (j : Nat) (S : Nat → Prop), u = .bool false ∧ y = .int .i64 j ∧ j ≤ len ∧ Sep w wr [rowT w2.heap.size 300 (fun i => .bool (dueAt D D.length i)), intsT .i64 a2 D.length c2 (nats D), schedT w.heap.size e1 b1 A2 S]) (fun _ y _ => len - (intOf y).toNat)
        case atStart => exact ⟨0, T2, rfl, rfl, Nat.zero_le _, HS0.out⟩
        case round =>
          obtain ⟨j, S, rfl, rfl, hj, hsep⟩ := hrel
          have hslots : A2.slots = 300 := HX2.out.2
          by_cases hlt : j < len
          · obtain ⟨b0, off, ha, hb0, hc⟩ := HI.out.hcell j hlt
            have hwf := wf_i64 (HI.out.getD_wf j hlt)
            have hc2 := (hsep.below.cell (p := ⟨b0, off + j, none⟩) hb0).trans hc
            have hrow := hsep.row 0 rfl (show j < 300 by omega)
            have hkj := HF.out.keys j
            have hdj := HF.out.due j hlt
            obtain ⟨z, hz⟩ : ∃ z, zs.getD j 0 = z := ⟨_, rfl⟩
            rw [hz] at hc2 hkj hdj hwf
            simp only [hlt, true_and] at hkj
            have HS := Lib.hid hsep
            have hslen : j < A2.slots := by omega
            have hjs : ((j : Int)).toNat = j := by simp
            by_cases hzn : z ≤ now
            · have hkn : A2.keys j = none := by rw [hkj, if_neg (by omega)]
              have hdt : dueAt D D.length j = true := by rw [hdj]; simpa using hzn
              rw [hdt] at hrow
              have HDT := Lib.hid hdt
              have HR := Lib.hid (Hp.remE_none hslen hkn)
              have HL2 := Lib.hid (show A2.leftR (j : Int) 0 = (0, 5) by
                have := (Hp.remE_none hslen hkn).1
                unfold Hp.leftR; rw [if_neg (by omega), this])
              subst ha
              clear hsep hkj hdj hkn hdt hc hz hslen
              go_wp2_with (first
                | (go_at_call 35; refine (Sep.eDrop H5.out 2 rfl _).mono ?_; rintro r w6 ⟨rfl, S6, h⟩; rw [HR.out.2] at h; rw [HR.out.1]; have h6r := Sep.row h 0 rfl (show j < 300 by omega); rw [HDT.out] at h6r; have H6 := Lib.hid h; clear h H5)
                | (go_at_call 34; refine (Sep.eLeft HS.out 2 rfl _ 0 (by omega)).mono ?_; rintro r w5 ⟨rfl, S5, h⟩; rw [HL2.out]; simp only [leftV]; have h5r := Sep.row h 0 rfl (show j < 300 by omega); rw [HDT.out] at h5r; have H5 := Lib.hid h; clear h HS))
              go_roundw
              case rel => exact ⟨j + 1, S6, rfl, by simp, by omega, H6.out⟩
              case measure => simp [intOf]; omega
            · have hkn : A2.keys j = some z := by rw [hkj, if_pos (by omega)]
              have hdt : dueAt D D.length j = false := by rw [hdj]; simpa using hzn
              rw [hdt] at hrow
              have HDT := Lib.hid hdt
              have HL2 := Lib.hid (show A2.leftR (j : Int) 0 = (z, 0) by
                have h1 : A2.keyAt (j : Int) = some z := by unfold Hp.keyAt; rw [if_pos (by omega), hjs, hkn]
                unfold Hp.leftR; rw [if_pos (Hp.remE_some hslen hkn).1, h1]
                show subR z 0 = (z, 0)
                unfold subR; rw [if_pos (by omega)]; simp)
              have hzmin : -9223372036854775808 < z := by omega
              subst ha
              clear hsep hkj hdj hkn hdt hc hz hslen
              go_wp2_with (first
                | (go_at_call 34; refine (Sep.eLeft HS.out 2 rfl _ 0 (by omega)).mono ?_; rintro r w5 ⟨rfl, S5, h⟩; rw [HL2.out]; simp only [leftV]; have h5r := Sep.row h 0 rfl (show j < 300 by omega); rw [HDT.out] at h5r; have H5 := Lib.hid h; clear h HS))
              go_roundw
              case rel => exact ⟨j + 1, S5, rfl, by simp, by omega, H5.out⟩
              case measure => simp [intOf]; omega
          · have hlM := HF.out.lM
            have hq : ((M.length : Int) == (len : Int) - (D.length : Int)) = true := by simp; omega
            have HS := Lib.hid hsep
            clear hsep hlM
            go_wp2_with (first
              | (go_at_call 28; refine (Sep.l35works HS.out).mono ?_; rintro r w9 ⟨rfl, h⟩; have H9 := Lib.hid h; clear h)
              | (go_at_call 30; refine (Sep.eLen HS.out 2 rfl HF.out.sM).mono ?_; rintro r wz ⟨rfl, rfl⟩))
            go_ret
            exact ⟨by simp, H9.out.below⟩
  · clear hin
    go_enter Try.func9, Try.ntmps9
    go_wp2_with (go_at_call 28; refine (l35works_any _).mono ?_; rintro e w' ⟨rfl, hb⟩)
    go_ret
    exact ⟨by simp, by assumption⟩
end ExpiryKeeps
end Go.Proofs.Ytmlbacbcdjfioaa
