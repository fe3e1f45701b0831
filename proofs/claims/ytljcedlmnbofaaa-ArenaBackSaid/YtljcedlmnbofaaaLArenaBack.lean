/- seepagelaw02.ArenaBack returns true for all numbers and every list of numbers; its arguments read as before. No condition. -/
import Derived.Test.YtljcedlmnbofaaaL2BackP
namespace Go.Proofs.Ytljcedlmnbofaaa
open Go.ChangeShapes Go.WideShapes Go.ChangeAt Go.RowKit
namespace ArenaBack

structure BRel (w w1 wr : World) (b lb n m : Nat) (v : Value) (f : List Nat) (j : Nat) : Prop where
  ar : AIn w wr b lb (Ar.back n m f j)
  own : wr.ownsRow w1.heap.size 3 1 v f.length (ints f)
  lt : ∀ x ∈ f, x < m
  nd : f.Nodup
  b1 : b < w1.heap.size
  l1 : lb < w1.heap.size
  sz : w1.heap.size ≤ wr.heap.size

theorem BRel.app {w w1 wr w2 w3 : World} {b lb n m : Nat} {v v' : Value} {f : List Nat} (h : BRel w w1 wr b lb n m v f f.length) {i : Nat} (him : i < m) (hif : i ∉ f)
    (ha : AIn w w2 b lb ((Ar.back n m f f.length).freed i)) (hu : Upd (fun k => k = b ∨ k = lb) wr w2) {o : Obj}
    (hown : w3.ownsRow w1.heap.size 3 1 v' (f.length + 1) (ints f ++ [.int .i64 i])) (hgr : (w2.alloc o).grownBy w3 v.ownBlock) : BRel w w1 w3 b lb n m v' (f ++ [i]) (f ++ [i]).length := by
  have hv : ∀ k, v.ownBlock = some k → w1.heap.size ≤ k := fun k hk => (h.own.lt k hk).1
  have u3 : Upd (fun k => v.ownBlock = some k) w2 w3 := ((Upd.refl _ w2).alloc o).grown hgr (fun k hk _ => hk)
  have hb1 := h.b1
  have hl1 := h.l1
  have hb := h.ar.hb
  refine ⟨?_, ?_, ?_, ?_, hb1, hl1, Nat.le_trans h.sz (Nat.le_trans hu.size u3.size)⟩
  · rw [← Ar.back_freed]
    exact ha.upd u3 (fun k hk => by have := hv k hk; omega)
  · simpa [ints] using hown
  · intro x hx
    rcases List.mem_append.1 hx with hx | hx
    · exact h.lt x hx
    · simp at hx; omega
  · rw [List.nodup_append]
    refine ⟨h.nd, by simp, ?_⟩
    intro a ha b hb e
    simp at hb
    exact hif (by rw [← hb, ← e]; exact ha)

theorem BRel.step {w w1 wr w' : World} {b lb n m : Nat} {v : Value} {f : List Nat} {j j' : Nat} (h : BRel w w1 wr b lb n m v f j) (ha : AIn w w' b lb (Ar.back n m f j')) (hu : Upd (fun k => k = b ∨ k = lb) wr w') : BRel w w1 w' b lb n m v f j' := by
  have hb1 := h.b1
  have hl1 := h.l1
  exact ⟨ha, owns_upd h.own hu (fun g hg => by omega), h.lt, h.nd, hb1, hl1, Nat.le_trans h.sz hu.size⟩

set_option maxRecDepth 100000 in
set_option maxHeartbeats 2000000 in
theorem walk (slots : Nat) (hs : slots < 65536) (used : Nat) (hs2 : used < 65536) (a : Option Addr) (len cap : Nat) (zs : List Int) (w : World) (hin : IntsIn w .u16 a len cap zs) :
    Calls Try.prog 4 #[.int .u16 slots, .int .u16 used, .slice a len cap] w fun e w' => e = .returned (.bool true) ∧ Below w.heap.size w w' := by
  have HP := Lib.hid (l2made_any slots used hs hs2 w)
  have HIN := Lib.hid hin
  have hle := hin.hle
  have hmax := hin.hmax
  clear hin
  go_enter Try.func4, Try.ntmps4
  go_wp2_with fail
  refine HP.out.mono ?_
  rintro e w1 ⟨b, lb, n, m, rfl, ha, hn, hm⟩
  have hn1 : 1 ≤ n ∧ n ≤ 300 := by omega
  have hmn : m ≤ n := by have := Nat.mod_lt used (show 0 < n + 1 by omega); omega
  clear hn hm
  have HR0 := Lib.hid (show BRel w w1 w1 b lb n m (.slice none 0 0) [] 0 from ⟨by rw [← Ar.back_start]; exact ha, by simpa [ints] using World.ownsRow_nil w1 w1.heap.size 3 1, by simp, by simp, ha.ar.b_lt, ha.hlt, Nat.le_refl _⟩)
  have HB1 := Lib.hid ha.bel
  clear ha
  go_wp2
  go_loopw [10, 11] (fun v vk wr => ∃ k : Nat, ∃ f : List Nat, k ≤ len ∧ k ≤ 300 ∧ f.length ≤ k ∧ vk = .int .i64 k ∧ BRel w w1 wr b lb n m v f f.length) (fun _ vk _ => 300 - (intOf vk).toNat)
  case atStart => exact ⟨0, [], Nat.zero_le _, Nat.zero_le _, Nat.le_refl _, rfl, HR0.out⟩
  case round =>
    obtain ⟨k, f, hk1, hk2, hfl, rfl, hrel⟩ := hrel
    have HR := Lib.hid hrel
    clear hrel
    by_cases hlt : k < len ∧ k < 300 ∧ 0 < m
    · obtain ⟨h1, h2, h3⟩ := hlt
      obtain ⟨bi, oi, rfl, hbi, hci⟩ := HIN.out.hcell k h1
      have hwf := HIN.out.getD_wf k h1
      have hx := wf_u16 hwf
      have hci2 : wr.cell? ⟨bi, oi + k, none⟩ = some (.int .u16 (zs.getD k 0)) := (HR.out.ar.bel.cell (p := ⟨bi, oi + k, none⟩) hbi).trans hci
      clear hci hwf
      generalize zs.getD k 0 = x at *
      obtain ⟨y, rfl⟩ := Int.eq_ofNat_of_zero_le hx.1
      obtain ⟨i, hi⟩ : ∃ i, i = y % m := ⟨_, rfl⟩
      have him : i < m := by rw [hi]; exact Nat.mod_lt _ h3
      have hmd : ((y : Int) % (m : Int)) = (i : Int) := by rw [hi]; simp
      clear hi
      have hused := Ar.back_used n m f i him
      by_cases hif : i ∈ f
      · have hu : (Ar.back n m f f.length).used i = false := by rw [hused]; simp [hif]
        have HU := Lib.hid (HR.out.ar.isUsed (i : Int) (show (Ar.back n m f f.length).usedAt (i : Int) = false by simp [Ar.usedAt, hu]))
        have HF := Lib.hid (aFree_unused HR.out.ar.ar i (show i < n by omega) hu)
        clear hused hu hif
        go_wp2_with (first
          | (go_at_call 15; refine HU.out.mono ?_; rintro e w2 ⟨rfl, rfl⟩)
          | (go_at_call 16; refine HF.out.mono ?_; rintro e w2 ⟨rfl, rfl⟩))
        go_roundw
        case rel => exact ⟨k + 1, f, by omega, by omega, by omega, by simp, HR.out⟩
        case measure => simp [intOf]; omega
      · have hu : (Ar.back n m f f.length).used i = true := by rw [hused]; simp [hif]
        have HU := Lib.hid (HR.out.ar.isUsed (i : Int) (show (Ar.back n m f f.length).usedAt (i : Int) = true by simp [Ar.usedAt, hu]))
        have HF := Lib.hid (HR.out.ar.free hu)
        have HIF := Lib.hid hif
        have HFR := Lib.hid (Ar.back_freed n m f i)
        have hsz := HR.out.sz
        clear hused hu hif
        go_wp2_with (first
          | (go_at_call 15; refine HU.out.mono ?_; rintro e w2 ⟨rfl, rfl⟩)
          | (go_at_call 16; refine HF.out.mono ?_; rintro e w2 ⟨rfl, ha2, hu2⟩; have hsz2 := hu2.size; have HA2 := Lib.hid ha2; have HU2 := Lib.hid hu2; have hown := owns_upd HR.out.own hu2 (fun g hg => by have := HR.out.b1; have := HR.out.l1; omega); clear ha2 hu2)
          | (at_builtin; refine wpList_append1 _ _ 32 rfl rfl infoInt Try.underlying32 rfl (by decide) rfl rfl (hown.alloc _) rfl (cell_one (u := .int .i64 i) (ad := ⟨w2.heap.size, 0, none⟩) (by simp)) (one_oneCell rfl) (by unfold maxLen; omega) (by omega) (by simp; omega) ?_; intro v' w3 hown3 hgr3 _))
        have HR3 := Lib.hid (HR.out.app him HIF.out HA2.out HU2.out hown3 hgr3)
        clear hown hown3 hgr3
        go_roundw
        case rel => exact ⟨k + 1, f ++ [i], by omega, by omega, by simp; omega, by simp, HR3.out⟩
        case measure => simp [intOf]; omega
    · have hc : ¬ k < len ∨ (k < len ∧ ¬ k < 300) ∨ (k < len ∧ k < 300 ∧ ¬ 0 < m) := by omega
      rcases hc with hc | ⟨hc, hc2⟩ | ⟨hc, hc2, hc3⟩
      all_goals
        obtain ⟨av, cv, rfl, hav, hiv⟩ := ints_of_owns HR.out.own (fun x hx => by have := HR.out.lt x hx; omega)
        have hfl2 : f.length ≤ 300 := by omega
        have hcv := hiv.hle
        have hcm := hiv.hmax
        have HLT := Lib.hid HR.out.lt
        have HND := Lib.hid HR.out.nd
        clear hav hiv
        go_wp2
        go_loopw [15] (fun vk wr => ∃ j : Nat, j ≤ f.length ∧ vk = .int .i64 ((j : Int) - 1) ∧ BRel w w1 wr b lb n m (.slice av f.length cv) f j) (fun vk _ => (intOf vk + 1).toNat)
        case atStart => exact ⟨f.length, Nat.le_refl _, by simp, HR.out⟩
        case round =>
          obtain ⟨j, hj, rfl, hrel⟩ := hrel
          have HQ := Lib.hid hrel
          clear hrel
          cases j with
          | zero =>
            have HM := Lib.hid (show AIn w wr b lb (Ar.more n m f m) by rw [← Ar.more_start]; exact HQ.out.ar)
            rw [show ((0 : Nat) : Int) - 1 = -1 from rfl]
            go_wp2
            go_loopw [20] (fun vk wr => ∃ k : Nat, m ≤ k ∧ k ≤ n ∧ vk = .int .i64 k ∧ AIn w wr b lb (Ar.more n m f k)) (fun vk _ => n - (intOf vk).toNat)
            case atStart => exact ⟨m, Nat.le_refl _, hmn, rfl, HM.out⟩
            case round =>
              obtain ⟨k, hk3, hk4, rfl, hrel⟩ := hrel
              have HK := Lib.hid hrel
              clear hrel
              by_cases hkn : k < n
              · have HT := Lib.hid (HK.out.alloc (Ar.more_next n m f hkn))
                have hmt := Ar.more_take n m f HLT.out hk3
                have HMT := Lib.hid hmt
                have HV : Hid (∀ w2, AIn w w2 b lb (Ar.more n m f (k + 1)) → Calls Try.prog 19 #[.pointer (some ⟨b, 0, none⟩), .int .i64 k] w2 fun e w' => e = .returned (.int .u64 1) ∧ w2 = w') := fun w2 h =>
                  h.timesOf (k : Int) (show (Ar.more n m f (k + 1)).timesAt (k : Int) = 1 by
                    have h1 := HMT.out.2
                    have h2 : (Ar.more n m f (k + 1)).slots = n := rfl
                    simp [Ar.timesAt, h1, h2, hkn])
                clear hmt
                go_wp2_with (first
                  | (go_at_call 18; refine HT.out.mono ?_; rintro e w2 ⟨rfl, ha, _⟩; rw [HMT.out.1] at ha; have HS := Lib.hid ha; clear ha)
                  | (go_at_call 19; refine (HV.out _ HS.out).mono ?_; rintro e w3 ⟨rfl, rfl⟩))
                go_roundw
                case rel => exact ⟨k + 1, by omega, by omega, by simp, HS.out⟩
                case measure => simp [intOf]; omega
              · have hkn2 : k = n := by omega
                have HF := Lib.hid (show AIn w wr b lb (Ar.more n m f n) by have h := HK.out; rw [hkn2] at h; exact h)
                have hl : Calls Try.prog 20 #[.pointer (some ⟨b, 0, none⟩)] wr fun e w' => e = .returned (.int .i64 n) ∧ wr = w' := by
                  have := HF.out.len
                  simpa [Ar.more] using this
                have HL := Lib.hid hl
                clear hl
                clear hkn2
                go_wp2_with (first
                  | (go_at_call 20; refine HL.out.mono ?_; rintro e w3 ⟨rfl, rfl⟩)
                  | (go_at_call 13; refine (l2works_true _).mono ?_; rintro e w4 ⟨rfl, hb⟩; have HB := Lib.hid hb; clear hb))
                go_ret
                exact ⟨by simp, HF.out.bel.trans (HB.out.mono HF.out.bel.size)⟩
          | succ q =>
            have hq : q < f.length := by omega
            have HI := Lib.hid (ints_of_owns_slice HQ.out.own (fun x hx => by have := HQ.out.lt x hx; omega)).2
            obtain ⟨bl, ol, rfl, _, d⟩ := HI.out.hcell q hq
            rw [map_getD] at d
            have HNX := Lib.hid (HQ.out.ar.nextOf (Ar.back_next n m f hq))
            have HAL : Hid (∀ r, Calls Try.prog 18 #[.pointer (some ⟨b, 0, none⟩)] (wr.drewN r) fun e w' => e = .returned (.tuple #[.int .i64 (f.getD q 0 : Nat), .int .i64 0]) ∧ BRel w w1 w' b lb n m (.slice (some ⟨bl, ol, none⟩) f.length cv) f q ∧ w'.cell? ⟨bl, ol + q, none⟩ = some (.int .i64 (f.getD q 0 : Nat))) := fun r =>
              ((HQ.out.ar.drewN r).alloc (Ar.back_next n m f hq)).mono fun e w' ⟨he, ha, hu⟩ => by
                rw [(Ar.back_take n m f HND.out HLT.out hq).1] at ha
                have hu2 : Upd (fun k => k = b ∨ k = lb) wr w' := ((Upd.refl _ wr).drewN r).trans hu (fun _ _ h => h)
                have hbr := HQ.out.step ha hu2
                have hI2 := (ints_of_owns_slice hbr.own (fun x hx => by have := HQ.out.lt x hx; omega)).2
                obtain ⟨bl2, ol2, he2, _, d2⟩ := hI2.hcell q hq
                simp only [Option.some.injEq, Addr.mk.injEq, and_true] at he2
                obtain ⟨rfl, rfl⟩ := he2
                rw [map_getD] at d2
                exact ⟨he, hbr, d2⟩
            have HV : Hid (∀ w2, AIn w w2 b lb (Ar.back n m f q) → Calls Try.prog 19 #[.pointer (some ⟨b, 0, none⟩), .int .i64 (f.getD q 0 : Nat)] w2 fun e w' => e = .returned (.int .u64 2) ∧ w2 = w') := fun w2 h =>
              h.timesOf ((f.getD q 0 : Nat) : Int) (by
                have h1 := (Ar.back_take n m f HND.out HLT.out hq).2
                have h2 : (Ar.back n m f q).slots = n := rfl
                have h3 : f.getD q 0 < m := HLT.out _ (by simp only [List.getD, List.getElem?_eq_getElem hq, Option.getD_some]; exact List.getElem_mem hq)
                unfold Ar.timesAt
                rw [if_pos ⟨by omega, by rw [h2]; omega⟩, Int.toNat_natCast]
                exact h1)
            clear d
            rw [show ((q + 1 : Nat) : Int) - 1 = (q : Int) by omega]
            simp only [optNat] at HNX
            generalize f.getD q 0 = x at HNX HAL HV
            go_wp2_with fail
            refine HNX.out.mono ?_
            rintro e w2 ⟨rfl, r, rfl⟩
            go_wp2_with fail
            refine (HAL.out r).mono ?_
            rintro e w2 ⟨rfl, hbr, d2⟩
            have HBR := Lib.hid hbr
            clear hbr
            go_wp2_with (go_at_call 19; refine (HV.out _ HBR.out.ar).mono ?_; rintro e w3 ⟨rfl, rfl⟩)
            go_roundw
            case rel => exact ⟨q, by omega, by simp, HBR.out⟩
            case measure => simp [intOf]
end ArenaBack
end Go.Proofs.Ytljcedlmnbofaaa
