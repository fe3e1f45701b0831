/- ExpF: layer 35: Copy; the law's own 'works' and 'filled'. -/
import Derived.Test.YtmlbacbcdjfioaaExpE
import Derived.Test.YtmlbacbcdjfioaaExpL
import Derived.Test.YtmlbacbcdjfioaaL35Same
import Derived.Test.YtmlbacbcdjfioaaL4Fill
set_option linter.unusedSimpArgs false
set_option linter.unusedVariables false
namespace Go.Proofs.Ytmlbacbcdjfioaa
open Go.ChangeShapes Go.WideShapes Go.ChangeAt Go.RowKit

section
variable {w0 w : World} {e b : Nat} {A : Hp} {S : Nat → Prop}
set_option maxHeartbeats 1000000
theorem eCopy_any (h : EIn w0 w e b A S) :
    Calls Try.prog 36 #[.pointer (some ⟨e, 0, none⟩)] w fun r w' => ∃ e' b' S', r = .returned (.pointer (some ⟨e', 0, none⟩)) ∧ EIn w0 w' e' b' A S' ∧ (∀ k, S' k → w.heap.size ≤ k) ∧ w.heap.size ≤ e' ∧ Below w.heap.size w w' := by
  have c0 := h.cell
  have h0 := h.ge
  have hlt := h.lt
  have HC := Lib.hid h.hin.copy
  clear h
  go_enter Try.func36, Try.ntmps36
  go_wp2_with (go_at_call 48; refine HC.out.mono ?_; rintro r w1 ⟨b', S', rfl, h1, h2, h3⟩; have H1 := Lib.hid (And.intro h1 (And.intro h2 h3)); clear h1 h2 h3)
  go_ret
  obtain ⟨h1, h2, h3⟩ := H1.out
  have hz := h3.size
  refine ⟨w1.heap.size, b', S', by simp, ⟨h1.below ((Below.refl _ _).alloc (Nat.le_refl _) _), by simp, fun hs => absurd (h1.1.foot hs).2 (by omega), by omega⟩, h2, hz, h3.alloc hz _⟩

theorem eLen_of {L : List Ent} (h : EIn w0 w e b A S) (hs : Srt A L) :
    Calls Try.prog 30 #[.pointer (some ⟨e, 0, none⟩)] w fun r w' => r = .returned (.int .i64 L.length) ∧ w = w' := by
  rw [← hs.len h.ok]; exact eLen_any h
end

theorem idxs_ints (L : List Ent) : idxs L = ints (L.map Prod.fst) := by simp [idxs, ints]
/-- What Due gives back can be read. -/
theorem DueOut.ints {w' : World} {base k : Nat} {v : Value} {L : List Ent} (h : w'.ownsRow base 3 1 v k (idxs (L.take k))) (hk : k ≤ L.length) (hb : ∀ x ∈ L, x.1 < 65536) :
    ∃ a cap, v = .slice a k cap ∧ (∀ ad, a = some ad → base ≤ ad.block ∧ ad.block < w'.heap.size) ∧ IntsIn w' .i64 a k cap ((L.take k).map fun x => (x.1 : Int)) ∧ (a = none → k = 0 ∧ cap = 0) := by
  have hn : ∀ a cap, v = .slice a k cap → a = none → k = 0 ∧ cap = 0 := by
    intro a cap hv ha
    rcases h.2 with ⟨h1, h2⟩ | ⟨g, c, cur, h1, _⟩
    · rw [hv] at h1; simp at h1; exact ⟨h2, h1.2.2⟩
    · rw [hv, ha] at h1; simp at h1
  have e : ((L.take k).map Prod.fst).length = k := by simp; omega
  rw [idxs_ints] at h
  have := ints_of_owns (l := (L.take k).map Prod.fst) (by rw [e]; exact h) (by
    intro x hx
    obtain ⟨y, hy, rfl⟩ := List.mem_map.1 hx
    have := hb y (List.mem_of_mem_take hy)
    omega)
  rw [e, List.map_map] at this
  obtain ⟨a, cap, h1, h2, h3⟩ := this
  exact ⟨a, cap, h1, h2, h3, hn a cap h1⟩

theorem Hp.setE_in {A : Hp} {i : Nat} (h : i < A.slots) : A.setE (i : Int) = 0 := by unfold Hp.setE; rw [if_pos ⟨by omega, by omega⟩]
theorem Hp.setA_in {A : Hp} {i : Nat} (x : Int) (h : i < A.slots) : A.setA (i : Int) x = A.put i x := by unfold Hp.setA; rw [if_pos ⟨by omega, by omega⟩]; simp

def wL35 : List Ent := [(1, -5), (0, 10), (2, 10), (3, 40)]
def wA35 : Hp := ((((Hp.new 4).put 2 10).put 0 10).put 1 (-5)).put 3 40
theorem wSrt35 : Srt wA35 wL35 :=
  (((((Srt.new 4).put_new (i := 2) 10 rfl).put_new (i := 0) 10 rfl).put_new (i := 1) (-5) rfl).put_new (i := 3) 40 rfl)

theorem wK35 {k : Nat} (h1 : k ≤ wL35.length) (h2 : ∀ x ∈ wL35.take k, x.2 ≤ 10) (h3 : ∀ x ∈ wL35.drop k, 10 < x.2) : k = 3 := by
  have : k = 0 ∨ k = 1 ∨ k = 2 ∨ k = 3 ∨ k = 4 := by have : wL35.length = 4 := rfl; omega
  rcases this with rfl | rfl | rfl | rfl | rfl
  · have := h3 (1, -5) (by decide); simp at this
  · have := h3 (0, 10) (by decide); simp at this
  · have := h3 (2, 10) (by decide); simp at this
  · rfl
  · have := h2 (3, 40) (by decide); simp at this
theorem wI35 (w : World) (t : TypeId) : IntsIn (w.alloc (.cells #[.int .i64 1, .int .i64 0, .int .i64 2] t)) .i64 (some ⟨w.heap.size, 0, none⟩) 3 3 [1, 0, 2] := by
  refine ⟨rfl, Nat.le_refl _, by omega, ?_, by decide⟩
  intro i hi
  refine ⟨w.heap.size, 0, rfl, by simp, ?_⟩
  rw [World.cell?_alloc_at _ _ _ _ rfl]
  have : i = 0 ∨ i = 1 ∨ i = 2 := by omega
  rcases this with rfl | rfl | rfl <;> rfl

set_option maxHeartbeats 2000000 in
set_option maxRecDepth 100000 in
theorem l35works_any (w : World) : Calls Try.prog 28 #[] w fun e w' => e = .returned (.bool true) ∧ Below w.heap.size w w' := by
  have E1 := Lib.hid (show (Hp.new 4).setE 2 = 0 by decide)
  have A1 := Lib.hid (show (Hp.new 4).setA 2 10 = (Hp.new 4).put 2 10 from if_pos (by decide))
  have E2 := Lib.hid (show ((Hp.new 4).put 2 10).setE 0 = 0 by decide)
  have A2 := Lib.hid (show ((Hp.new 4).put 2 10).setA 0 10 = ((Hp.new 4).put 2 10).put 0 10 from if_pos (by decide))
  have E3 := Lib.hid (show (((Hp.new 4).put 2 10).put 0 10).setE 1 = 0 by decide)
  have A3 := Lib.hid (show (((Hp.new 4).put 2 10).put 0 10).setA 1 (-5) = (((Hp.new 4).put 2 10).put 0 10).put 1 (-5) from if_pos (by decide))
  have E4 := Lib.hid (show ((((Hp.new 4).put 2 10).put 0 10).put 1 (-5)).setE 3 = 0 by decide)
  have A4 := Lib.hid (show ((((Hp.new 4).put 2 10).put 0 10).put 1 (-5)).setA 3 40 = wA35 from if_pos (by decide))
  have L5 := Lib.hid (show wA35.leftR 3 15 = (25, 0) by decide)
  go_enter Try.func28, Try.ntmps28
  go_wp2_with (first
    | (go_at_call 25; refine (eNew_ok 4 w (by omega)).mono ?_; rintro r w1 ⟨sb, b, S, rfl, h⟩; have H0 := Lib.hid h; clear h)
    | (go_at_call 37; refine (eSet_any H0.out 2 10 (by omega)).mono ?_; rintro r w2 ⟨rfl, S1, h, _, _⟩; rw [A1.out] at h; rw [E1.out]; have H1 := Lib.hid h; clear h H0)
    | (go_at_call 37; refine (eSet_any H1.out 0 10 (by omega)).mono ?_; rintro r w3 ⟨rfl, S2, h, _, _⟩; rw [A2.out] at h; rw [E2.out]; have H2 := Lib.hid h; clear h H1)
    | (go_at_call 37; refine (eSet_any H2.out 1 (-5) (by omega)).mono ?_; rintro r w4 ⟨rfl, S3, h, _, _⟩; rw [A3.out] at h; rw [E3.out]; have H3 := Lib.hid h; clear h H2)
    | (go_at_call 37; refine (eSet_any H3.out 3 40 (by omega)).mono ?_; rintro r w5 ⟨rfl, S4, h, _, _⟩; rw [A4.out] at h; rw [E4.out]; have H4 := Lib.hid h; clear h H3)
    | (go_at_call 34; refine (eLeft_any H4.out 3 15 (by omega)).mono ?_; rintro r w6 ⟨rfl, S5, h, _, _⟩; rw [L5.out]; simp only [leftV]; have H5 := Lib.hid h; clear h H4)
    | (go_at_call 32; refine (eDue_any H5.out wSrt35).mono ?_; rintro r w7 ⟨v, k, A', S', rfl, q1, q2, q3, q4, q5, q6, q7, q8, q9, _⟩; obtain rfl := wK35 q1 q7 q8; obtain ⟨a, cap, rfl, q10, q11, _⟩ := DueOut.ints q2 q1 (by decide); have H6 := Lib.hid (And.intro q3 (And.intro q6 q11)); clear q1 q2 q3 q4 q5 q6 q7 q8 q9 q10 q11 H5)
    | (go_at_call 33; refine (l35same_any (H6.out.2.2.of_below ((Below.refl _ _).alloc (Nat.le_refl _) _)) (wI35 _ _)).mono ?_; rintro r w8 ⟨rfl, n, rfl⟩; rw [show decide (((wL35.take 3).map fun x => (x.1 : Int)) = [1, 0, 2]) = true by decide])
    | (go_at_call 30; refine (eLen_of ((H6.out.1.below ((Below.refl _ _).alloc (Nat.le_refl _) _)).below (below_drewN (Below.refl _ _) _)) H6.out.2.1).mono ?_; rintro r w9 ⟨rfl, rfl⟩; rw [show (((wL35.drop 3).length : Nat) : Int) = 1 by decide]))
  go_ret
  exact ⟨by simp, below_drewN (H6.out.1.hin.2.alloc H6.out.1.hin.2.size _) _⟩

/-- These of the keys. -/
def Hp.part (zs : List Int) (P : Nat → Bool) : Hp := { slots := 300, keys := fun i => if P i = true then some (zs.getD i 0) else none }
def fillP (len : Nat) (back : Bool) (k : Nat) (i : Nat) : Bool := if back = true then decide (len - k ≤ i ∧ i < len) else decide (i < k)
theorem Hp.part_zero (zs : List Int) (len : Nat) (back : Bool) : Hp.part zs (fillP len back 0) = Hp.new 300 := by
  unfold Hp.part Hp.new
  congr 1
  funext i
  cases back <;> simp [fillP] <;> omega
theorem Hp.part_step (zs : List Int) {len : Nat} {back : Bool} {k : Nat} (hk : k < len) : (Hp.part zs (fillP len back k)).put (if back = true then len - 1 - k else k) (zs.getD (if back = true then len - 1 - k else k) 0) = Hp.part zs (fillP len back (k + 1)) := by
  unfold Hp.part Hp.put
  congr 1
  funext i
  cases back with
  | false =>
    simp only [fillP, Bool.false_eq_true, if_false, decide_eq_true_eq]
    by_cases h1 : i = k
    · subst h1; simp
    · rw [if_neg h1]
      by_cases h2 : i < k
      · rw [if_pos h2, if_pos (by omega)]
      · rw [if_neg h2, if_neg (by omega)]
  | true =>
    simp only [fillP, if_true, decide_eq_true_eq]
    by_cases h1 : i = len - 1 - k
    · subst h1; rw [if_pos rfl, if_pos (by omega)]
    · rw [if_neg h1]
      by_cases h2 : len - k ≤ i ∧ i < len
      · rw [if_pos h2, if_pos (by omega)]
      · rw [if_neg h2, if_neg (by omega)]
theorem Hp.part_full (zs : List Int) (len : Nat) (back : Bool) : Hp.part zs (fillP len back len) = Hp.upto zs len := by
  unfold Hp.part Hp.upto
  congr 1
  funext i
  cases back <;> simp [fillP]

set_option maxHeartbeats 1000000 in
theorem l35filled_any {w : World} {a : Option Addr} {len cap : Nat} {zs : List Int} (back : Bool) (h : IntsIn w .i64 a len cap zs) (hl : len ≤ 300) :
    Calls Try.prog 29 #[.slice a len cap, .bool back] w fun r w' => ∃ e b S, r = .returned (.pointer (some ⟨e, 0, none⟩)) ∧ EIn w w' e b (Hp.upto zs len) S := by
  have HC := Lib.hid h.hcell
  have HW := Lib.hid (fun i hi => wf_i64 (h.getD_wf i hi))
  have hcap := h.hle
  have hmax := h.hmax
  clear h
  go_enter Try.func29, Try.ntmps29
  go_wp2_with (go_at_call 25; refine (eNew_ok 300 w (by omega)).mono ?_; rintro r w1 ⟨e, b, S1, rfl, h⟩; have H1 := Lib.hid h; clear h)
  go_loopw [17] (fun x wr => ∃ k : Nat, k ≤ len ∧ x = .int .i64 k ∧ ∃ S, EIn w wr e b (Hp.part zs (fillP len back k)) S) (fun x _ => len - (intOf x).toNat)
  case atStart => exact ⟨0, Nat.zero_le _, rfl, S1, by rw [Hp.part_zero]; exact H1.out⟩
  case round =>
    obtain ⟨k, hk, rfl, S, hin⟩ := hrel
    by_cases hlt : k < len
    · cases back with
      | false =>
        obtain ⟨b0, off, rfl, hb0, hc⟩ := HC.out k hlt
        have hc2 := (hin.hin.2.cell (p := ⟨b0, off + k, none⟩) hb0).trans hc
        have HP := Lib.hid (eSet_any hin (k : Int) (zs.getD k 0) (HW.out k hlt))
        have hst := Hp.part_step (back := false) zs hlt
        simp only [Bool.false_eq_true, if_false] at hst
        rw [Hp.setE_in (show k < 300 by omega), Hp.setA_in _ (show k < 300 by omega), hst] at HP
        clear hin hst
        go_wp2_with (go_at_call 37; refine HP.out.mono ?_; rintro r w2 ⟨rfl, S2, h, _, _⟩; have H2 := Lib.hid h; clear h)
        go_roundw
        case rel => exact ⟨k + 1, by omega, by simp, S2, H2.out⟩
        case measure => simp [intOf]; omega
      | true =>
        obtain ⟨b0, off, rfl, hb0, hc⟩ := HC.out (len - 1 - k) (by omega)
        have hc2 := (hin.hin.2.cell (p := ⟨b0, off + (len - 1 - k), none⟩) hb0).trans hc
        have HP := eSet_any hin ((len - 1 - k : Nat) : Int) (zs.getD (len - 1 - k) 0) (HW.out (len - 1 - k) (by omega))
        have hst := Hp.part_step (back := true) zs hlt
        simp only [if_true] at hst
        rw [Hp.setE_in (show len - 1 - k < 300 by omega), Hp.setA_in _ (show len - 1 - k < 300 by omega), hst, show ((len - 1 - k : Nat) : Int) = (len : Int) - 1 - (k : Int) by omega] at HP
        have HP := Lib.hid HP
        clear hin hst
        have hI : ((len : Int) - 1 - (k : Int)).toNat = len - 1 - k := by omega
        go_wp2_with (go_at_call 37; refine HP.out.mono ?_; rintro r w2 ⟨rfl, S2, h, _, _⟩; have H2 := Lib.hid h; clear h)
        go_roundw
        case rel => exact ⟨k + 1, by omega, by simp, S2, H2.out⟩
        case measure => simp [intOf]; omega
    · have hke : k = len := by omega
      have HI := Lib.hid hin
      clear hin
      go_wp2
      go_ret
      exact ⟨e, b, S, rfl, by rw [← Hp.part_full zs len back, ← hke]; exact hke ▸ HI.out⟩
end Go.Proofs.Ytmlbacbcdjfioaa
