/- HeapS: layer 4: sift and settle. -/
import Derived.Test.YtmlbacbcdjfioaaHeapT
set_option linter.unusedSimpArgs false
set_option linter.unusedVariables false
namespace Go.Proofs.Ytmlbacbcdjfioaa
open Go.ChangeShapes Go.WideShapes Go.ChangeAt Go.RowKit

section
variable {B : Nat} {w : World} {b pb : Nat} {v : Value} {slots n : Nat} {f : Nat → Ent}
set_option maxHeartbeats 1000000

theorem hSift_up (h : HeapRaw B w b pb v slots n f) {a c : Nat} (ha : a < n) (hc : w.cell? ⟨c, 0, none⟩ = some (.pointer (some ⟨b, 0, none⟩))) (hcF : ¬ HFoot b pb v c) :
    Calls Try.prog 91 #[.pointer (some ⟨b, 0, none⟩), .int .i64 a, .func (.func 92) #[] #[.pointer (some ⟨c, 0, none⟩)]] w fun e w' => e = .returned (.tuple #[]) ∧
      ∃ f' a', Sifts upN f a f' a' ∧ upN f' a' = none ∧ a' < n ∧ HeapRaw B w' b pb v slots n f' ∧ Upd (HFoot b pb v) w w' := by
  have hcl := World.block_lt_of_cell? w ⟨c, 0, none⟩ hc
  have HC := Lib.hid hc
  have HCF := Lib.hid hcF
  have hn1 := h.n_le
  have hn2 := h.hs
  have H0 := Lib.hid h
  clear h hc hcF
  go_enter Try.func91, Try.ntmps91
  go_wp2
  go_loopw [1] (fun x wr => ∃ f' a', x = .int .i64 (a' : Nat) ∧ Sifts upN f a f' a' ∧ a' < n ∧ HeapRaw B wr b pb v slots n f' ∧ Upd (HFoot b pb v) w wr) (fun x _ => (intOf x).toNat)
  case atStart => exact ⟨f, a, rfl, Sifts.refl _ _, ha, H0.out, Upd.refl _ _⟩
  case round =>
    obtain ⟨f', a', rfl, hsf, ha', hraw, hupd⟩ := hrel
    have hc2 := hupd.cell_some (p := ⟨c, 0, none⟩) HC.out HCF.out
    have HN := Lib.hid (hUp_any hraw ha' hc2)
    have HR := Lib.hid hraw
    have HU := Lib.hid hupd
    have HS := Lib.hid hsf
    clear hraw hupd hsf hc2
    cases hu : upN f' a' with
    | none =>
      rw [hu] at HN
      simp only [optI] at HN
      have HUN := Lib.hid hu
      clear hu
      go_wp2_with (go_at_call 92; refine HN.out.mono ?_; rintro e w1 ⟨rfl, hb1⟩)
      refine bodyPost_ret (results_none rfl _ _ _) rfl ?_
      exact ⟨rfl, f', a', HS.out, HUN.out, ha', HR.out.below (by assumption), HU.out.trans (Upd.of_below (by assumption)) (fun i hi hg => absurd hg (by have := HU.out.size; omega))⟩
    | some t =>
      rw [hu] at HN
      simp only [optI] at HN
      have htlt := upN_lt hu
      have HUN := Lib.hid hu
      clear hu
      obtain ⟨P, hmid, hpos⟩ := HR.out.mid
      obtain ⟨g, cap, rfl, hnc, hcm, _, _, _, _⟩ := hmid.entry ha'
      have HM := Lib.hid (fun (w1 : World) (hb : Below wr.heap.size wr w1) => hmid.below hb)
      have HP := Lib.hid hpos
      clear hmid hpos
      go_wp2_with (go_at_call 92; refine HN.out.mono ?_; rintro e w1 ⟨rfl, hb1⟩; have hm1 := HM.out w1 hb1; have c3 := hm1.c3; have cells := (hm1.entry ha'); obtain ⟨g2, cap2, hv2, _, _, cells, fz, _, _⟩ := cells; cases hv2; have a0 := (cells a' ha').1; have a1 := (cells a' ha').2; have t0 := (cells t (by omega)).1; have t1 := (cells t (by omega)).2; have HM1 := Lib.hid hm1; clear hm1 cells)
      go_region
      have hneq : a' ≠ t := by omega
      have HSW := Lib.hid (HM1.out.swap ha' (show t < n by omega) hneq)
      go_wp2_with (first
        | (go_at_call 77; refine (hPut_mid HSW.out ha').mono ?_; rintro e w2 ⟨rfl, hm2, hu2⟩; have HM2 := Lib.hid hm2; have HU2 := Lib.hid hu2; clear hm2 hu2 HSW)
        | (go_at_call 77; refine (hPut_mid HM2.out (show t < n by omega)).mono ?_; rintro e w3 ⟨rfl, hm3, hu3⟩; have HM3 := Lib.hid hm3; have HU3 := Lib.hid hu3; clear hm3 hu3))
      go_roundw
      case rel =>
        have hu1 : Upd (HFoot b pb (.slice (some ⟨g, 0, none⟩) n cap)) w w1 := HU.out.trans (Upd.of_below hb1) (fun i hi hg => absurd hg (by have := HU.out.size; omega))
        have hu2 := (swap_upd g hu1 (Or.inr (Or.inr rfl)) (a' * 2) (a' * 2 + 1) (t * 2) (t * 2 + 1) _ _ _ _).trans HU2.out (fun _ _ h => h)
        exact ⟨swapf f' a' t, t, rfl, Sifts.step HS.out HUN.out, by omega, HM3.out.raw (HP.out.swap ha' (by omega) hneq), hu2.trans HU3.out (fun _ _ h => h)⟩
      case measure => simp [intOf]; omega
theorem hSift_dn (h : HeapRaw B w b pb v slots n f) {a c : Nat} (ha : a < n) (hc : w.cell? ⟨c, 0, none⟩ = some (.pointer (some ⟨b, 0, none⟩))) (hcF : ¬ HFoot b pb v c) :
    Calls Try.prog 91 #[.pointer (some ⟨b, 0, none⟩), .int .i64 a, .func (.func 94) #[] #[.pointer (some ⟨c, 0, none⟩)]] w fun e w' => e = .returned (.tuple #[]) ∧
      ∃ f' a', Sifts (dnN n) f a f' a' ∧ dnN n f' a' = none ∧ a' < n ∧ HeapRaw B w' b pb v slots n f' ∧ Upd (HFoot b pb v) w w' := by
  have hcl := World.block_lt_of_cell? w ⟨c, 0, none⟩ hc
  have HC := Lib.hid hc
  have HCF := Lib.hid hcF
  have hn1 := h.n_le
  have hn2 := h.hs
  have H0 := Lib.hid h
  clear h hc hcF
  go_enter Try.func91, Try.ntmps91
  go_wp2
  go_loopw [1] (fun x wr => ∃ f' a', x = .int .i64 (a' : Nat) ∧ Sifts (dnN n) f a f' a' ∧ a' < n ∧ HeapRaw B wr b pb v slots n f' ∧ Upd (HFoot b pb v) w wr) (fun x _ => n - (intOf x).toNat)
  case atStart => exact ⟨f, a, rfl, Sifts.refl _ _, ha, H0.out, Upd.refl _ _⟩
  case round =>
    obtain ⟨f', a', rfl, hsf, ha', hraw, hupd⟩ := hrel
    have hc2 := hupd.cell_some (p := ⟨c, 0, none⟩) HC.out HCF.out
    have HN := Lib.hid (hDown_any hraw ha' hc2)
    have HR := Lib.hid hraw
    have HU := Lib.hid hupd
    have HS := Lib.hid hsf
    clear hraw hupd hsf hc2
    cases hu : dnN n f' a' with
    | none =>
      rw [hu] at HN
      simp only [optI] at HN
      have HUN := Lib.hid hu
      clear hu
      go_wp2_with (go_at_call 94; refine HN.out.mono ?_; rintro e w1 ⟨rfl, hb1⟩)
      refine bodyPost_ret (results_none rfl _ _ _) rfl ?_
      exact ⟨rfl, f', a', HS.out, HUN.out, ha', HR.out.below (by assumption), HU.out.trans (Upd.of_below (by assumption)) (fun i hi hg => absurd hg (by have := HU.out.size; omega))⟩
    | some t =>
      rw [hu] at HN
      simp only [optI] at HN
      have htlt := dnN_bd ha' hu
      have HUN := Lib.hid hu
      clear hu
      obtain ⟨P, hmid, hpos⟩ := HR.out.mid
      obtain ⟨g, cap, rfl, hnc, hcm, _, _, _, _⟩ := hmid.entry ha'
      have HM := Lib.hid (fun (w1 : World) (hb : Below wr.heap.size wr w1) => hmid.below hb)
      have HP := Lib.hid hpos
      clear hmid hpos
      go_wp2_with (go_at_call 94; refine HN.out.mono ?_; rintro e w1 ⟨rfl, hb1⟩; have hm1 := HM.out w1 hb1; have c3 := hm1.c3; have cells := (hm1.entry ha'); obtain ⟨g2, cap2, hv2, _, _, cells, fz, _, _⟩ := cells; cases hv2; have a0 := (cells a' ha').1; have a1 := (cells a' ha').2; have t0 := (cells t (by omega)).1; have t1 := (cells t (by omega)).2; have HM1 := Lib.hid hm1; clear hm1 cells)
      go_region
      have hneq : a' ≠ t := by omega
      have HSW := Lib.hid (HM1.out.swap ha' (show t < n by omega) hneq)
      go_wp2_with (first
        | (go_at_call 77; refine (hPut_mid HSW.out ha').mono ?_; rintro e w2 ⟨rfl, hm2, hu2⟩; have HM2 := Lib.hid hm2; have HU2 := Lib.hid hu2; clear hm2 hu2 HSW)
        | (go_at_call 77; refine (hPut_mid HM2.out (show t < n by omega)).mono ?_; rintro e w3 ⟨rfl, hm3, hu3⟩; have HM3 := Lib.hid hm3; have HU3 := Lib.hid hu3; clear hm3 hu3))
      go_roundw
      case rel =>
        have hu1 : Upd (HFoot b pb (.slice (some ⟨g, 0, none⟩) n cap)) w w1 := HU.out.trans (Upd.of_below hb1) (fun i hi hg => absurd hg (by have := HU.out.size; omega))
        have hu2 := (swap_upd g hu1 (Or.inr (Or.inr rfl)) (a' * 2) (a' * 2 + 1) (t * 2) (t * 2 + 1) _ _ _ _).trans HU2.out (fun _ _ h => h)
        exact ⟨swapf f' a' t, t, rfl, Sifts.step HS.out HUN.out, by omega, HM3.out.raw (HP.out.swap ha' (by omega) hneq), hu2.trans HU3.out (fun _ _ h => h)⟩
      case measure => simp [intOf]; omega

theorem HeapRaw.drew (h : HeapRaw B w b pb v slots n f) : HeapRaw B w.drew b pb v slots n f := h.same (fun _ _ => rfl) (Nat.le_refl _)
theorem hAt_pos (h : HeapRaw B w b pb v slots n f) {k : Nat} (hk : k < n) :
    Calls Try.prog 90 #[.pointer (some ⟨b, 0, none⟩), .int .i64 ((f k).1 : Int)] w fun e w' => e = .returned (.int .i64 k) ∧ w = w' := by
  have h1 := h.n_le
  have h2 := h.hs
  refine (hAt_any h (f k).1 (h.lt k hk) ((k : Int) + 1) (h.pos k hk) (by omega) (by omega)).mono ?_
  rintro e w' ⟨rfl, rfl⟩
  exact ⟨by simp, rfl⟩

end
end Go.Proofs.Ytmlbacbcdjfioaa
