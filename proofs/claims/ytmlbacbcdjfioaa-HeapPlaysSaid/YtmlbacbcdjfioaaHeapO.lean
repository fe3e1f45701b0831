/- HeapO: layer 4: Remove and Change. -/
import Derived.Test.YtmlbacbcdjfioaaHeapP
set_option linter.unusedSimpArgs false
set_option linter.unusedVariables false
namespace Go.Proofs.Ytmlbacbcdjfioaa
open Go.ChangeShapes Go.WideShapes Go.ChangeAt Go.RowKit

theorem owns_cut {w : World} {B e size g cap n m : Nat} {xs : List Value} (h : w.ownsRow B e size (.slice (some ⟨g, 0, none⟩) n cap) n xs) (hm : m ≤ n) :
    w.ownsRow B e size (.slice (some ⟨g, 0, none⟩) m cap) m (xs.take (m * size)) := by
  obtain ⟨hl, h2⟩ := h
  have hms : m * size ≤ n * size := Nat.mul_le_mul_right _ hm
  rcases h2 with ⟨h0, _⟩ | ⟨g', cap', cur, hv, hg, hh, hn, hcap, hsz, htake⟩
  · cases h0
  · cases hv
    refine ⟨by rw [List.length_take, hl]; omega, .inr ⟨g, cap, cur, rfl, hg, hh, by omega, hcap, hsz, ?_⟩⟩
    rw [← htake, List.take_take, Nat.min_eq_left hms]

section
variable {B : Nat} {w : World} {b pb : Nat} {v : Value} {slots n : Nat} {f : Nat → Ent} {P : Nat → Int}

theorem HeapMid.cut {g cap m : Nat} (h : HeapMid B w b pb (.slice (some ⟨g, 0, none⟩) n cap) slots n f P) (hm : m ≤ n) :
    HeapMid B (w.setCell ⟨b, 3, none⟩ (.slice (some ⟨g, 0, none⟩) m cap)) b pb (.slice (some ⟨g, 0, none⟩) m cap) slots m f P := by
  have e3 : ∀ o, o ≠ 3 → (w.setCell ⟨b, 3, none⟩ (.slice (some ⟨g, 0, none⟩) m cap)).cell? ⟨b, o, none⟩ = w.cell? ⟨b, o, none⟩ := fun o ho => World.cell?_setCell_other _ _ _ _ (by simp <;> omega)
  have e4 : ∀ o, (w.setCell ⟨b, 3, none⟩ (.slice (some ⟨g, 0, none⟩) m cap)).cell? ⟨pb, o, none⟩ = w.cell? ⟨pb, o, none⟩ := fun o => World.cell?_setCell_other _ _ _ _ (by have := h.ne; simp <;> omega)
  refine ⟨h.hs, fun k hk => h.lt k (by omega), Nat.le_trans hm h.ns, h.ne, (e3 0 (by omega)).trans h.c0, (e3 1 (by omega)).trans h.c1, ?_, ?_, fun o => by rw [frozen_set]; exact h.fb o, fun i hi => (e4 i).trans (h.pos i hi), fun o => by rw [frozen_set]; exact h.fp o, ?_, h.vb, h.vp, by simpa using h.bs, by simpa using h.pl⟩
  · obtain ⟨m, cap, c, r⟩ := h.c2
    exact ⟨m, cap, (e3 2 (by omega)).trans c, r⟩
  · rw [cell_set, if_pos rfl, h.c3]; rfl
  · rw [← flat_take f hm]
    refine ownsRow_setCell_other (owns_cut h.own hm) ?_ _
    exact h.vb

theorem PosOk.remove (h : PosOk slots n f P) {k i : Nat} (hk : k < n) (hi : (f k).1 = i) (hlt : k < n - 1) :
    PosOk slots (n - 1) (fun j => if j = k then f (n - 1) else f j) (fun j => if j = (f (n - 1)).1 then (k : Int) + 1 else (if j = i then 0 else P j)) := by
  have hne : (f (n - 1)).1 ≠ i := fun e => by have := h.inj (n - 1) k (by omega) hk (e.trans hi.symm); omega
  refine ⟨?_, ?_, ?_⟩
  · intro a c ha hc e
    by_cases h1 : a = k
    · by_cases h2 : c = k
      · omega
      · simp only [h1, h2, if_true, if_false] at e
        have := h.inj (n - 1) c (by omega) (by omega) e
        omega
    · by_cases h2 : c = k
      · simp only [h1, h2, if_true, if_false] at e
        have := h.inj a (n - 1) (by omega) (by omega) e
        omega
      · simp only [h1, h2, if_false] at e
        exact h.inj a c (by omega) (by omega) e
  · intro a ha
    by_cases h1 : a = k
    · simp [h1]
    · have n1 : (f a).1 ≠ (f (n - 1)).1 := fun e => by have := h.inj a (n - 1) (by omega) (by omega) e; omega
      have n2 : (f a).1 ≠ i := fun e => h1 (h.inj a k (by omega) hk (e.trans hi.symm))
      simp only [h1, if_false, n1, n2]
      exact h.at_ a (by omega)
  · intro j hj hz
    have h1 := hz k hlt
    simp only [if_true] at h1
    rw [if_neg (fun e => h1 e.symm)]
    by_cases h2 : j = i
    · rw [if_pos h2]
    · rw [if_neg h2]
      refine h.zero j hj ?_
      intro a ha e
      by_cases h3 : a = n - 1
      · exact h1 (by rw [← h3]; exact e)
      · by_cases h4 : a = k
        · exact h2 (by rw [← e, h4, hi])
        · have := hz a (by omega)
          rw [if_neg h4] at this
          exact this e
theorem PosOk.removeLast (h : PosOk slots n f P) {k i : Nat} (hk : k < n) (hi : (f k).1 = i) (hlt : k = n - 1) :
    PosOk slots (n - 1) f (fun j => if j = i then 0 else P j) := by
  refine ⟨fun a c ha hc e => h.inj a c (by omega) (by omega) e, ?_, ?_⟩
  · intro a ha
    have n2 : (f a).1 ≠ i := fun e => by have := h.inj a k (by omega) hk (e.trans hi.symm); omega
    simp only [n2, if_false]
    exact h.at_ a (by omega)
  · intro j hj hz
    by_cases h2 : j = i
    · simp only [h2, if_true]
    · simp only [h2, if_false]
      refine h.zero j hj ?_
      intro a ha e
      by_cases h3 : a = n - 1
      · exact h2 (by rw [← e, h3, ← hlt, hi])
      · exact hz a (by omega) e

set_option maxHeartbeats 400000
set_option maxRecDepth 100000 in
theorem hRemove_some (h : HeapRaw B w b pb v slots n f) (ho : HeapOrd n f) {k i : Nat} (hk : k < n) (hi : (f k).1 = i) :
    Calls Try.prog 44 #[.pointer (some ⟨b, 0, none⟩), .int .i64 i] w fun e w' => e = .returned (.int .i64 0) ∧
      ∃ v' f', HeapRaw B w' b pb v' slots (n - 1) f' ∧ HeapOrd (n - 1) f' ∧ SameEnts (n - 1) (fun j => if j = k then f (n - 1) else f j) f' ∧ Upd (HFoot b pb v) w w' ∧ (∀ q, HFoot b pb v' q → HFoot b pb v q) := by
  obtain ⟨P, hm, hpos⟩ := h.mid
  have hilt : i < slots := by rw [← hi]; exact h.lt k hk
  have hns := h.n_le
  have hs := h.hs
  have hn3 : n ≤ 65536 := by omega
  have HC := hCheck_some h hk
  rw [hi] at HC
  have HC := Lib.hid HC
  obtain ⟨g, cap, rfl, hnc, hcm, cells, fz, hgb, hgp⟩ := hm.entry hk
  obtain ⟨m, pcap, c2, hmc, hmm⟩ := h.c2
  have c3 := h.c3
  have fp := h.fp
  have fb := h.fb
  have hne := h.ne
  have hm1 : i / 256 < m := by omega
  have hm2 : m ≤ 65536 := by omega
  have hE : i / 256 * 256 + i % 256 = i := by omega
  have hp2 : w.cell? ⟨pb, i / 256 * 256 + i % 256, none⟩ = some (.int .i64 (P i)) := by rw [hE]; exact hm.pos i (by omega)
  have HM1 : HeapMid B (w.setCell ⟨pb, i / 256 * 256 + i % 256, none⟩ (.int .i64 0)) b pb (.slice (some ⟨g, 0, none⟩) n cap) slots n f (fun j => if j = i then 0 else P j) := by rw [hE]; exact hm.setPos i 0
  have hUp1 : Upd (HFoot b pb (.slice (some ⟨g, 0, none⟩) n cap)) w (w.setCell ⟨pb, i / 256 * 256 + i % 256, none⟩ (.int .i64 0)) := (Upd.refl _ w).setCell (fun _ => Or.inr (Or.inl rfl)) _
  by_cases hlt : k < n - 1
  · have HP := Lib.hid (hpos.remove hk hi hlt)
    have HX := Lib.hid ((ho.less (show n - 1 ≤ n by omega)).turned k (f (n - 1)))
    have k0 := (cells k hk).1
    have k1 := (cells k hk).2
    have l0 := (cells (n - 1) (by omega)).1
    have l1 := (cells (n - 1) (by omega)).2
    have hme := (HM1.setEnt hk (hm.lt (n - 1) (by omega)) (f (n - 1)).2).drew
    rw [show (fun j => if j = k then ((f (n - 1)).1, (f (n - 1)).2) else f j) = (fun j => if j = k then f (n - 1) else f j) from rfl] at hme
    have HME := Lib.hid hme
    clear hme
    have HU1 := Lib.hid hUp1
    have hlast : ((n - 1 : Nat) : Int) = (n : Int) - 1 := by omega
    clear h ho hm hpos cells HM1 hUp1 hE hmm hi
    go_enter Try.func44, Try.ntmps44
    go_wp2_with (go_at_call 76; refine HC.out.mono ?_; rintro e w' ⟨rfl, rfl⟩)
    go_region
    go_wp2_with (first
      | (go_at_call 77; refine (hPut_mid HME.out hk).mono ?_; rintro e w3 ⟨rfl, hm3, hu3⟩; have c33 := hm3.c3; have fb3 := hm3.fb; simp only [if_true] at hm3; have HM3 := Lib.hid hm3; have HU3 := Lib.hid hu3; clear hm3 hu3)
      | (go_at_call 78; refine (hSettle_any ((HM3.out.cut (show n - 1 ≤ n by omega)).raw HP.out) hlt HX.out).mono ?_; rintro e w4 ⟨rfl, hq⟩; have HQ := Lib.hid hq; clear hq))
    go_ret
    obtain ⟨f', h1, h2, h3, h4⟩ := HQ.out
    exact ⟨by simp, _, f', h3, h1, h2, ((((((HU1.out.setCell (p := ⟨g, k * 2, none⟩) (fun _ => Or.inr (Or.inr rfl)) _).setCell (p := ⟨g, k * 2 + 1, none⟩) (fun _ => Or.inr (Or.inr rfl)) _).drew).trans HU3.out (fun _ _ h => h)).setCell (p := ⟨b, 3, none⟩) (fun _ => Or.inl rfl) _).trans h4 (fun _ _ h => h)), fun _ h => h⟩
  · have HP := Lib.hid (hpos.removeLast hk hi (by omega))
    have HO := Lib.hid (ho.less (show n - 1 ≤ n by omega))
    have HM := Lib.hid HM1
    have HU1 := Lib.hid hUp1
    have HS := Lib.hid (show ∀ j, j < n - 1 → f j = (if j = k then f (n - 1) else f j) from fun j hj => by rw [if_neg (by omega)])
    have HS2 := Lib.hid (show (fun j => if j = k then f (n - 1) else f j) = f from funext fun j => by
      by_cases hj : j = k
      · rw [if_pos hj, hj, show n - 1 = k by omega]
      · rw [if_neg hj])
    have hlast : ((n - 1 : Nat) : Int) = (n : Int) - 1 := by omega
    clear h ho hm hpos cells HM1 hUp1 hE hmm hi
    go_enter Try.func44, Try.ntmps44
    go_wp2_with (go_at_call 76; refine HC.out.mono ?_; rintro e w' ⟨rfl, rfl⟩)
    go_ret
    refine ⟨by simp, _, f, (HM.out.cut (show n - 1 ≤ n by omega)).raw HP.out, HO.out, ?_, HU1.out.setCell (p := ⟨b, 3, none⟩) (fun _ => Or.inl rfl) _, fun _ h => h⟩
    rw [HS2.out]
    exact SameEnts.refl _ _

end
end Go.Proofs.Ytmlbacbcdjfioaa
