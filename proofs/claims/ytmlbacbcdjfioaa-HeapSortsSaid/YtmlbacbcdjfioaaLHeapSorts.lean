/- For every list of keys seepagelaw04.HeapSorts returns true, and its argument reads as before. No condition. -/
import Derived.Test.YtmlbacbcdjfioaaL4Fill
import Derived.Test.YtmlbacbcdjfioaaClose
namespace Go.Proofs.Ytmlbacbcdjfioaa
open Go.ChangeShapes Go.WideShapes Go.ChangeAt Go.RowKit
namespace HeapSorts
theorem infoBool : (Try.prog.info? 4).map (fun i => (i.zero, i.size, i.bytes)) = some (some (.bool false), 1, 1) := by kernel_rfl

structure Inv (w wr : World) (b : Nat) (A : Hp) (S : Nat → Prop) (s L : Nat) (sn : Nat → Bool) (li : Nat) (lk : Int) (k len : Nat) (zs : List Int) : Prop where
  hin : HIn w wr b A S
  ns : ¬ S s
  nl : ¬ S L
  ne : s ≠ L
  sl : s < wr.heap.size
  ws : w.heap.size ≤ s
  wl : w.heap.size ≤ L
  keys : ∀ i, A.keys i = if i < len ∧ sn i = false then some (zs.getD i 0) else none
  len : A.len + k = len
  seen : ∀ i, i < 300 → wr.cell? ⟨s, i, none⟩ = some (.bool (sn i))
  fs : ∀ o, wr.frozen? ⟨s, o, none⟩ = false
  last : wr.heap[L]? = some (.cells #[.int .i64 (li : Int), .int .i64 lk] 28 (0, 0))
  ord : 0 < k → ∀ i v, A.keys i = some v → before (i, v) (li, lk) = false

theorem Inv.step {w wr w3 : World} {b : Nat} {A : Hp} {S S3 : Nat → Prop} {s L : Nat} {sn : Nat → Bool} {li : Nat} {lk : Int} {k len : Nat} {zs : List Int} (inv : Inv w wr b A S s L sn li lk k len zs) {xi : Nat} {xk : Int}
    (hmin : A.IsMin (xi, xk)) (hf : A.first = some (xi, xk)) (h3 : HIn w w3 b A.popA S3) (hsub : ∀ q, S3 q → S q ∨ wr.heap.size ≤ q) (hu3 : Upd S wr w3) (X : Obj) :
    Inv w ((((w3.setCell ⟨s, xi, none⟩ (.bool true)).setCell ⟨L, 0, none⟩ (.int .i64 (xi : Int))).setCell ⟨L, 1, none⟩ (.int .i64 xk)).alloc X).drew b A.popA S3 s L (fun j => if j = xi then true else sn j) xi xk (k + 1) len zs := by
  have hA : A.popA = A.del xi := by unfold Hp.popA; rw [hf]
  have hLl := (row_two inv.last).2.2.2
  have hsl := inv.sl
  have hsz := hu3.size
  have hns : ¬ S3 s := fun h => by
    rcases hsub s h with h | h
    · exact inv.ns h
    · omega
  have hnl : ¬ S3 L := fun h => by
    rcases hsub L h with h | h
    · exact inv.nl h
    · omega
  have hu : Upd (fun q => q = s ∨ q = L) w3 ((((w3.setCell ⟨s, xi, none⟩ (.bool true)).setCell ⟨L, 0, none⟩ (.int .i64 (xi : Int))).setCell ⟨L, 1, none⟩ (.int .i64 xk)).alloc X).drew :=
    (((((Upd.refl _ w3).setCell (p := ⟨s, xi, none⟩) (fun _ => Or.inl rfl) _).setCell (p := ⟨L, 0, none⟩) (fun _ => Or.inr rfl) _).setCell (p := ⟨L, 1, none⟩) (fun _ => Or.inr rfl) _).alloc X).drew
  have hws := inv.ws
  have hwl := inv.wl
  have hne := inv.ne
  have seen3 : ∀ i, i < 300 → w3.cell? ⟨s, i, none⟩ = some (.bool (sn i)) := fun i hi => hu3.cell_some (p := ⟨s, i, none⟩) (inv.seen i hi) inv.ns
  have fs3 : ∀ o, w3.frozen? ⟨s, o, none⟩ = false := fun o => (hu3.frozen (p := ⟨s, o, none⟩) hsl inv.ns).trans (inv.fs o)
  have last3 := (hu3.keep L hLl inv.nl).trans inv.last
  refine ⟨h3.upd hu ?_ ?_, hns, hnl, hne, Nat.lt_of_lt_of_le (by omega) hu.size, hws, hwl, ?_, ?_, ?_, ?_, ?_, ?_⟩
  · rintro q hq (rfl | rfl)
    · exact hns hq
    · exact hnl hq
  · rintro q hq (rfl | rfl) <;> omega
  · intro i
    rw [hA]
    simp only [Hp.del]
    by_cases h1 : i = xi
    · simp [h1]
    · simp only [h1, if_false]; exact inv.keys i
  · have h1 := inv.hin.1.len_del hmin.there
    have h2 := inv.len
    rw [hA]; simp only at h1; omega
  · intro i hi
    show (World.alloc _ X).cell? _ = _
    rw [World.cell?_alloc_past _ _ _ (by simp; omega), World.cell?_setCell_other _ _ _ _ (by simp <;> omega), World.cell?_setCell_other _ _ _ _ (by simp <;> omega), cell_set]
    by_cases h1 : i = xi
    · subst h1; rw [if_pos rfl, seen3 i hi]; simp
    · rw [if_neg (by simp <;> omega), seen3 i hi]; simp [h1]
  · intro o
    show (World.alloc _ X).frozen? _ = _
    rw [World.frozen?_alloc_past _ _ _ (by simp; omega), frozen_set, frozen_set, frozen_set]
    exact fs3 o
  · show (World.alloc _ X).heap[L]? = _
    rw [heap_alloc_old _ _ (by simp; omega)]
    exact row_two_set ((heap_setCell_other w3 _ L _ (by simp; omega)).trans last3) _ _
  · intro _ i v hv
    rw [hA] at hv
    simp only [Hp.del] at hv
    split at hv
    · simp at hv
    · exact hmin.least i v hv

theorem upto_len {w0 w : World} {b : Nat} {zs : List Int} {k : Nat} {S : Nat → Prop} (h : HIn w0 w b (Hp.upto zs k) S) : (Hp.upto zs k).len = k := by
  have hr : Rep (Hp.upto zs k) k (fun i => (i, zs.getD i 0)) := by
    refine ⟨fun i j _ _ e => e, fun i hi => by simp [Hp.upto, hi], ?_⟩
    intro i v hv
    simp only [Hp.upto] at hv
    split at hv
    · rename_i hi
      simp at hv
      exact ⟨i, hi, by simp [hv]⟩
    · simp at hv
  exact (hr.len h.1.ok).symm

theorem made_bool (n j : Nat) (hj : j < n) : (madeCells (Value.cells (.bool false)) (n * 1)).toList[j]? = some (.bool false) := by
  rw [show Value.cells (.bool false) = #[.bool false] from rfl, toList_madeCells_one]
  simp [hj]

set_option maxHeartbeats 2000000
set_option maxRecDepth 100000 in
theorem walk (a : Option Addr) (len cap : Nat) (zs : List Int) (w : World) (hin : IntsIn w .i64 a len cap zs) :
    Calls Try.prog 3 #[.slice a len cap] w fun e w' => e = .returned (.bool true) ∧ Below w.heap.size w w' := by
  have hle := hin.hle
  have hmax := hin.hmax
  have HC := Lib.hid hin.hcell
  by_cases hl : len ≤ 300
  · have HF := Lib.hid (l4filled_fwd hin hl)
    clear hin
    go_enter Try.func3, Try.ntmps3
    go_wp2_with (first
      | (go_at_call 22; refine HF.out.mono ?_; rintro e w1 ⟨b, S1, rfl, h⟩; have H1 := Lib.hid h; clear h)
      | (at_make; refine wpList_makeN _ _ 26 rfl rfl infoBool Try.underlying26 _ _ _ _ 300 rfl rfl (by omega) (by omega) (by omega) (by unfold maxLen; omega) ?_; intro w2 hown hgr; have HO := Lib.hid hown; have HG := Lib.hid hgr; clear hown hgr))
    have h1 := H1.out
    have hb2 : Below w1.heap.size w1 w2 := (Below.refl _ _).grown HG.out (Nat.le_refl _) (fun k hk => by simp at hk)
    have hs2 : w1.heap.size < w2.heap.size := (HO.out.lt _ rfl).2
    have I0 : Inv w (w2.alloc (.cells #[.int .i64 0, .int .i64 0] 28)) b (Hp.upto zs len) S1 w1.heap.size w2.heap.size (fun _ => false) 0 0 0 len zs := by
      have hfoot := fun k hk => (h1.1.foot (k := k) hk).2
      refine ⟨(h1.below hb2).below ((Below.refl _ _).alloc (Nat.le_refl _) _), fun h => absurd (hfoot _ h) (by omega), fun h => absurd (hfoot _ h) (by omega), by omega, by simp; omega, h1.2.size, Nat.le_trans h1.2.size (by omega), ?_, upto_len h1, ?_, ?_, ?_, fun h => by omega⟩
      · intro i; simp [Hp.upto]
      · intro i hi
        rw [World.cell?_alloc_past _ _ _ hs2, HO.out.cellAt _ (by omega)]
        exact made_bool 300 i hi
      · intro o
        rw [World.frozen?_alloc_past _ _ _ hs2]
        exact HO.out.frozenAt o
      · exact heap_alloc_new _ _
    have I1 := Lib.hid I0
    clear I0 h1 hb2 hs2 H1 HO HG
    go_loopw [2, 6] (fun x2 x6 wr => ∃ (k : Nat) (A : Hp) (S : Nat → Prop) (sn : Nat → Bool) (li : Nat) (lk : Int), k ≤ len ∧ x2 = .bool false ∧ x6 = .int .i64 k ∧ Inv w wr b A S w1.heap.size w2.heap.size sn li lk k len zs) (fun _ x6 _ => len - (intOf x6).toNat)
    case atStart => exact ⟨0, _, _, _, _, _, Nat.zero_le _, rfl, rfl, I1.out⟩
    case round =>
      obtain ⟨k, A, S, sn, li, lk, hk, rfl, rfl, inv⟩ := hrel
      have hfoot := fun q hq => (inv.hin.1.foot (k := q) hq).2
      by_cases hlt : k < len
      · obtain ⟨⟨xi, xk⟩, hfirst⟩ := inv.hin.1.first_some (show 0 < A.len by have := inv.len; omega)
        have hmin := Hp.first_min hfirst
        have hxk := inv.keys xi
        rw [show A.keys xi = some xk from hmin.there] at hxk
        obtain ⟨hxl, hsn, hxe⟩ : xi < len ∧ sn xi = false ∧ xk = zs.getD xi 0 := by
          split at hxk
          · rename_i hh
            simp at hxk
            exact ⟨hh.1, hh.2, by simpa using hxk⟩
          · simp at hxk
        obtain ⟨b0, off, rfl, hb0, hcz⟩ := HC.out xi hxl
        rw [← hxe] at hcz
        have hs3 := inv.seen xi (by omega)
        rw [hsn] at hs3
        have hpop := inv.hin.pop
        rw [hfirst] at hpop
        have HP := Lib.hid hpop
        have hlb := (row_two inv.last).2.2.2
        have hsl := inv.sl
        have HI := Lib.hid inv
        have HZ := Lib.hid hcz
        have HS3 := Lib.hid hs3
        have HX := Lib.hid (And.intro hfirst (And.intro hmin hxe))
        have HO2 := Lib.hid (show k ≤ 0 ∨ (0 < k ∧ lk < xk ∧ (xk == lk) = false) ∨ (0 < k ∧ xk ≤ lk ∧ lk ≤ xk ∧ (xk == lk) = true ∧ li ≤ xi) by
          by_cases hk0 : k = 0
          · exact Or.inl (Nat.le_of_eq hk0)
          · have := inv.ord (by omega) xi xk hmin.there
            rw [not_before_iff] at this
            simp only at this
            rcases this with h | ⟨h, h'⟩
            · exact Or.inr (Or.inl ⟨by omega, h, by simp; omega⟩)
            · exact Or.inr (Or.inr ⟨by omega, by omega, by omega, by simp [h], h'⟩))
        clear inv hpop hs3 hcz hmin hxk hfirst hxe hsn
        go_wp2_with (first
          | (go_at_call 23; refine HP.out.mono ?_; rintro e w3 ⟨rfl, S3, h3, hsub3, hu3⟩; simp only [minV, entV]; have ks := hu3.cell_some (p := ⟨w1.heap.size, xi, none⟩) HS3.out HI.out.ns; have kf := (hu3.frozen (p := ⟨w1.heap.size, xi, none⟩) hsl HI.out.ns).trans (HI.out.fs xi); have kl := (hu3.keep _ hlb HI.out.nl).trans HI.out.last; obtain ⟨kl0, kl1, klf, kll⟩ := row_two kl; have kz := (h3.2.cell (p := ⟨b0, off + xi, none⟩) hb0).trans HZ.out; have hsz3 := hu3.size; have hszw := h3.2.size; have H3 := Lib.hid h3; have HU3 := Lib.hid hu3; have HSUB := Lib.hid hsub3; have KL := Lib.hid kl; clear h3 hu3 hsub3 kl))
        have hb03 : b0 < w3.heap.size := by omega
        have hsl3 : w1.heap.size < w3.heap.size := by omega
        have hx300 : xi < 300 := by omega
        have hne12 : w1.heap.size ≠ w2.heap.size := HI.out.ne
        have hne21 : w2.heap.size ≠ w1.heap.size := HI.out.ne.symm
        have hd1 : decide ((xi : Int) < 0) = false := by simp
        have hd2 : decide (len ≤ xi) = false := by simp; omega
        go_region
        rcases HO2.out with hk0 | ⟨hk0, ho, hq⟩ | ⟨hk0, ho, ho4, ho3, ho2⟩
        all_goals go_wp2
        all_goals (
          go_roundw
          case rel => exact ⟨k + 1, A.popA, S3, _, xi, xk, by omega, rfl, by simp <;> omega, HI.out.step HX.out.2.1 HX.out.1 H3.out HSUB.out HU3.out _⟩
          case measure => simp [intOf]; omega)
      · have hlen := inv.len
        have hl0 : A.len = 0 := by omega
        have hf := inv.hin.1.first_none hl0
        have HP := inv.hin.pop
        rw [hf, show A.popA = A by unfold Hp.popA; rw [hf]] at HP
        have HP := Lib.hid HP
        clear inv hlen hf
        go_wp2_with (first
          | (go_at_call 23; refine HP.out.mono ?_; rintro e w3 ⟨rfl, S3, h3, _, _⟩; simp only [minV]; have H3 := Lib.hid h3; clear h3)
          | (go_at_call 24; refine (HIn.len (H3.out.below ((Below.refl _ _).alloc (Nat.le_refl _) _))).mono ?_; rintro e w4 ⟨rfl, rfl⟩; rw [hl0])
          | (go_at_call 21; refine (l4works_any _).mono ?_; rintro e w5 ⟨rfl, hb5⟩))
        go_ret
        exact ⟨by simp, (H3.out.2.alloc H3.out.2.size _).trans ((by assumption : Below _ _ _).mono (by have := H3.out.2.size; simp; omega))⟩
  · clear hin
    go_enter Try.func3, Try.ntmps3
    go_wp2_with (go_at_call 21; refine (l4works_any _).mono ?_; rintro e w' ⟨rfl, hb⟩)
    go_ret
    exact ⟨by simp, by assumption⟩
end HeapSorts
end Go.Proofs.Ytmlbacbcdjfioaa
