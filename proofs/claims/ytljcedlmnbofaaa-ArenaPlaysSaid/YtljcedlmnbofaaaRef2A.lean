/- Ref2A: the document's arena (seepageref02): valid, exists, Used, Times, Cap, Len, List, Next. -/
import Derived.Test.YtljcedlmnbofaaaL2Made
import Derived.Test.YtljcedlmnbofaaaArenaN
namespace Go.Proofs.Ytljcedlmnbofaaa
open Go.ChangeShapes Go.WideShapes Go.ChangeAt Go.RowKit

def bools (f : Nat → Bool) (n : Nat) : List Value := (List.range n).map fun i => .bool (f i)
def u64s (f : Nat → Nat) (n : Nat) : List Value := (List.range n).map fun i => .int .u64 (f i)
theorem infoU64 : (Try.prog.info? 40).map (fun i => (i.zero, i.size, i.bytes)) = some (some (.int .u64 0), 1, 8) := by kernel_rfl

/-- The document's arena at block b; all that it owns lies from block B on. -/
structure RefAt (B : Nat) (w : World) (b : Nat) (vi vc vr : Value) (A : Ar) : Prop where
  ok : A.Ok
  hb : B ≤ b
  c0 : w.cell? ⟨b, 0, none⟩ = some (.bool true)
  c1 : w.cell? ⟨b, 1, none⟩ = some (.int .i64 A.slots)
  c2 : w.cell? ⟨b, 2, none⟩ = some vi
  c3 : w.cell? ⟨b, 3, none⟩ = some vc
  c4 : w.cell? ⟨b, 4, none⟩ = some vr
  fz : ∀ o, w.frozen? ⟨b, o, none⟩ = false
  oi : w.ownsRow B 4 1 vi A.slots (bools A.used A.slots)
  oc : w.ownsRow B 40 1 vc A.slots (u64s A.times A.slots)
  ox : w.ownsRow B 3 1 vr A.stack.length (ints A.stack.reverse)
  ni : vi.ownBlock ≠ some b
  nc : vc.ownBlock ≠ some b
  nx : vr.ownBlock ≠ some b
  ic : ∀ k, vi.ownBlock = some k → vc.ownBlock ≠ some k
  ix : ∀ k, vi.ownBlock = some k → vr.ownBlock ≠ some k
  cx : ∀ k, vc.ownBlock = some k → vr.ownBlock ≠ some k

def RFoot (b : Nat) (vi vc vr : Value) (k : Nat) : Prop := k = b ∨ vi.ownBlock = some k ∨ vc.ownBlock = some k ∨ vr.ownBlock = some k

theorem owns_same {w w' : World} {B e size n : Nat} {v : Value} {xs : List Value} (h : w.ownsRow B e size v n xs) (hk : ∀ k, v.ownBlock = some k → w'.heap[k]? = w.heap[k]?) : w'.ownsRow B e size v n xs := by
  refine ⟨h.1, ?_⟩
  rcases h.2 with hv | ⟨g, cap, cur, hv, hg, hh, r⟩
  · exact Or.inl hv
  · exact Or.inr ⟨g, cap, cur, hv, hg, by rw [hk g (by rw [hv]; rfl)]; exact hh, r⟩

theorem RefAt.same {B : Nat} {w w' : World} {b : Nat} {vi vc vr : Value} {A : Ar} (h : RefAt B w b vi vc vr A) (hk : ∀ k, RFoot b vi vc vr k → w'.heap[k]? = w.heap[k]?) : RefAt B w' b vi vc vr A := by
  have hb := hk b (Or.inl rfl)
  have e : ∀ o, w'.cell? ⟨b, o, none⟩ = w.cell? ⟨b, o, none⟩ := fun o => World.cell?_of_block (w := w) hb
  have f : ∀ o, w'.frozen? ⟨b, o, none⟩ = w.frozen? ⟨b, o, none⟩ := fun o => World.frozen?_of_block (w := w) hb
  exact ⟨h.ok, h.hb, (e 0).trans h.c0, (e 1).trans h.c1, (e 2).trans h.c2, (e 3).trans h.c3, (e 4).trans h.c4, fun o => (f o).trans (h.fz o),
    owns_same h.oi (fun k hv => hk k (Or.inr (Or.inl hv))), owns_same h.oc (fun k hv => hk k (Or.inr (Or.inr (Or.inl hv)))), owns_same h.ox (fun k hv => hk k (Or.inr (Or.inr (Or.inr hv)))), h.ni, h.nc, h.nx, h.ic, h.ix, h.cx⟩
theorem RefAt.foot {B : Nat} {w : World} {b : Nat} {vi vc vr : Value} {A : Ar} (h : RefAt B w b vi vc vr A) {k : Nat} (hk : RFoot b vi vc vr k) : B ≤ k ∧ k < w.heap.size := by
  rcases hk with rfl | hk | hk | hk
  · exact ⟨h.hb, World.block_lt_of_cell? w ⟨_, 0, none⟩ h.c0⟩
  · exact h.oi.lt k hk
  · exact h.oc.lt k hk
  · exact h.ox.lt k hk
theorem RefAt.below {B : Nat} {w w' : World} {b : Nat} {vi vc vr : Value} {A : Ar} (h : RefAt B w b vi vc vr A) (hb : Below w.heap.size w w') : RefAt B w' b vi vc vr A :=
  h.same fun k hk => hb.block k (h.foot hk).2
theorem RefAt.drewN {B : Nat} {w : World} {b : Nat} {vi vc vr : Value} {A : Ar} (h : RefAt B w b vi vc vr A) (n : Nat) : RefAt B (w.drewN n) b vi vc vr A := h.same fun _ _ => rfl

/-- What a slice that is owned reads as, at an index. -/
theorem owns_get {w : World} {B e n : Nat} {v : Value} {xs : List Value} (h : w.ownsRow B e 1 v n xs) {i : Nat} (hi : i < n) : ∃ g cap, v = .slice (some ⟨g, 0, none⟩) n cap ∧ w.cell? ⟨g, i, none⟩ = xs[i]? ∧ n ≤ cap ∧ cap ≤ 9223372036854775807 := by
  rcases h.2 with ⟨_, h0⟩ | ⟨g, cap, cur, rfl, _, _, hn, hm, _, _⟩
  · omega
  · exact ⟨g, cap, rfl, h.cellAt i (by omega), hn, by simpa [maxLen] using hm⟩
/-- .. and its shape. -/
theorem owns_shape {w : World} {B e n : Nat} {v : Value} {xs : List Value} (h : w.ownsRow B e 1 v n xs) : ∃ a cap, v = .slice a n cap ∧ n ≤ cap ∧ cap ≤ 9223372036854775807 := by
  rcases h.2 with ⟨rfl, rfl⟩ | ⟨g, cap, cur, rfl, _, _, hn, hm, _, _⟩
  · exact ⟨none, 0, rfl, Nat.le_refl _, by omega⟩
  · exact ⟨_, cap, rfl, hn, by simpa [maxLen] using hm⟩

section
variable {B : Nat} {w : World} {b : Nat} {vi vc vr : Value} {A : Ar}
set_option maxHeartbeats 400000

theorem rValid_any (h : RefAt B w b vi vc vr A) : Calls Try.prog 39 #[.pointer (some ⟨b, 0, none⟩)] w fun e w' => e = .returned (.bool true) ∧ w = w' := by
  have c0 := h.c0
  clear h
  go_enter Try.func39, Try.ntmps39
  go_wp2
  go_ret
  exact ⟨by simp, rfl⟩

theorem rExists_any (h : RefAt B w b vi vc vr A) (i : Int) : Calls Try.prog 40 #[.pointer (some ⟨b, 0, none⟩), .int .i64 i] w fun e w' => e = .returned (.bool (decide (0 ≤ i ∧ i < A.slots))) ∧ w = w' := by
  have c1 := h.c1
  have HV := Lib.hid (rValid_any h)
  clear h
  by_cases h0 : 0 ≤ i
  · by_cases h1 : i < A.slots
    · go_enter Try.func40, Try.ntmps40
      go_wp2_with (go_at_call 39; refine HV.out.mono ?_; rintro e w' ⟨rfl, rfl⟩)
      go_ret
      exact ⟨by simp [h0, h1], rfl⟩
    · go_enter Try.func40, Try.ntmps40
      go_wp2_with (go_at_call 39; refine HV.out.mono ?_; rintro e w' ⟨rfl, rfl⟩)
      go_ret
      exact ⟨by simp; omega, rfl⟩
  · go_enter Try.func40, Try.ntmps40
    go_wp2_with (go_at_call 39; refine HV.out.mono ?_; rintro e w' ⟨rfl, rfl⟩)
    go_ret
    exact ⟨by simp; omega, rfl⟩

theorem rUsed_any (h : RefAt B w b vi vc vr A) (i : Int) : Calls Try.prog 33 #[.pointer (some ⟨b, 0, none⟩), .int .i64 i] w fun e w' => e = .returned (.bool (A.usedAt i)) ∧ w = w' := by
  have HX := Lib.hid (rExists_any h i)
  by_cases hi : 0 ≤ i ∧ i < A.slots
  · obtain ⟨j, rfl⟩ := Int.eq_ofNat_of_zero_le hi.1
    have hj : j < A.slots := by omega
    obtain ⟨g, cap, rfl, d, hn, hm⟩ := owns_get h.oi hj
    have hs := h.ok.slots
    have c2 := h.c2
    have HR := Lib.hid (show A.usedAt (j : Int) = A.used j by simp [Ar.usedAt])
    have d2 : w.cell? ⟨g, j, none⟩ = some (.bool (A.used j)) := by rw [d]; simp [bools, hj]
    rw [show decide (0 ≤ (j : Int) ∧ (j : Int) < (A.slots : Int)) = true by simp; omega] at HX
    clear h hi d
    go_enter Try.func33, Try.ntmps33
    go_wp2_with (go_at_call 40; refine HX.out.mono ?_; rintro e w' ⟨rfl, rfl⟩)
    go_ret
    exact ⟨by simp [HR.out], rfl⟩
  · rw [show decide (0 ≤ i ∧ i < (A.slots : Int)) = false by simpa using hi] at HX
    have HR := Lib.hid (show A.usedAt i = false by
      simp only [Ar.usedAt, Ar.used, Bool.and_eq_false_iff, decide_eq_false_iff_not]
      have := h.ok.fresh
      omega)
    clear h hi
    go_enter Try.func33, Try.ntmps33
    go_wp2_with (go_at_call 40; refine HX.out.mono ?_; rintro e w' ⟨rfl, rfl⟩)
    go_ret
    exact ⟨by simp [HR.out], rfl⟩

theorem rTimes_any (h : RefAt B w b vi vc vr A) (i : Int) : Calls Try.prog 34 #[.pointer (some ⟨b, 0, none⟩), .int .i64 i] w fun e w' => e = .returned (.int .u64 (A.timesAt i)) ∧ w = w' := by
  have HX := Lib.hid (rExists_any h i)
  by_cases hi : 0 ≤ i ∧ i < A.slots
  · obtain ⟨j, rfl⟩ := Int.eq_ofNat_of_zero_le hi.1
    have hj : j < A.slots := by omega
    obtain ⟨g, cap, rfl, d, hn, hm⟩ := owns_get h.oc hj
    have hs := h.ok.slots
    have c3 := h.c3
    have HR := Lib.hid (show A.timesAt (j : Int) = A.times j by simp [Ar.timesAt, hj])
    have d2 : w.cell? ⟨g, j, none⟩ = some (.int .u64 (A.times j)) := by rw [d]; simp [u64s, hj]
    rw [show decide (0 ≤ (j : Int) ∧ (j : Int) < (A.slots : Int)) = true by simp; omega] at HX
    clear h hi d
    go_enter Try.func34, Try.ntmps34
    go_wp2_with (go_at_call 40; refine HX.out.mono ?_; rintro e w' ⟨rfl, rfl⟩)
    go_ret
    exact ⟨by simp [HR.out], rfl⟩
  · rw [show decide (0 ≤ i ∧ i < (A.slots : Int)) = false by simpa using hi] at HX
    have HR := Lib.hid (show A.timesAt i = 0 by simp [Ar.timesAt]; omega)
    clear h hi
    go_enter Try.func34, Try.ntmps34
    go_wp2_with (go_at_call 40; refine HX.out.mono ?_; rintro e w' ⟨rfl, rfl⟩)
    go_ret
    exact ⟨by simp [HR.out], rfl⟩

theorem rCap_any (h : RefAt B w b vi vc vr A) : Calls Try.prog 36 #[.pointer (some ⟨b, 0, none⟩)] w fun e w' => e = .returned (.int .i64 A.slots) ∧ w = w' := by
  have c1 := h.c1
  have HV := Lib.hid (rValid_any h)
  clear h
  go_enter Try.func36, Try.ntmps36
  go_wp2_with (go_at_call 39; refine HV.out.mono ?_; rintro e w' ⟨rfl, rfl⟩)
  go_ret
  exact ⟨by simp, rfl⟩

set_option maxHeartbeats 1000000 in
theorem rList_any (h : RefAt B w b vi vc vr A) : Calls Try.prog 37 #[.pointer (some ⟨b, 0, none⟩)] w fun e w' => ∃ v, e = .returned v ∧ w'.ownsRow w.heap.size 3 1 v A.list.length (ints A.list) ∧ Below w.heap.size w w' := by
  have HV := Lib.hid (rValid_any h)
  have hm := h.ok.slots
  have H := Lib.hid h
  clear h
  go_enter Try.func37, Try.ntmps37
  go_wp2_with (go_at_call 39; refine HV.out.mono ?_; rintro e w' ⟨rfl, rfl⟩)
  go_loopw [3, 4] (fun v i wr => ∃ k : Nat, k ≤ A.slots ∧ i = .int .i64 k ∧ wr.ownsRow w.heap.size 3 1 v (A.listTo k).length (ints (A.listTo k)) ∧ Below w.heap.size w wr) (fun _ i _ => A.slots - (intOf i).toNat)
  case atStart => exact ⟨0, Nat.zero_le _, rfl, by simpa [Ar.listTo, ints] using World.ownsRow_nil w w.heap.size 3 1, Below.refl _ _⟩
  case round =>
    obtain ⟨k, hk, rfl, hown, hbel⟩ := hrel
    have h2 := H.out.below hbel
    have c1 := h2.c1
    have hsz := hbel.size
    have hll := A.listTo_len k
    have HS := Lib.hid (A.listTo_succ k)
    have HB := Lib.hid hbel
    by_cases hlt : k < A.slots
    · obtain ⟨g, cap, rfl, d, hn, hmm⟩ := owns_get h2.oi hlt
      have c2 := h2.c2
      have d2 : wr.cell? ⟨g, k, none⟩ = some (.bool (A.used k)) := by rw [d]; simp [bools, hlt]
      clear h2 hbel d
      cases hu : A.used k with
      | true =>
        rw [hu] at d2 HS
        simp only [if_true] at HS
        clear hu
        go_wp2_with (at_builtin; refine wpList_append1 _ _ 32 rfl rfl infoInt Try.underlying32 rfl (by decide) rfl rfl (hown.alloc _) rfl (cell_one (u := .int .i64 k) (ad := ⟨wr.heap.size, 0, none⟩) (by simp)) (one_oneCell rfl) (by unfold maxLen; omega) (by omega) (by simp; omega) ?_; intro v' w1 hown1 hgr1 _)
        have hb1 : Below w.heap.size w w1 := (HB.out.alloc hsz _).grown hgr1 (by simp; omega) (fun q hq => (hown.lt q hq).1)
        clear d2 c1 c2
        go_wp2
        go_roundw
        case rel =>
          refine ⟨k + 1, by omega, by simp, ?_, hb1⟩
          rw [HS.out]
          simpa [ints] using hown1
        case measure => simp [intOf]; omega
      | false =>
        rw [hu] at d2 HS
        simp only [Bool.false_eq_true, if_false, List.append_nil] at HS
        clear hu
        go_wp2
        go_roundw
        case rel =>
          refine ⟨k + 1, by omega, by simp, ?_, HB.out⟩
          rw [HS.out]
          exact hown
        case measure => simp [intOf]; omega
    · have hks : k = A.slots := by omega
      have HO := Lib.hid hown
      clear hown hbel h2
      go_wp2
      go_ret
      refine ⟨_, rfl, ?_, HB.out⟩
      have := HO.out
      rw [hks] at this
      exact this

theorem rLen_any (h : RefAt B w b vi vc vr A) : Calls Try.prog 35 #[.pointer (some ⟨b, 0, none⟩)] w fun e w' => e = .returned (.int .i64 A.list.length) ∧ Below w.heap.size w w' := by
  have HL := Lib.hid (rList_any h)
  clear h
  go_enter Try.func35, Try.ntmps35
  go_wp2_with fail
  refine HL.out.mono ?_
  rintro e w1 ⟨v, rfl, ho, hb⟩
  obtain ⟨a, c, rfl, _, _⟩ := owns_shape ho
  have HB := Lib.hid hb
  clear ho hb
  go_wp2
  go_ret
  exact ⟨by simp, HB.out⟩
end
end Go.Proofs.Ytljcedlmnbofaaa
