/- L3Fill: layer 3: the laws' own 'works' and 'filled'. -/
import Derived.Test.YthlfmlpdnbeelaaIntI
import Derived.Test.YthlfmlpdnbeelaaIntJ
import Derived.Test.YthlfmlpdnbeelaaInfo
set_option linter.unusedSimpArgs false
set_option linter.unusedVariables false
namespace Go.Proofs.Ythlfmlpdnbeelaa
open Go.ChangeShapes Go.WideShapes Go.ChangeAt Go.RowKit

set_option maxHeartbeats 4000000
set_option maxRecDepth 100000
section
variable {w0 w : World} {r : List Thing}
theorem Sep.l3works (h : Sep w0 w r) : Calls Try.prog 19 #[] w fun e w' => e = .returned (.bool true) ∧ Sep w0 w' r := by
  have HS := Lib.hid h
  have E1 := Lib.hid (show (It.new 3).putR 70 = (0, true, 0) by decide)
  have E2 := Lib.hid (show ((It.new 3).put 70).putR 80 = (1, true, 0) by decide)
  have E3 := Lib.hid (show (((It.new 3).put 70).put 80).putR 70 = (0, false, 0) by decide)
  have E4 := Lib.hid (show ((((It.new 3).put 70).put 80).put 70).delE 70 = 0 by decide)
  have E5 := Lib.hid (show (((((It.new 3).put 70).put 80).put 70).del 70).putR 90 = (0, true, 0) by decide)
  have E6 := Lib.hid (show ((((((It.new 3).put 70).put 80).put 70).del 70).put 90).ar.list.length = 2 by decide)
  clear h
  go_enter Try.func19, Try.ntmps19
  go_wp2_with (first
    | (go_at_call 23; refine (Sep.iLenEq H6.out E6.out).mono ?_; rintro e wz ⟨rfl, rfl⟩)
    | (go_at_call 22; refine (Sep.iPut H5.out 90 (by omega)).mono ?_; rintro e w6 ⟨rfl, S6, h⟩; rw [E5.out]; simp only [putV]; have H6 := Lib.hid h; clear h H5)
    | (go_at_call 21; refine (Sep.iDel H4.out 70 (by omega)).mono ?_; rintro e w5 ⟨rfl, S5, h⟩; rw [E4.out]; have H5 := Lib.hid h; clear h H4)
    | (go_at_call 22; refine (Sep.iPut H3.out 70 (by omega)).mono ?_; rintro e w4 ⟨rfl, S4, h⟩; rw [E3.out]; simp only [putV]; have H4 := Lib.hid h; clear h H3)
    | (go_at_call 22; refine (Sep.iPut H2.out 80 (by omega)).mono ?_; rintro e w3 ⟨rfl, S3, h⟩; rw [E2.out]; simp only [putV]; have H3 := Lib.hid h; clear h H2)
    | (go_at_call 22; refine (Sep.iPut H1.out 70 (by omega)).mono ?_; rintro e w2 ⟨rfl, S2, h⟩; rw [E1.out]; simp only [putV]; have H2 := Lib.hid h; clear h H1)
    | (go_at_call 20; refine (Sep.iNew HS.out 3 (by omega)).mono ?_; rintro e w1 ⟨t, S1, rfl, h⟩; have H1 := Lib.hid h; clear h))
  go_ret
  exact ⟨by simp, H6.out.tail⟩

theorem IntsIn.cellAt {w : World} {k : IntKind} {b off n cap : Nat} {zs : List Int} (h : IntsIn w k (some ⟨b, off, none⟩) n cap zs) {i : Nat} (hi : i < n) : w.cell? ⟨b, off + i, none⟩ = some (.int k (zs.getD i 0)) := by
  obtain ⟨b', off', ha, _, hc⟩ := h.hcell i hi
  simp only [Option.some.injEq, Addr.mk.injEq, and_true] at ha
  obtain ⟨rfl, rfl⟩ := ha
  exact hc
theorem IntsIn.addr {w : World} {k : IntKind} {a : Option Addr} {n cap : Nat} {zs : List Int} (h : IntsIn w k a n cap zs) (hn : 0 < n) : ∃ b off, a = some ⟨b, off, none⟩ := by
  obtain ⟨b, off, ha, _⟩ := h.hcell 0 hn
  exact ⟨b, off, ha⟩
def natsOf (zs : List Int) : List Nat := zs.map Int.toNat
theorem natsOf_len (zs : List Int) : (natsOf zs).length = zs.length := by simp [natsOf]
theorem IntsIn.nat {w : World} {a : Option Addr} {len cap : Nat} {zs : List Int} (h : IntsIn w .u64 a len cap zs) : (∀ x ∈ natsOf zs, x < 18446744073709551616) ∧ ∀ k, k < len → zs.getD k 0 = ((natsOf zs).getD k 0 : Int) := by
  constructor
  · intro x hx
    obtain ⟨z, hz, rfl⟩ := List.mem_map.1 hx
    have := wf_u64 (h.hwf z hz)
    omega
  · intro k hk
    have := wf_u64 (h.getD_wf k hk)
    have hl := h.hlen
    have e : (natsOf zs).getD k 0 = (zs.getD k 0).toNat := by simp [natsOf, List.getD, List.getElem?_eq_getElem (show k < zs.length by omega)]
    rw [e]; omega
/-- The indexes that they got. -/
def atL (n : Nat) (xs : List Nat) (k : Nat) : List Int := (List.range k).map fun j => ((It.atOf n xs j : Nat) : Int)
theorem atL_len (n : Nat) (xs : List Nat) (k : Nat) : (atL n xs k).length = k := by simp [atL]
theorem atL_at {n : Nat} (xs : List Nat) {k j : Nat} (h : j < k) : (atL n xs k).getD j 0 = ((It.atOf n xs j : Nat) : Int) := by simp [atL, List.getD, h]
theorem atL_succ (n : Nat) (xs : List Nat) (k : Nat) : (atL n xs k).map (Value.int .i64) ++ [.int .i64 ((It.atOf n xs k : Nat) : Int)] = (atL n xs (k + 1)).map (Value.int .i64) := by simp [atL, List.range_succ]

theorem Sep.l3filled (h : Sep w0 w r) {a : Option Addr} {len cap : Nat} {zs : List Int} (hx : IntsIn w0 .u64 a len cap zs) (n : Nat) (hn : n ≤ 65536) (hl : len ≤ n) :
    Calls Try.prog 24 #[.int .i64 (n : Int), .slice a len cap] w fun e w' => ∃ t S a' cap', e = .returned (.tuple #[.pointer (some ⟨t, 0, none⟩), .slice a' len cap', .bool true]) ∧ len ≤ cap' ∧ cap' ≤ 9223372036854775807 ∧
      Sep w0 w' (tabT w0.heap.size t (It.fill n (natsOf zs)) S :: intsT .i64 a' len cap' (atL n (natsOf zs) len) :: r) := by
  obtain ⟨hnat1, hnat2⟩ := hx.nat
  have hle := hx.hle
  have hmx := hx.hmax
  have hlen := hx.hlen
  have HC := Lib.hid hx.hcell
  have HS := Lib.hid h
  obtain ⟨xs, hxs⟩ : ∃ xs, natsOf zs = xs := ⟨_, rfl⟩
  have hxl : xs.length = len := by rw [← hxs, natsOf_len]; exact hlen
  rw [hxs] at hnat1 hnat2 ⊢
  have HN := Lib.hid (And.intro hnat1 (And.intro hnat2 (And.intro hxl hn)))
  clear h hx hnat1 hnat2 hlen hxs hxl
  go_enter Try.func24, Try.ntmps24
  go_wp2_with (go_at_call 20; refine (Sep.iNew HS.out n hn).mono ?_; rintro e w1 ⟨t, S1, rfl, h⟩; have H1 := Lib.hid h; clear h)
  go_loopw [4, 5, 6, 9, 10] (fun x1 x2 x3 u y wr => ∃ (k : Nat) (S : Nat → Prop), x1 = .pointer none ∧ x2 = .slice none 0 0 ∧ x3 = .bool false ∧ y = .int .i64 k ∧ k ≤ len ∧ Sep w0 wr (tabT w0.heap.size t (It.fill n (xs.take k)) S :: ownT w0.heap.size 3 1 k u ((atL n xs k).map (Value.int .i64)) :: r)) (fun _ _ _ _ y _ => len - (intOf y).toNat)
  case atStart =>
    refine ⟨0, S1, rfl, rfl, rfl, rfl, Nat.zero_le _, ?_⟩
    have := H1.out.add (Below.refl _ _) (ownT w0.heap.size 3 1 0 (.slice none 0 0) ((atL n xs 0).map (Value.int .i64))) (World.ownsRow_nil _ _ _ _) (fun q hq => by simp [ownT, Value.ownBlock] at hq)
    exact this.swap2
  case round =>
    obtain ⟨k, S, rfl, rfl, rfl, rfl, hk, hsep⟩ := hrel
    have HSK := Lib.hid hsep
    by_cases hlt : k < len
    · obtain ⟨b0, off, rfl, hb0, hc⟩ := HC.out k hlt
      have hc2 := (hsep.below.cell (p := ⟨b0, off + k, none⟩) hb0).trans hc
      obtain ⟨hn1, hn2, hxl, _⟩ := HN.out
      rw [hn2 k hlt] at hc2
      have hxk := It.getD_lt hn1 k
      obtain ⟨i1, i2, i3⟩ := It.fill_inv hn hn1 k (by omega)
      have hroom := It.putR_room i1 (xs.getD k 0) (by omega)
      have hstep := It.fill_succ n (xs := xs) (k := k) (by omega)
      have hat : ((It.fill n (xs.take k)).putR (xs.getD k 0)).1 = It.atOf n xs k := rfl
      obtain ⟨R, hR⟩ : ∃ R, (It.fill n (xs.take k)).putR (xs.getD k 0) = R := ⟨_, rfl⟩
      obtain ⟨ix, ib, ie⟩ := R
      have HRR := Lib.hid hR
      have HAT := Lib.hid (And.intro hstep (show It.atOf n xs k = ix by rw [← hat, hR]))
      have hie : ie = 0 := by rw [hR] at hroom; exact hroom
      subst hie
      obtain ⟨x, hx⟩ : ∃ x, xs.getD k 0 = x := ⟨_, rfl⟩
      have HX := Lib.hid hx
      rw [hx] at hc2 hxk HRR HAT
      clear hsep hn1 hn2 hxl i1 i2 i3 hroom hstep hat hR hx hc
      go_wp2_with (first
        | (go_at_call 22; refine (Sep.iPut HSK.out x hxk).mono ?_; rintro e w2 ⟨rfl, S2, h⟩; rw [HRR.out]; simp only [putV]; rw [← HAT.out.1] at h; have H2 := Lib.hid h; have HO := Lib.hid (show w2.ownsRow w0.heap.size 3 1 u9 k ((atL n xs k).map (Value.int .i64)) from h.get 1 rfl); have hz := h.size; clear h)
        | (at_builtin; (refine wpList_append2 _ _ 38 rfl rfl infoInt Try.underlying38 rfl (by decide) rfl rfl (HO.out.alloc _) (news := [.int .i64 (ix : Int)]) rfl (cell_one' (ad := ⟨w2.heap.size, 0, none⟩) (World.cell?_alloc_at _ _ _ _ rfl)) (one_oneCell rfl) (by unfold maxLen; omega) (by omega) (by simp; omega) ?_); intro v1 w3 hown1 hgr1 hnil1 hblk1; rw [← HAT.out.2, atL_succ] at hown1; have h3 := H2.out.own_append 1 rfl hown1 hgr1 hblk1; have H3 := Lib.hid h3; clear hown1 hgr1 hnil1 hblk1 h3))
      go_roundw
      case rel => exact ⟨k + 1, S2, rfl, rfl, rfl, by simp, by omega, H3.out⟩
      case measure => simp [intOf]; omega
    · obtain rfl : k = len := by omega
      obtain ⟨hn1, hn2, hxl, _⟩ := HN.out
      obtain ⟨a', cap', hu, h4⟩ := hsep.own_ints 1 rfl (fun z hz => by
        obtain ⟨j, hj, rfl⟩ := List.mem_map.1 hz
        have := It.atOf_lt hn hn1 (k := j) (by have := List.mem_range.1 hj; omega)
        simp only [Lit.wf, IntKind.min, IntKind.max, IntKind.signed, IntKind.bits, Bool.and_eq_true, decide_eq_true_eq, if_true]
        omega)
      subst hu
      have h4r := (h4.get 1 rfl : IntsIn _ .i64 a' k cap' _)
      have q4 := h4r.hle
      have m4 := h4r.hmax
      have H4 := Lib.hid h4
      have HT := Lib.hid (show xs.take k = xs by rw [← hxl, List.take_length])
      clear hsep HSK h4 h4r hn1 hn2 hxl
      go_wp2
      refine bodyPost_ret (results_3' rfl (.tmp 4 rfl) (.tmp 5 rfl) (.tmp 6 rfl)) rfl ?_
      refine ⟨t, S, a', cap', rfl, q4, m4, ?_⟩
      have h4 := H4.out
      rw [HT.out] at h4
      exact h4
end
end Go.Proofs.Ythlfmlpdnbeelaa
