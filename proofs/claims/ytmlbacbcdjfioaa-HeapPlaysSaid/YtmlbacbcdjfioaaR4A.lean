/- R4A: layer 4: the document's heap: New, what only reads, without, Push, Remove, Change, Copy. -/
import Derived.Test.YtmlbacbcdjfioaaR4M
import Derived.Test.YtmlbacbcdjfioaaHeapI
set_option linter.unusedSimpArgs false
set_option linter.unusedVariables false
namespace Go.Proofs.Ytmlbacbcdjfioaa
open Go.ChangeShapes Go.WideShapes Go.ChangeAt Go.RowKit

/-- The document's heap at block g, for n indexes; v: its list. -/
structure Ref4 (B : Nat) (w : World) (g n : Nat) (v : Value) (L : List Ent) : Prop where
  row : w.heap[g]? = some (.cells #[.bool true, .int .i64 n, v] 109 (0, 0))
  own : w.ownsRow B 28 2 v L.length (flat L.length (entAt L))
  ns : n ≤ 65536
  hl : L.length ≤ n
  ne : v.ownBlock ≠ some g

section
variable {B : Nat} {w : World} {g n : Nat} {v : Value} {L : List Ent}
theorem Ref4.list (h : Ref4 B w g n v L) : ∃ a cap, v = .slice a L.length cap ∧ EntsIn w a L.length cap L := by
  obtain ⟨a, cap, h1, h2, _⟩ := EntsIn.of_owns h.own
  exact ⟨a, cap, h1, h2⟩

set_option maxHeartbeats 1000000
theorem r4New_ok (n : Nat) (w : World) (hn : n ≤ 65536) : Calls Try.prog 46 #[.int .i64 n] w fun r w' => ∃ g, r = .returned (.tuple #[.pointer (some ⟨g, 0, none⟩), .int .i64 0]) ∧ Ref4 w.heap.size w' g n (.slice none 0 0) [] ∧ w.heap.size ≤ g ∧ Below w.heap.size w w' := by
  have HB := Lib.hid (fun o => (Below.refl _ w).alloc (Nat.le_refl _) o)
  go_enter Try.func46, Try.ntmps46
  go_wp2
  go_ret2
  refine ⟨w.heap.size, by simp, ⟨heap_alloc_new _ _, World.ownsRow_nil _ _ _ _, hn, Nat.zero_le _, by simp [Value.ownBlock]⟩, Nat.le_refl _, HB.out _⟩
theorem r4New_bad (n : Int) (w : World) (hn : n < 0 ∨ 65536 < n) : Calls Try.prog 46 #[.int .i64 n] w fun r w' => r = .returned (.tuple #[.pointer none, .int .i64 2]) ∧ w = w' := by
  by_cases h0 : n < 0
  · go_enter Try.func46, Try.ntmps46
    go_wp2
    go_ret2
    exact ⟨by simp, rfl⟩
  · have h1 : 65536 < n := by omega
    go_enter Try.func46, Try.ntmps46
    go_wp2
    go_ret2
    exact ⟨by simp, rfl⟩
theorem r4Valid_any (h : Ref4 B w g n v L) : Calls Try.prog 84 #[.pointer (some ⟨g, 0, none⟩)] w fun r w' => r = .returned (.bool true) ∧ w = w' := by
  obtain ⟨c0, c1, c2, cf, hg⟩ := row_three h.row
  clear h
  go_enter Try.func84, Try.ntmps84
  go_wp2
  go_ret
  exact ⟨by simp, rfl⟩
theorem r4Len_any (h : Ref4 B w g n v L) : Calls Try.prog 81 #[.pointer (some ⟨g, 0, none⟩)] w fun r w' => r = .returned (.int .i64 L.length) ∧ w = w' := by
  have HV := Lib.hid (r4Valid_any h)
  obtain ⟨c0, c1, c2, cf, hg⟩ := row_three h.row
  obtain ⟨a, cap, rfl, _⟩ := h.list
  clear h
  go_enter Try.func81, Try.ntmps81
  go_wp2_with (go_at_call 84; refine HV.out.mono ?_; rintro r wz ⟨rfl, rfl⟩)
  go_ret
  exact ⟨by simp, rfl⟩
theorem r4Find_any (h : Ref4 B w g n v L) (i : Int) : Calls Try.prog 85 #[.pointer (some ⟨g, 0, none⟩), .int .i64 i] w fun r w' => (∃ k, r = .returned (.int .i64 k) ∧ FindR L i k) ∧ w = w' := by
  obtain ⟨c0, c1, c2, cf, hg⟩ := row_three h.row
  obtain ⟨a, cap, rfl, hents⟩ := h.list
  have hn := h.ns
  have hl := h.hl
  have HC := Lib.hid hents.hcell
  clear h hents
  go_enter Try.func85, Try.ntmps85
  go_wp2
  obtain ⟨wo, hwo⟩ : ∃ wo : World, wo = w := ⟨_, rfl⟩
  have HW := Lib.hid hwo
  clear hwo
  go_loopw [4, 5] (fun u y wr => ∃ (j : Nat), y = .int .i64 j ∧ j ≤ L.length ∧ wr = w ∧ ∀ q, q < j → ((entAt L q).1 : Int) ≠ i) (fun _ y _ => L.length - (intOf y).toNat)
  case atStart => exact ⟨0, rfl, Nat.zero_le _, by first | rfl | trivial, fun q hq => by omega⟩
  case round =>
    obtain ⟨j, rfl, hj, rfl, hno⟩ := hrel
    have HNO := Lib.hid hno
    clear hno
    by_cases hlt : j < L.length
    · obtain ⟨k, off, hk, _, k0, k1⟩ := HC.out j hlt
      by_cases he : ((entAt L j).1 : Int) = i
      · have HE := Lib.hid (show FindR L i j from Or.inr ⟨j, rfl, hlt, he⟩)
        have hb : ((((entAt L j).1 : Int)) == i) = true := by simpa using he
        clear he
        generalize ((entAt L j).1 : Int) = z at k0 hb
        subst hk
        go_wp2
        go_ret
        exact ⟨⟨j, by simp, HE.out⟩, rfl⟩
      · have HE := Lib.hid he
        have hb : ((((entAt L j).1 : Int)) == i) = false := by simpa using he
        clear he
        subst hk
        go_wp2
        go_roundw
        case rel =>
          refine ⟨j + 1, by simp, by omega, by first | rfl | trivial, fun q hq => ?_⟩
          by_cases e : q = j
          · subst e; exact HE.out
          · exact HNO.out q (by omega)
        case measure => simp [intOf]; omega
    · obtain rfl : j = L.length := by omega
      go_wp2
      go_ret
      exact ⟨⟨-1, by simp, Or.inl ⟨rfl, HNO.out⟩⟩, rfl⟩

theorem r4Without_any {a : Option Addr} {m cap : Nat} (h : EntsIn w a m cap L) (hm : m ≤ 65536) (k : Int) (hk : -1 ≤ k) : Calls Try.prog 86 #[.slice a m cap, .int .i64 k] w fun r w' => ∃ v', r = .returned v' ∧
    w'.ownsRow w.heap.size 28 2 v' (dropAt L k).length (flat (dropAt L k).length (entAt (dropAt L k))) ∧ Below w.heap.size w w' := by
  obtain rfl := h.hlen
  have hle := h.hle
  have hmx := h.hmax
  have HC := Lib.hid h.hcell
  clear h
  go_enter Try.func86, Try.ntmps86
  go_wp2
  go_loopw [5, 6] (fun u y wr => ∃ (j : Nat) (M : List Ent), y = .int .i64 j ∧ j ≤ L.length ∧ M = dropAt (L.take j) k ∧ wr.ownsRow w.heap.size 28 2 u M.length (flat M.length (entAt M)) ∧ Below w.heap.size w wr) (fun _ y _ => L.length - (intOf y).toNat)
  case atStart => exact ⟨0, [], rfl, Nat.zero_le _, by unfold dropAt; simp, World.ownsRow_nil _ _ _ _, Below.refl _ _⟩
  case round =>
    obtain ⟨j, M, rfl, hj, hM, hown, hb⟩ := hrel
    have hz := hb.size
    have hMl : M.length ≤ L.length := by rw [hM]; exact Nat.le_trans (dropAt_len _ _) (by rw [List.length_take]; exact Nat.min_le_right _ _)
    by_cases hlt : j < L.length
    · obtain ⟨q, off, hq, hq2, k0, k1⟩ := HC.out j hlt
      have k0' := (hb.cell (p := ⟨q, off + j * 2, none⟩) hq2).trans k0
      have k1' := (hb.cell (p := ⟨q, off + j * 2 + 1, none⟩) hq2).trans k1
      have hstep := dropAt_succ hlt k
      rw [← hM] at hstep
      subst hq
      by_cases he : (j : Int) = k
      · rw [if_pos he] at hstep
        have hneq : ((j : Int) != k) = false := by simpa using he
        have HS := Lib.hid (And.intro hstep (And.intro hown hb))
        clear he hstep hown hM hb k0 k1
        go_wp2
        go_roundw
        case rel => exact ⟨j + 1, M, by simp, by omega, HS.out.1.symm, HS.out.2.1, HS.out.2.2⟩
        case measure => simp [intOf]; omega
      · rw [if_neg he] at hstep
        have hneq : ((j : Int) != k) = true := by simpa using he
        have HS := Lib.hid hstep
        have HB := Lib.hid hb
        have HO := Lib.hid hown
        obtain ⟨x, hx⟩ : ∃ x, entAt L j = x := ⟨_, rfl⟩
        rw [hx] at k0' k1' HS
        clear he hstep hM hx hown hb k0 k1
        go_wp2_with (at_builtin; (refine wpList_append2 _ _ 68 rfl rfl infoEntry Try.underlying68 rfl (by decide) rfl rfl (HO.out.alloc _) (news := [.int .i64 (x.1 : Int), .int .i64 x.2]) rfl (cell_two (u := .int .i64 (x.1 : Int)) (v := .int .i64 x.2) (ad := ⟨wr.heap.size, 0, none⟩) (World.cell?_alloc_at _ _ _ _ (by simp)) (World.cell?_alloc_at _ _ _ 1 (by simp))) (two_oneCell rfl rfl) (by unfold maxLen; omega) (by omega) (by simp; omega) ?_); intro v1 w1 hown1 hgr1 hnil1 hblk1; rw [flat_app] at hown1; have hb1 := (HB.out.alloc hz (.cells #[.int .i64 (x.1 : Int), .int .i64 x.2] 28)).grown hgr1 (by simp; omega) (fun q hq => (HO.out.lt q hq).1); have H1 := Lib.hid (And.intro hown1 hb1); clear hown1 hgr1 hnil1 hblk1 hb1)
        go_roundw
        case rel => exact ⟨j + 1, M ++ [x], by simp, by omega, HS.out.symm, by have := H1.out.1; simpa using this, H1.out.2⟩
        case measure => simp [intOf]; omega
    · obtain rfl : j = L.length := by omega
      rw [List.take_length] at hM
      have HS := Lib.hid (And.intro hM (And.intro hown hb))
      clear hM hown hb
      go_wp2
      go_ret
      refine ⟨u5, by simp, ?_, HS.out.2.2⟩
      rw [← HS.out.1]
      exact HS.out.2.1

set_option maxRecDepth 100000 in
theorem r4Key_any {A : Hp} (h : Ref4 B w g n v L) (hs : Lst A L) (ho : A.Ok) (hAn : A.slots = n) (i : Int) : Calls Try.prog 80 #[.pointer (some ⟨g, 0, none⟩), .int .i64 i] w fun r w' => r = .returned (keyV (A.keyAt i)) ∧ w = w' := by
  have HV := Lib.hid (r4Valid_any h)
  have HF := Lib.hid (r4Find_any h i)
  obtain ⟨c0, c1, c2, cf, hg⟩ := row_three h.row
  obtain ⟨a, cap, rfl, hents⟩ := h.list
  have hn := h.ns
  have hl := h.hl
  have HC := Lib.hid hents.hcell
  have hle := hents.hle
  have hmx := hents.hmax
  have HK := Lib.hid (show ∀ k, FindR L i k → (k = -1 ∧ keyV (A.keyAt i) = .tuple #[.int .i64 0, .bool false]) ∨ ∃ j : Nat, k = j ∧ j < L.length ∧ keyV (A.keyAt i) = .tuple #[.int .i64 (entAt L j).2, .bool true] from fun k hk => by
    rcases hk with ⟨rfl, hno⟩ | ⟨j, rfl, hj, he⟩
    · left
      refine ⟨rfl, ?_⟩
      unfold Hp.keyAt
      split
      · rename_i h0
        obtain ⟨m, rfl⟩ := Int.eq_ofNat_of_zero_le h0
        rw [Int.toNat_natCast, hs.none_of hno]; rfl
      · rfl
    · right
      refine ⟨j, rfl, hj, ?_⟩
      rw [← he]
      unfold Hp.keyAt
      rw [if_pos (by omega), Int.toNat_natCast, hs.at_ hj]; rfl)
  clear h hents hs ho
  go_enter Try.func80, Try.ntmps80
  go_wp2_with (go_at_call 84; refine HV.out.mono ?_; rintro r wz ⟨rfl, rfl⟩)
  refine HF.out.mono ?_
  rintro r wz ⟨⟨k, rfl, hk⟩, rfl⟩
  rcases HK.out k hk with ⟨rfl, hR⟩ | ⟨j, rfl, hj, hR⟩
  · have HR := Lib.hid hR
    clear hR hk
    go_wp2
    go_ret2
    exact ⟨by rw [HR.out]; rfl, rfl⟩
  · have HR := Lib.hid hR
    clear hR hk
    obtain ⟨q, off, rfl, _, k0, k1⟩ := HC.out j hj
    go_wp2
    go_ret2
    exact ⟨by rw [HR.out]; rfl, rfl⟩
end
end Go.Proofs.Ytmlbacbcdjfioaa
