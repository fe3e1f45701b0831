/- Rf35A: layer 35: the document's schedule: a sorted list of entries. What only reads. -/
import Derived.Test.YtmlbacbcdjfioaaExpS
set_option linter.unusedSimpArgs false
set_option linter.unusedVariables false
namespace Go.Proofs.Ytmlbacbcdjfioaa
open Go.ChangeShapes Go.WideShapes Go.ChangeAt Go.RowKit

/-- The document's schedule at block g, for n slots; v: its list. -/
structure Ref35 (B : Nat) (w : World) (g n : Nat) (v : Value) (L : List Ent) : Prop where
  row : w.heap[g]? = some (.cells #[.bool true, .int .i64 n, v] 93 (0, 0))
  own : w.ownsRow B 28 2 v L.length (flat L.length (entAt L))
  ns : n ≤ 65536
  hl : L.length ≤ n
  wf : ∀ j, j < L.length → -9223372036854775808 ≤ (entAt L j).2 ∧ (entAt L j).2 ≤ 9223372036854775807

theorem row_three {w : World} {g : Nat} {a b c : Value} {t : TypeId} (h : w.heap[g]? = some (.cells #[a, b, c] t (0, 0))) :
    w.cell? ⟨g, 0, none⟩ = some a ∧ w.cell? ⟨g, 1, none⟩ = some b ∧ w.cell? ⟨g, 2, none⟩ = some c ∧ (∀ o, w.frozen? ⟨g, o, none⟩ = false) ∧ g < w.heap.size :=
  ⟨by rw [cell_of_row w g 0 _ _ _ h]; rfl, by rw [cell_of_row w g 1 _ _ _ h]; rfl, by rw [cell_of_row w g 2 _ _ _ h]; rfl, fun o => frozen_of_row w g o _ _ h, (Array.getElem?_eq_some_iff.1 h).1⟩

theorem owns_slice {w : World} {B e size n : Nat} {v : Value} {xs : List Value} (h : w.ownsRow B e size v n xs) : ∃ a cap, v = .slice a n cap ∧ (0 < n → ∃ k, a = some ⟨k, 0, none⟩ ∧ ∀ j, j < n * size → w.cell? ⟨k, j, none⟩ = xs[j]?) := by
  rcases h.2 with ⟨h0, h1⟩ | ⟨g, cap, cur, h0, r⟩
  · exact ⟨none, 0, by rw [h0, h1], fun h => by omega⟩
  · subst h0
    exact ⟨_, cap, rfl, fun _ => ⟨g, rfl, fun j hj => h.cellAt j hj⟩⟩

section
variable {B : Nat} {w : World} {g n : Nat} {v : Value} {L : List Ent}
theorem Ref35.list (h : Ref35 B w g n v L) : ∃ a cap, v = .slice a L.length cap ∧ (∀ j, j < L.length → ∃ k, a = some ⟨k, 0, none⟩ ∧ w.cell? ⟨k, j * 2, none⟩ = some (.int .i64 ((entAt L j).1 : Int)) ∧ w.cell? ⟨k, j * 2 + 1, none⟩ = some (.int .i64 (entAt L j).2)) := by
  obtain ⟨a, cap, h1, h2⟩ := owns_slice h.own
  refine ⟨a, cap, h1, fun j hj => ?_⟩
  obtain ⟨k, rfl, h3⟩ := h2 (by omega)
  exact ⟨k, rfl, (h3 _ (by omega)).trans (flat_get0 _ hj), (h3 _ (by omega)).trans (flat_get1 _ hj)⟩

set_option maxHeartbeats 1000000
theorem s35Valid_any (h : Ref35 B w g n v L) : Calls Try.prog 71 #[.pointer (some ⟨g, 0, none⟩)] w fun r w' => r = .returned (.bool true) ∧ w = w' := by
  obtain ⟨c0, c1, c2, cf, hg⟩ := row_three h.row
  clear h
  go_enter Try.func71, Try.ntmps71
  go_wp2
  go_ret
  exact ⟨by simp, rfl⟩
theorem s35Len_any (h : Ref35 B w g n v L) : Calls Try.prog 60 #[.pointer (some ⟨g, 0, none⟩)] w fun r w' => r = .returned (.int .i64 L.length) ∧ w = w' := by
  have HV := Lib.hid (s35Valid_any h)
  obtain ⟨c0, c1, c2, cf, hg⟩ := row_three h.row
  obtain ⟨a, cap, rfl, _⟩ := h.list
  clear h
  go_enter Try.func60, Try.ntmps60
  go_wp2_with (go_at_call 71; refine HV.out.mono ?_; rintro r wz ⟨rfl, rfl⟩)
  go_ret
  exact ⟨by simp, rfl⟩
/-- What check tells. -/
def chkE (n : Nat) (i : Int) : Int := if 0 ≤ i ∧ i < (n : Int) then 0 else 3
theorem s35Check_any (h : Ref35 B w g n v L) (i : Int) : Calls Try.prog 68 #[.pointer (some ⟨g, 0, none⟩), .int .i64 i] w fun r w' => r = .returned (.int .i64 (chkE n i)) ∧ w = w' := by
  have HV := Lib.hid (s35Valid_any h)
  obtain ⟨c0, c1, c2, cf, hg⟩ := row_three h.row
  clear h
  by_cases h0 : i < 0
  · have HR := Lib.hid (show chkE n i = 3 from if_neg (by omega))
    go_enter Try.func68, Try.ntmps68
    go_wp2_with (go_at_call 71; refine HV.out.mono ?_; rintro r wz ⟨rfl, rfl⟩)
    go_ret
    exact ⟨by rw [HR.out]; simp, rfl⟩
  · by_cases h1 : i < n
    · have HR := Lib.hid (show chkE n i = 0 from if_pos (by omega))
      go_enter Try.func68, Try.ntmps68
      go_wp2_with (go_at_call 71; refine HV.out.mono ?_; rintro r wz ⟨rfl, rfl⟩)
      go_ret
      exact ⟨by rw [HR.out]; simp, rfl⟩
    · have HR := Lib.hid (show chkE n i = 3 from if_neg (by omega))
      go_enter Try.func68, Try.ntmps68
      go_wp2_with (go_at_call 71; refine HV.out.mono ?_; rintro r wz ⟨rfl, rfl⟩)
      go_ret
      exact ⟨by rw [HR.out]; simp, rfl⟩

/-- Where a slot is in the list. -/
def FindR (L : List Ent) (i k : Int) : Prop := (k = -1 ∧ ∀ j, j < L.length → ((entAt L j).1 : Int) ≠ i) ∨ ∃ j : Nat, k = j ∧ j < L.length ∧ ((entAt L j).1 : Int) = i

theorem s35Find_any (h : Ref35 B w g n v L) (i : Int) : Calls Try.prog 70 #[.pointer (some ⟨g, 0, none⟩), .int .i64 i] w fun r w' => (∃ k, r = .returned (.int .i64 k) ∧ FindR L i k) ∧ w = w' := by
  obtain ⟨c0, c1, c2, cf, hg⟩ := row_three h.row
  obtain ⟨a, cap, rfl, hcells⟩ := h.list
  have hn := h.ns
  have hl := h.hl
  have HC := Lib.hid hcells
  clear h hcells
  go_enter Try.func70, Try.ntmps70
  go_wp2
  obtain ⟨wo, hwo⟩ : ∃ wo : World, wo = w := ⟨_, rfl⟩
  have HW := Lib.hid hwo
  clear hwo
  go_loopw [4, 5] (fun u y wr => ∃ (j : Nat), y = .int .i64 j ∧ j ≤ L.length ∧ wr = w ∧ ∀ q, q < j → ((entAt L q).1 : Int) ≠ i) (fun _ y _ => L.length - (intOf y).toNat)
  case atStart => exact ⟨0, rfl, Nat.zero_le _, by first | rfl | trivial, fun q hq => by omega⟩
  case round =>
    obtain ⟨j, rfl, hj, rfl, hno⟩ := hrel
    have HNO := Lib.hid hno
    clear hno
    by_cases hlt : j < L.length
    · obtain ⟨k, hk, k0, k1⟩ := HC.out j hlt
      by_cases he : ((entAt L j).1 : Int) = i
      · have HE := Lib.hid (show FindR L i j from Or.inr ⟨j, rfl, hlt, he⟩)
        have hb : ((((entAt L j).1 : Int)) == i) = true := by simpa using he
        clear he
        generalize ((entAt L j).1 : Int) = z at k0 hb
        subst hk
        go_wp2
        go_ret
        exact ⟨⟨j, by simp, HE.out⟩, rfl⟩
      · have HE := Lib.hid he
        have hb : ((((entAt L j).1 : Int)) == i) = false := by simpa using he
        clear he
        subst hk
        go_wp2
        go_roundw
        case rel =>
          refine ⟨j + 1, by simp, by omega, by first | rfl | trivial, fun q hq => ?_⟩
          by_cases e : q = j
          · subst e; exact HE.out
          · exact HNO.out q (by omega)
        case measure => simp [intOf]; omega
    · obtain rfl : j = L.length := by omega
      go_wp2
      go_ret
      exact ⟨⟨-1, by simp, Or.inl ⟨rfl, HNO.out⟩⟩, rfl⟩
end
end Go.Proofs.Ytmlbacbcdjfioaa
