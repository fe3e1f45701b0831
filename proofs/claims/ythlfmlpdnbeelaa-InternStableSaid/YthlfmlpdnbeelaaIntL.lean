/- IntL: layer 3: the two closures of InternStable. -/
import Derived.Test.YthlfmlpdnbeelaaL3Fill
import Derived.Deep.RegionHeld3
set_option linter.unusedSimpArgs false
set_option linter.unusedVariables false
namespace Go.Proofs.Ythlfmlpdnbeelaa
open Go.ChangeShapes Go.WideShapes Go.ChangeAt Go.RowKit

section
set_option maxHeartbeats 1000000
set_option maxRecDepth 100000
theorem stable_in {w : World} {c : Nat} {a : Option Addr} {len cap : Nat} {zs : List Int} (hc : w.cell? ⟨c, 0, none⟩ = some (.slice a len cap)) (hin : IntsIn w .u64 a len cap zs) (x : Nat) :
    Calls Try.prog 25 #[.int .u64 x, .pointer (some ⟨c, 0, none⟩)] w fun e w' => ∃ b, e = .returned (.bool b) ∧ w = w' ∧ (b = false → ∀ j, j < len → (natsOf zs).getD j 0 ≠ x) := by
  have hle := hin.hle
  have hmax := hin.hmax
  have HN := Lib.hid hin.nat.2
  have HIN := Lib.hid hin
  clear hin
  go_enter Try.func25, Try.ntmps25
  go_wp2
  go_loopw [3, 4] (fun u y wr => ∃ (k : Nat), u = .bool false ∧ y = .int .i64 k ∧ k ≤ len ∧ w = wr ∧ ∀ j, j < k → (natsOf zs).getD j 0 ≠ x) (fun _ y _ => len - (intOf y).toNat)
  case atStart => exact ⟨0, rfl, rfl, Nat.zero_le _, rfl, fun j hj => by omega⟩
  case round =>
    obtain ⟨k, rfl, rfl, hk, hw, hall⟩ := hrel
    subst hw
    have HALL := Lib.hid hall
    clear hall
    by_cases hlt : k < len
    · obtain ⟨b1, o1, ha1⟩ := HIN.out.addr (by omega)
      subst ha1
      have kc := HIN.out.cellAt hlt
      rw [HN.out k hlt] at kc
      obtain ⟨y, hy⟩ : ∃ y, (natsOf zs).getD k 0 = y := ⟨_, rfl⟩
      have HY := Lib.hid hy
      rw [hy] at kc
      clear hy
      by_cases e : y = x
      · subst e
        go_wp2
        go_ret
        exact ⟨_, rfl, by simp, by simp⟩
      · have he : ((y : Int) == (x : Int)) = false := by simp; omega
        have HE := Lib.hid e
        clear e
        go_wp2
        go_roundw
        case rel =>
          refine ⟨k + 1, rfl, by simp, by omega, by simp, fun j hj => ?_⟩
          by_cases ej : j = k
          · rw [ej, HY.out]; exact HE.out
          · exact HALL.out j (by omega)
        case measure => simp [intOf]; omega
    · obtain rfl : k = len := by omega
      clear hlt
      go_wp2
      go_ret
      exact ⟨_, rfl, by simp, fun _ => HALL.out⟩

theorem stable_kept {w0 w : World} {r : List Thing} {t c3 c7 c8 : Nat} {T : It} {S : Nat → Prop} {a a1 : Option Addr} {len cap cap1 : Nat} {zs vs : List Int} (h : Sep w0 w (tabT w0.heap.size t T S :: r))
    (h3 : w.cell? ⟨c3, 0, none⟩ = some (.slice a len cap)) (h7 : w.cell? ⟨c7, 0, none⟩ = some (.pointer (some ⟨t, 0, none⟩))) (h8 : w.cell? ⟨c8, 0, none⟩ = some (.slice a1 len cap1))
    (hin : IntsIn w .u64 a len cap zs) (hat : IntsIn w .i64 a1 len cap1 vs) (q3 : c3 < w.heap.size) (q7 : c7 < w.heap.size) (q8 : c8 < w.heap.size)
    (hk : ∀ j, j < len → ∃ i : Nat, T.get ((natsOf zs).getD j 0) = some i ∧ vs.getD j 0 = (i : Int)) :
    Calls Try.prog 26 #[.pointer (some ⟨c3, 0, none⟩), .pointer (some ⟨c7, 0, none⟩), .pointer (some ⟨c8, 0, none⟩)] w fun e w' => e = .returned (.bool true) ∧ Below w.heap.size w w' := by
  have hle := hin.hle
  have hmax := hin.hmax
  have hle1 := hat.hle
  have HN := Lib.hid hin.nat
  have HIN := Lib.hid hin
  have HAT := Lib.hid hat
  have HK := Lib.hid hk
  have HS := Lib.hid h
  have HC := Lib.hid (fun (w' : World) (hb : Below w.heap.size w w') => And.intro ((hb.cell (p := ⟨c3, 0, none⟩) q3).trans h3) (And.intro ((hb.cell (p := ⟨c7, 0, none⟩) q7).trans h7) ((hb.cell (p := ⟨c8, 0, none⟩) q8).trans h8)))
  clear hin hat hk h h3 h7 h8 q3 q7 q8
  go_enter Try.func26, Try.ntmps26
  go_wp2
  go_loopw [3, 4] (fun u y wr => ∃ (k : Nat), u = .bool false ∧ y = .int .i64 k ∧ k ≤ len ∧ Below w.heap.size w wr) (fun _ y _ => len - (intOf y).toNat)
  case atStart => exact ⟨0, rfl, rfl, Nat.zero_le _, Below.refl _ _⟩
  case round =>
    obtain ⟨k, rfl, rfl, hk, hb⟩ := hrel
    obtain ⟨d3, d7, d8⟩ := HC.out _ hb
    have HB := Lib.hid hb
    clear hb
    by_cases hlt : k < len
    · obtain ⟨bi, oi, rfl, hbi, hci⟩ := HIN.out.hcell k hlt
      obtain ⟨bj, oj, rfl, hbj, hcj⟩ := HAT.out.hcell k hlt
      obtain ⟨i, hi1, hi2⟩ := HK.out k hlt
      rw [HN.out.2 k hlt] at hci
      rw [hi2] at hcj
      obtain ⟨x, hx⟩ : ∃ x, (natsOf zs).getD k 0 = x := ⟨_, rfl⟩
      have hx64 : x < 18446744073709551616 := by rw [← hx]; exact It.getD_lt HN.out.1 k
      rw [hx] at hi1 hci
      have HX := Lib.hid (fun (w' : World) (hb : Below w.heap.size w w') => And.intro ((hb.cell (p := ⟨bi, oi + k, none⟩) hbi).trans hci) ((hb.cell (p := ⟨bj, oj + k, none⟩) hbj).trans hcj))
      have hd := HB.out.trans ((Below.refl wr.heap.size wr).drew.mono HB.out.size)
      have hg := Sep.iGet (HS.out.keep hd) x hx64
      rw [hi1] at hg
      have HG := Lib.hid hg
      have HD := Lib.hid hd
      obtain ⟨f1, f2⟩ := HX.out _ HB.out
      clear hi1 hi2 hx hbi hci hbj hcj hg hd
      go_wp2
      go_region_held3 (fun w' => w'.cell? ⟨c3, 0, none⟩ = some (.slice (some ⟨bi, oi, none⟩) len cap) ∧ w'.cell? ⟨c7, 0, none⟩ = some (.pointer (some ⟨t, 0, none⟩)) ∧ w'.cell? ⟨bi, oi + k, none⟩ = some (.int .u64 x)) (go_keep)
        (first
          | (go_at_call 27; refine HG.out.mono ?_; rintro e w3 ⟨rfl, _, hb⟩; have hb3 := HD.out.trans (hb.mono HD.out.size); obtain ⟨k3, k7, k8⟩ := HC.out _ hb3; obtain ⟨g1, g2⟩ := HX.out _ hb3; simp only [getV]; have H3 := Lib.hid hb3; clear hb hb3))
      go_wp2
      go_roundw
      case rel => exact ⟨k + 1, rfl, by simp, by omega, H3.out⟩
      case measure => simp [intOf]; omega
    · obtain rfl : k = len := by omega
      clear hlt
      go_wp2
      go_ret
      exact ⟨by simp, HB.out⟩
end
end Go.Proofs.Ythlfmlpdnbeelaa
