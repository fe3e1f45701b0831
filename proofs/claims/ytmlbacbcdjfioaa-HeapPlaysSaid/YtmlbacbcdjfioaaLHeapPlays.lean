/- seepagelaw04.HeapPlays returns true for every number of slots, every script and every index; its arguments read as before. No condition. -/
import Derived.Test.YtmlbacbcdjfioaaPlayH
import Derived.Test.YtmlbacbcdjfioaaClose
set_option linter.unusedSimpArgs false
set_option linter.unusedVariables false
namespace Go.Proofs.Ytmlbacbcdjfioaa
open Go.ChangeShapes Go.WideShapes Go.ChangeAt Go.RowKit
namespace HeapPlays
def sk3 : Nat → IntKind := fun _ => .i64

set_option maxHeartbeats 4000000
set_option maxRecDepth 100000 in
theorem walk (n : Int) (hn : -9223372036854775808 ≤ n ∧ n ≤ 9223372036854775807) (a : Option Addr) (len cap : Nat) (zs : Nat → Nat → Int) (i : Int) (hi : -9223372036854775808 ≤ i ∧ i ≤ 9223372036854775807) (w : World) (hin : RowsIn w 3 sk3 a len cap zs) :
    Calls Try.prog 19 #[.int .i64 n, .slice a len cap, .int .i64 i] w fun e w' => e = .returned (.bool true) ∧ Below w.heap.size w w' := by
  have hle := hin.hle
  have hmax := hin.hmax
  have HIN := Lib.hid hin
  obtain ⟨p, hs⟩ := Pl4.start n w
  have HS := Lib.hid hs
  clear hs hin
  go_enter Try.func19, Try.ntmps19
  go_wp2_with fail
  refine HS.out.mono ?_
  rintro e w1 ⟨pa, rfl, hr⟩
  have HR := Lib.hid hr
  clear hr
  go_wp2_with fail
  refine HR.out.mono ?_
  rintro e w2 ⟨pr, rfl, hxy, hst⟩
  have HST := Lib.hid hst
  clear hst
  by_cases hbig : 200 < len
  · go_wp2_with (go_at_call 21; refine (l4works_any _).mono ?_; rintro e w4 ⟨rfl, hb⟩; have HW := Lib.hid (HST.out.keep hb); clear hb)
    go_ret
    exact ⟨by simp, HW.out.below⟩
  · go_wp2
    go_loopw [6, 7, 9, 11] (fun u va vr vk wr => ∃ k : Nat, ∃ pa pr, u = .bool false ∧ k ≤ len ∧ va = .pointer pa ∧ vr = .pointer pr ∧ vk = .int .i64 k ∧ Pl4 w wr pa pr []) (fun _ _ _ vk _ => len - (intOf vk).toNat)
    case atStart => exact ⟨0, pa, pr, rfl, Nat.zero_le _, rfl, rfl, rfl, HST.out⟩
    case round =>
      clear hxy HST
      obtain ⟨k, pa, pr, rfl, hk, rfl, rfl, rfl, hrel⟩ := hrel
      by_cases hlt : k < len
      · obtain ⟨bi, oi, rfl, hbi, hci⟩ := HIN.out.hcell k hlt
        have e0 := (hrel.below.cell (p := ⟨bi, oi + k * 3 + 0, none⟩) hbi).trans (hci 0 (by omega))
        have e1 := (hrel.below.cell (p := ⟨bi, oi + k * 3 + 1, none⟩) hbi).trans (hci 1 (by omega))
        have e2 := (hrel.below.cell (p := ⟨bi, oi + k * 3 + 2, none⟩) hbi).trans (hci 2 (by omega))
        have hz2 : -9223372036854775808 ≤ zs k 2 ∧ zs k 2 ≤ 9223372036854775807 := wf_i64 (HIN.out.hwf k hlt 2 (by omega))
        simp only [sk3, Nat.add_zero] at e0 e1 e2
        clear hci
        generalize zs k 0 = z0 at *
        generalize zs k 1 = z1 at *
        generalize zs k 2 = z2 at *
        have HX := Lib.hid (fun o => (Pl4.block hrel o))
        clear hrel
        by_cases h0 : z0 = 0
        · subst h0
          go_wp2
          have HD := Lib.hid ((HX.out (.cells #[.int .i64 0, .int .i64 z1, .int .i64 z2] 85)).keep ((Below.refl _ _).drew))
          go_region_held3 (fun w' => w'.cell? ⟨wr.heap.size, 1, none⟩ = some (.int .i64 z1) ∧ w'.cell? ⟨wr.heap.size, 2, none⟩ = some (.int .i64 z2)) (go_keep)
            (first
              | (go_at_call 50; refine (HD.out.push z1 z2 hz2).mono ?_; rintro r w3 ⟨c, rfl, hl, hc⟩; have kk := (hl 0 _ rfl : (blockT _ _).P _); obtain ⟨_, k1, k2, _⟩ := row_three kk; have H3 := Lib.hid hc; clear hl hc kk)
              | (go_at_call 52; refine H3.out.mono ?_; rintro r w4 ⟨rfl, hp⟩; have kk := (hp.get 0 rfl : (blockT _ _).P _); obtain ⟨k0, k1, k2, _⟩ := row_three kk; have H4 := Lib.hid hp; clear hp kk))
          go_wp2_with (first
            | (go_at_call 47; have _t := tok; refine (H5.out.agree _).mono ?_; rintro r w6 ⟨rfl, hp⟩; have H6 := Lib.hid hp; clear hp tok H5)
            | (go_at_call 47; refine (H4.out.agree _).mono ?_; rintro r w5 ⟨rfl, hp⟩; have kk := (hp.get 0 rfl : (blockT _ _).P _); obtain ⟨q0, q1, q2, _⟩ := row_three kk; have tok := trivial; have H5 := Lib.hid hp; clear hp kk))
          go_roundw
          case rel => exact ⟨k + 1, _, _, rfl, by omega, rfl, rfl, by simp, Pl4.forget H6.out⟩
          case measure => simp [intOf]; omega
        · by_cases h1 : z0 = 1
          · subst h1
            go_wp2
            have HD := Lib.hid ((HX.out (.cells #[.int .i64 1, .int .i64 z1, .int .i64 z2] 85)).keep ((Below.refl _ _).drew))
            go_region_held3 (fun w' => w'.cell? ⟨wr.heap.size, 1, none⟩ = some (.int .i64 z1) ∧ w'.cell? ⟨wr.heap.size, 2, none⟩ = some (.int .i64 z2)) (go_keep)
              (first
                | (go_at_call 49; refine (HD.out.change z1 z2 hz2).mono ?_; rintro r w3 ⟨c, rfl, hl, hc⟩; have kk := (hl 0 _ rfl : (blockT _ _).P _); obtain ⟨_, k1, k2, _⟩ := row_three kk; have H3 := Lib.hid hc; clear hl hc kk)
                | (go_at_call 53; refine H3.out.mono ?_; rintro r w4 ⟨rfl, hp⟩; have kk := (hp.get 0 rfl : (blockT _ _).P _); obtain ⟨k0, k1, k2, _⟩ := row_three kk; have H4 := Lib.hid hp; clear hp kk))
            go_wp2_with (first
              | (go_at_call 47; have _t := tok; refine (H5.out.agree _).mono ?_; rintro r w6 ⟨rfl, hp⟩; have H6 := Lib.hid hp; clear hp tok H5)
              | (go_at_call 47; refine (H4.out.agree _).mono ?_; rintro r w5 ⟨rfl, hp⟩; have kk := (hp.get 0 rfl : (blockT _ _).P _); obtain ⟨q0, q1, q2, _⟩ := row_three kk; have tok := trivial; have H5 := Lib.hid hp; clear hp kk))
            go_roundw
            case rel => exact ⟨k + 1, _, _, rfl, by omega, rfl, rfl, by simp, Pl4.forget H6.out⟩
            case measure => simp [intOf]; omega
          · by_cases h2 : z0 = 2
            · subst h2
              go_wp2
              have HD := Lib.hid ((HX.out (.cells #[.int .i64 2, .int .i64 z1, .int .i64 z2] 85)).keep ((Below.refl _ _).drew))
              go_region_held3 (fun w' => w'.cell? ⟨wr.heap.size, 1, none⟩ = some (.int .i64 z1) ∧ w'.cell? ⟨wr.heap.size, 2, none⟩ = some (.int .i64 z2)) (go_keep)
                (first
                  | (go_at_call 44; refine (HD.out.remove z1).mono ?_; rintro r w3 ⟨c, rfl, hl, hc⟩; have kk := (hl 0 _ rfl : (blockT _ _).P _); obtain ⟨_, k1, k2, _⟩ := row_three kk; have H3 := Lib.hid hc; clear hl hc kk)
                  | (go_at_call 54; refine H3.out.mono ?_; rintro r w4 ⟨rfl, hp⟩; have kk := (hp.get 0 rfl : (blockT _ _).P _); obtain ⟨k0, k1, k2, _⟩ := row_three kk; have H4 := Lib.hid hp; clear hp kk))
              go_wp2_with (first
                | (go_at_call 47; have _t := tok; refine (H5.out.agree _).mono ?_; rintro r w6 ⟨rfl, hp⟩; have H6 := Lib.hid hp; clear hp tok H5)
                | (go_at_call 47; refine (H4.out.agree _).mono ?_; rintro r w5 ⟨rfl, hp⟩; have kk := (hp.get 0 rfl : (blockT _ _).P _); obtain ⟨q0, q1, q2, _⟩ := row_three kk; have tok := trivial; have H5 := Lib.hid hp; clear hp kk))
              go_roundw
              case rel => exact ⟨k + 1, _, _, rfl, by omega, rfl, rfl, by simp, Pl4.forget H6.out⟩
              case measure => simp [intOf]; omega
            · have b0 : (z0 == 0) = false := by simpa using h0
              have b1 : (z0 == 1) = false := by simpa using h1
              have b2 : (z0 == 2) = false := by simpa using h2
              clear h0 h1 h2
              by_cases h3 : z0 = 3
              · subst h3
                clear b0 b1 b2
                go_wp2_with (first
                  | (go_at_call 47; have _t := tok; refine (H5.out.agree _).mono ?_; rintro r w6 ⟨rfl, hp⟩; have H6 := Lib.hid hp; clear hp tok H5)
                  | (go_at_call 47; refine (H4.out.agree _).mono ?_; rintro r w5 ⟨rfl, hp⟩; have kk := (hp.get 2 rfl : (blockT _ _).P _); obtain ⟨q0, q1, q2, _⟩ := row_three kk; have tok := trivial; have H5 := Lib.hid hp; clear hp kk)
                  | (go_at_call 55; refine (H3.out _).mono ?_; rintro r w4 ⟨rfl, hp⟩; have hp2 := hp.block (.cells #[.int .i64 x0, .int .i64 x1] 28); have kx := (hp2.get 0 rfl : (blockT _ _).P _); obtain ⟨y0, y1, _⟩ := row_two kx; have ky := (hp2.get 1 rfl : (blockT _ _).P _); obtain ⟨z0, z1, _⟩ := row_two ky; have kk := (hp2.get 2 rfl : (blockT _ _).P _); obtain ⟨k0, k1, k2, _⟩ := row_three kk; have H4 := Lib.hid hp2; clear hp hp2 kk kx ky)
                  | (go_at_call 23; refine (HX.out _).pop.mono ?_; rintro r w3 ⟨x0, x1, x2, rfl, hc⟩; have H3 := Lib.hid hc; clear hc))
                go_roundw
                case rel => exact ⟨k + 1, _, _, rfl, by omega, rfl, rfl, by simp, Pl4.forget H6.out⟩
                case measure => simp [intOf]; omega
              · have b3 : (z0 == 3) = false := by simpa using h3
                clear h3
                by_cases h4 : z0 = 4
                · subst h4
                  clear b0 b1 b2 b3
                  go_wp2_with (first
                    | (go_at_call 47; have _t := tok; refine (H5.out.agree _).mono ?_; rintro r w6 ⟨rfl, hp⟩; have H6 := Lib.hid hp; clear hp tok H5)
                    | (go_at_call 47; refine (H4.out.agree _).mono ?_; rintro r w5 ⟨rfl, hp⟩; have kk := (hp.get 0 rfl : (blockT _ _).P _); obtain ⟨q0, q1, q2, _⟩ := row_three kk; have tok := trivial; have H5 := Lib.hid hp; clear hp kk)
                    | (go_at_call 48; refine (HX.out _).copy.mono ?_; rintro r w3 ⟨pe', rfl, hc⟩; have H3 := Lib.hid hc; clear hc)
                    | (go_at_call 56; refine H3.out.mono ?_; rintro r w4 ⟨pr', rfl, hp⟩; have kk := (hp.get 0 rfl : (blockT _ _).P _); obtain ⟨k0, k1, k2, _⟩ := row_three kk; have H4 := Lib.hid hp; clear hp kk))
                  go_roundw
                  case rel => exact ⟨k + 1, _, _, rfl, by omega, rfl, rfl, by simp, Pl4.forget H6.out⟩
                  case measure => simp [intOf]; omega
                · have b4 : (z0 == 4) = false := by simpa using h4
                  clear h4
                  go_wp2_with (first
                    | (go_at_call 47; have _t := tok; refine (H5.out.agree _).mono ?_; rintro r w6 ⟨rfl, hp⟩; have H6 := Lib.hid hp; clear hp tok H5)
                    | (go_at_call 47; refine ((HX.out _).agree _).mono ?_; rintro r w5 ⟨rfl, hp⟩; have kk := (hp.get 0 rfl : (blockT _ _).P _); obtain ⟨q0, q1, q2, _⟩ := row_three kk; have tok := trivial; have H5 := Lib.hid hp; clear hp kk))
                  go_roundw
                  case rel => exact ⟨k + 1, _, _, rfl, by omega, rfl, rfl, by simp, Pl4.forget H6.out⟩
                  case measure => simp [intOf]; omega
      · obtain rfl : k = len := by omega
        have HL := Lib.hid hrel
        clear hrel
        go_wp2_with (go_at_call 21; refine (l4works_any _).mono ?_; rintro e w4 ⟨rfl, hb⟩; have HW := Lib.hid (HL.out.keep hb); clear hb)
        go_ret
        exact ⟨by simp, HW.out.below⟩
end HeapPlays
end Go.Proofs.Ytmlbacbcdjfioaa
