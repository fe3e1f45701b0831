/- For every two lists of ids and every boolean seepagelaw03.InternStable returns true, and its arguments read as before. No condition. -/
import Derived.Test.YthlfmlpdnbeelaaIntL
import Derived.Test.YthlfmlpdnbeelaaClose
set_option linter.unusedSimpArgs false
set_option linter.unusedVariables false
namespace Go.Proofs.Ythlfmlpdnbeelaa
open Go.ChangeShapes Go.WideShapes Go.ChangeAt Go.RowKit
namespace InternStable

/-- What lies beside the table. -/
def boxes (w : World) (a a1 : Option Addr) (len cap c1 t c7 : Nat) (vs : List Int) : List Thing :=
  [intsT .i64 a1 len c1 vs, blockT w.heap.size (.cells #[.slice a len cap] 37 (0, 0)), blockT c7 (.cells #[.pointer (some ⟨t, 0, none⟩)] 25 (0, 0)), blockT (c7 + 1) (.cells #[.slice a1 len c1] 38 (0, 0))]
theorem one_cell {w : World} {g : Nat} {v : Value} {t : TypeId} (h : w.heap[g]? = some (.cells #[v] t (0, 0))) : w.cell? ⟨g, 0, none⟩ = some v ∧ g < w.heap.size :=
  ⟨by rw [cell_of_row w g 0 _ _ _ h]; rfl, (Array.getElem?_eq_some_iff.1 h).1⟩
section
variable {w wr : World} {a a1 : Option Addr} {len cap c1 t c7 : Nat} {zs vs : List Int} {T : It} {S : Nat → Prop}
theorem box3 (h : Sep w wr (tabT w.heap.size t T S :: boxes w a a1 len cap c1 t c7 vs)) : wr.cell? ⟨w.heap.size, 0, none⟩ = some (.slice a len cap) ∧ w.heap.size < wr.heap.size := one_cell (h.get 2 rfl : (blockT _ _).P wr)
theorem box7 (h : Sep w wr (tabT w.heap.size t T S :: boxes w a a1 len cap c1 t c7 vs)) : wr.cell? ⟨c7, 0, none⟩ = some (.pointer (some ⟨t, 0, none⟩)) ∧ c7 < wr.heap.size := one_cell (h.get 3 rfl : (blockT _ _).P wr)
theorem box8 (h : Sep w wr (tabT w.heap.size t T S :: boxes w a a1 len cap c1 t c7 vs)) : wr.cell? ⟨c7 + 1, 0, none⟩ = some (.slice a1 len c1) ∧ c7 + 1 < wr.heap.size := one_cell (h.get 4 rfl : (blockT _ _).P wr)
theorem kept_of (h : Sep w wr (tabT w.heap.size t T S :: boxes w a a1 len cap c1 t c7 vs)) (hin : IntsIn w .u64 a len cap zs)
    (hk : ∀ j, j < len → ∃ i : Nat, T.get ((natsOf zs).getD j 0) = some i ∧ vs.getD j 0 = (i : Int)) :
    Calls Try.prog 26 #[.pointer (some ⟨w.heap.size, 0, none⟩), .pointer (some ⟨c7, 0, none⟩), .pointer (some ⟨c7 + 1, 0, none⟩)] wr fun e w' => e = .returned (.bool true) ∧ Sep w w' (tabT w.heap.size t T S :: boxes w a a1 len cap c1 t c7 vs) := by
  refine (stable_kept h (box3 h).1 (box7 h).1 (box8 h).1 (hin.of_below h.below) (show IntsIn wr .i64 a1 len c1 vs from h.get 1 rfl) (box3 h).2 (box7 h).2 (box8 h).2 hk).mono ?_
  rintro e w' ⟨he, hb⟩
  exact ⟨he, h.keep hb⟩
end

set_option maxHeartbeats 2000000
set_option maxRecDepth 100000 in
theorem walk (a : Option Addr) (len cap : Nat) (zs : List Int) (ao : Option Addr) (lo co : Nat) (os : List Int) (back : Bool) (w : World) (hin : IntsIn w .u64 a len cap zs) (hio : IntsIn w .u64 ao lo co os) :
    Calls Try.prog 5 #[.slice a len cap, .slice ao lo co, .bool back] w fun e w' => e = .returned (.bool true) ∧ Below w.heap.size w w' := by
  have hle := hin.hle
  have hmax := hin.hmax
  have hlo := hio.hle
  have hmo := hio.hmax
  have HB0 := Lib.hid (show Sep w (w.alloc (.cells #[.slice a len cap] 37 (0, 0))) [blockT w.heap.size (.cells #[.slice a len cap] 37 (0, 0))] from
    (Sep.start w).add ((Below.refl _ _).alloc (Nat.le_refl _) _) (blockT w.heap.size (.cells #[.slice a len cap] 37 (0, 0))) (heap_alloc_new _ _) (by rintro q rfl; exact Nat.le_refl _))
  have HIN := Lib.hid hin
  have HIO := Lib.hid hio
  by_cases hbig : len ≤ 300 ∧ lo ≤ 300
  · obtain ⟨hl, hl2⟩ := hbig
    obtain ⟨hn1, hn2⟩ := hin.nat
    obtain ⟨om1, om2⟩ := hio.nat
    obtain ⟨xs, hxs⟩ : ∃ xs, natsOf zs = xs := ⟨_, rfl⟩
    rw [hxs] at hn1 hn2
    have hxl : xs.length = len := by rw [← hxs, natsOf_len]; exact hin.hlen
    obtain ⟨T, hT⟩ : ∃ T, It.fill 600 xs = T := ⟨_, rfl⟩
    have hfull : xs.take len = xs := by rw [← hxl, List.take_length]
    have hinv := It.fill_inv (n := 600) (by omega) hn1 len (by omega)
    have hget := It.fill_get (n := 600) (by omega) hn1 (by omega) len (by omega)
    rw [hfull, hT] at hinv hget
    have HX := Lib.hid (And.intro hxs hT)
    have HN := Lib.hid (And.intro hn1 hn2)
    have HO := Lib.hid (And.intro om1 om2)
    have HV := Lib.hid hinv
    have HG := Lib.hid hget
    clear hin hio hn1 hn2 om1 om2 hxs hxl hT hfull hinv hget
    go_enter Try.func5, Try.ntmps5
    go_wp2_with fail
    refine (Sep.l3filled HB0.out HIN.out 600 (by omega) (by omega)).mono ?_
    rintro e w1 ⟨t, S1, a1, c1, rfl, q1, m1, h⟩
    rw [HX.out.1, HX.out.2] at h
    have H1 := Lib.hid (show Sep w ((w1.alloc (.cells #[.pointer (some ⟨t, 0, none⟩)] 25 (0, 0))).alloc (.cells #[.slice a1 len c1] 38 (0, 0))) (tabT w.heap.size t T S1 :: boxes w a a1 len cap c1 t w1.heap.size (atL 600 xs len)) by
      have h1 := h.add ((Below.refl _ _).alloc (Nat.le_refl _) _) (blockT w1.heap.size (.cells #[.pointer (some ⟨t, 0, none⟩)] 25 (0, 0))) (heap_alloc_new _ _) (by rintro q rfl; exact Nat.le_refl _)
      have h2 := h1.add ((Below.refl _ _).alloc (Nat.le_refl _) _) (blockT (w1.alloc (.cells #[.pointer (some ⟨t, 0, none⟩)] 25 (0, 0))).heap.size (.cells #[.slice a1 len c1] 38 (0, 0))) (heap_alloc_new _ _) (by rintro q rfl; exact Nat.le_refl _)
      refine h2.sub (fun i => if i = 0 then 2 else if i = 1 then 3 else if i = 2 then 4 else if i = 3 then 1 else if i = 4 then 0 else i) _ ?_ ?_
      · intro i j e
        rcases i with _ | _ | _ | _ | _ | i <;> rcases j with _ | _ | _ | _ | _ | j <;> simp_all
      · intro i z hi
        match i, hi with
        | 0, hi => exact hi
        | 1, hi => exact hi
        | 2, hi => exact hi
        | 3, hi => exact hi
        | 4, hi => simpa [boxes] using hi
        | i + 5, hi => simp [boxes] at hi)
    clear h
    go_wp2
    have HATT := Lib.hid (fun j (hj : j < len) => atL_at (n := 600) xs hj)
    generalize atL 600 xs len = vs at H1 HATT
    generalize w1.heap.size = c7 at H1 ⊢
    go_loopw [6, 12] (fun u y wr => ∃ (k : Nat) (U : It) (S : Nat → Prop), u = .bool false ∧ y = .int .i64 k ∧ k ≤ lo ∧ (U.Ok ∧ U.ar.slots = 600 ∧ U.len ≤ len + k ∧ ∀ j, j < len → U.get (xs.getD j 0) = some (It.atOf 600 xs j)) ∧ Sep w wr (tabT w.heap.size t U S :: boxes w a a1 len cap c1 t c7 vs)) (fun _ y _ => lo - (intOf y).toNat)
    case atStart => exact ⟨0, T, S1, rfl, rfl, Nat.zero_le _, ⟨HV.out.1, HV.out.2.1, HV.out.2.2, HG.out⟩, H1.out⟩
    case round =>
      obtain ⟨k, U, S, rfl, rfl, hk, hgood, hsep⟩ := hrel
      have HR := Lib.hid hsep
      have HGD := Lib.hid hgood
      obtain ⟨b7, b7s⟩ := box7 hsep
      clear hgood b7s
      by_cases hlt : k < lo
      · obtain ⟨bi, oi, rfl, hbi, hci⟩ := HIO.out.hcell k hlt
        rw [HO.out.2 k hlt] at hci
        obtain ⟨x, hx⟩ : ∃ x, (natsOf os).getD k 0 = x := ⟨_, rfl⟩
        have hx64 : x < 18446744073709551616 := by rw [← hx]; exact It.getD_lt HO.out.1 k
        rw [hx] at hci
        have e1 := (hsep.below.cell (p := ⟨bi, oi + k, none⟩) hbi).trans hci
        have HE := Lib.hid (And.intro hbi hci)
        obtain ⟨R, hR⟩ : ∃ R, U.putR x = R := ⟨_, rfl⟩
        obtain ⟨ri, rb, re⟩ := R
        have hroom := It.putR_room HGD.out.1 x (by have h1 := HGD.out.2.1; have h2 := HGD.out.2.2.1; omega)
        rw [hR] at hroom
        simp only at hroom
        subst hroom
        have HRR := Lib.hid hR
        have HP := Lib.hid (Sep.iPut (hsep.keep ((Below.refl _ _).drew)) x hx64)
        clear hx hbi hci hR hsep
        go_wp2
        go_region_held3 (fun w' => w'.cell? ⟨c7, 0, none⟩ = some (.pointer (some ⟨t, 0, none⟩)) ∧ w'.cell? ⟨bi, oi + k, none⟩ = some (.int .u64 x)) (go_keep)
          (first
            | (go_at_call 22; refine HP.out.mono ?_; rintro e w3 ⟨rfl, S3, h⟩; obtain ⟨k7, _⟩ := box7 h; have g1 := (h.below.cell (p := ⟨bi, oi + k, none⟩) HE.out.1).trans HE.out.2; rw [HRR.out]; simp only [putV]; have H3 := Lib.hid h; clear h))
        go_wp2
        go_roundw
        case rel =>
          refine ⟨k + 1, _, S3, rfl, by simp, by omega, ⟨It.put_ok HGD.out.1 hx64, (It.put_slots x).trans HGD.out.2.1, ?_, fun j hj => It.put_keep HGD.out.1 hx64 (HGD.out.2.2.2 j hj)⟩, H3.out⟩
          have h1 := It.put_len_le HGD.out.1 x
          have h2 := HGD.out.2.2.1
          omega
        case measure => simp [intOf]; omega
      · obtain rfl : k = lo := by omega
        clear hlt b7 hsep
        have HK1 := Lib.hid (kept_of HR.out HIN.out (fun j hj => ⟨_, by rw [HX.out.1]; exact HGD.out.2.2.2 j hj, HATT.out j hj⟩))
        go_wp2_with (go_at_call 26; refine HK1.out.mono ?_; rintro e w4 ⟨rfl, h⟩; have H4 := Lib.hid h; clear h)
        go_loopw [16] (fun y wr => ∃ (q : Nat) (V : It) (S : Nat → Prop), y = .int .i64 q ∧ q ≤ k ∧ (V.Ok ∧ ∀ j, j < len → V.get (xs.getD j 0) = some (It.atOf 600 xs j)) ∧ Sep w wr (tabT w.heap.size t V S :: boxes w a a1 len cap c1 t c7 vs)) (fun y _ => k - (intOf y).toNat)
        case atStart => exact ⟨0, U, S, rfl, Nat.zero_le _, ⟨HGD.out.1, HGD.out.2.2.2⟩, H4.out⟩
        case round =>
          obtain ⟨q, V, S5, rfl, hq, hgood, hsep⟩ := hrel
          have HR5 := Lib.hid hsep
          have HG5 := Lib.hid hgood
          obtain ⟨b7, b7s⟩ := box7 hsep
          have HIN3 := Lib.hid (fun x => stable_in (box3 hsep).1 (HIN.out.of_below hsep.below) x)
          clear hgood b7s
          by_cases hlt : q < k
          · obtain ⟨bi, oi, rfl, hbi, hci⟩ := HIO.out.hcell q hlt
            rw [HO.out.2 q hlt] at hci
            obtain ⟨x, hx⟩ : ∃ x, (natsOf os).getD q 0 = x := ⟨_, rfl⟩
            have hx64 : x < 18446744073709551616 := by rw [← hx]; exact It.getD_lt HO.out.1 q
            rw [hx] at hci
            have e1 := (hsep.below.cell (p := ⟨bi, oi + q, none⟩) hbi).trans hci
            obtain ⟨j, hj⟩ : ∃ j, k = j + 1 + q := ⟨k - 1 - q, by omega⟩
            have hjI : (k : Int) - 1 - (q : Int) = (j : Int) := by omega
            have hjk : j < k := by omega
            have hcj := IntsIn.cellAt HIO.out hjk
            rw [HO.out.2 j hjk] at hcj
            obtain ⟨y, hy⟩ : ∃ y, (natsOf os).getD j 0 = y := ⟨_, rfl⟩
            have hy64 : y < 18446744073709551616 := by rw [← hy]; exact It.getD_lt HO.out.1 j
            rw [hy] at hcj
            have e2 := (hsep.below.cell (p := ⟨bi, oi + j, none⟩) hbi).trans hcj
            clear hx hbi hci hsep hj hcj hy
            cases back
            · go_wp2_with fail
              refine (HIN3.out x).mono ?_
              rintro e wz ⟨b, rfl, rfl, hb⟩
              have HBB := Lib.hid hb
              clear hb
              cases b
              · go_wp2_with (go_at_call 21; refine (Sep.iDel HR5.out x hx64).mono ?_; rintro e w6 ⟨rfl, S6, h⟩; have H6 := Lib.hid h; clear h)
                go_roundw
                case rel =>
                  refine ⟨q + 1, _, S6, by simp, by omega, ⟨It.del_ok HG5.out.1 x, fun i hi => ?_⟩, H6.out⟩
                  have hne := HBB.out (by simp) i hi
                  rw [HX.out.1] at hne
                  rw [It.del_get HG5.out.1, if_neg hne]
                  exact HG5.out.2 i hi
                case measure => simp [intOf]; omega
              · go_wp2
                go_roundw
                case rel => exact ⟨q + 1, V, S5, by simp, by omega, HG5.out, HR5.out⟩
                case measure => simp [intOf]; omega
            · go_wp2_with fail
              refine (HIN3.out y).mono ?_
              rintro e wz ⟨b, rfl, rfl, hb⟩
              have HBB := Lib.hid hb
              clear hb
              cases b
              · go_wp2_with (go_at_call 21; refine (Sep.iDel HR5.out y hy64).mono ?_; rintro e w6 ⟨rfl, S6, h⟩; have H6 := Lib.hid h; clear h)
                go_roundw
                case rel =>
                  refine ⟨q + 1, _, S6, by simp, by omega, ⟨It.del_ok HG5.out.1 y, fun i hi => ?_⟩, H6.out⟩
                  have hne := HBB.out (by simp) i hi
                  rw [HX.out.1] at hne
                  rw [It.del_get HG5.out.1, if_neg hne]
                  exact HG5.out.2 i hi
                case measure => simp [intOf]; omega
              · go_wp2
                go_roundw
                case rel => exact ⟨q + 1, V, S5, by simp, by omega, HG5.out, HR5.out⟩
                case measure => simp [intOf]; omega
          · obtain rfl : q = k := by omega
            clear hlt b7 hsep
            have HK2 := Lib.hid (kept_of HR5.out HIN.out (fun j hj => ⟨_, by rw [HX.out.1]; exact HG5.out.2 j hj, HATT.out j hj⟩))
            go_wp2_with (first
              | (go_at_call 26; refine HK2.out.mono ?_; rintro e w7 ⟨rfl, h⟩; have H7 := Lib.hid h; clear h)
              | (go_at_call 19; refine (Sep.l3works H7.out).mono ?_; rintro e w8 ⟨rfl, h⟩; have H8 := Lib.hid h; clear h))
            go_ret
            exact ⟨by simp, H8.out.below⟩
  · have hcase : 300 < len ∨ (len ≤ 300 ∧ 300 < lo) := by omega
    clear hin hio hbig
    rcases hcase with h | ⟨h, h'⟩
    all_goals
      go_enter Try.func5, Try.ntmps5
      go_wp2_with (go_at_call 19; refine (Sep.l3works HB0.out).mono ?_; rintro e w8 ⟨rfl, h⟩; have H8 := Lib.hid h; clear h)
      go_ret
      exact ⟨by simp, H8.out.below⟩
end InternStable
end Go.Proofs.Ythlfmlpdnbeelaa
