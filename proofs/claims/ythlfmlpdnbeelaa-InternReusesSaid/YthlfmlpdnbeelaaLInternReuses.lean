/- For every list of ids, every number and every id seepagelaw03.InternReuses returns true, and its arguments read as before. No condition. -/
import Derived.Test.YthlfmlpdnbeelaaL3Fill
import Derived.Test.YthlfmlpdnbeelaaClose
set_option linter.unusedSimpArgs false
set_option linter.unusedVariables false
namespace Go.Proofs.Ythlfmlpdnbeelaa
open Go.ChangeShapes Go.WideShapes Go.ChangeAt Go.RowKit
namespace InternReuses

set_option maxHeartbeats 4000000
set_option maxRecDepth 100000 in
theorem walk (a : Option Addr) (len cap : Nat) (zs : List Int) (p : Nat) (hp : p ≤ 65535) (x : Nat) (hx : x < 18446744073709551616) (w : World) (hin : IntsIn w .u64 a len cap zs) :
    Calls Try.prog 6 #[.slice a len cap, .int .u16 p, .int .u64 x] w fun e w' => e = .returned (.bool true) ∧ Below w.heap.size w w' := by
  have hle := hin.hle
  have hmax := hin.hmax
  have hlen := hin.hlen
  by_cases hl : len ≤ 300 ∧ 0 < len
  · obtain ⟨hl, hl0⟩ := hl
    obtain ⟨hn1, hn2⟩ := hin.nat
    obtain ⟨xs, hxs⟩ : ∃ xs, natsOf zs = xs := ⟨_, rfl⟩
    rw [hxs] at hn1 hn2
    have hxl : xs.length = len := by rw [← hxs, natsOf_len]; exact hlen
    obtain ⟨k, hk⟩ : ∃ k, p % len = k := ⟨_, rfl⟩
    have hkl : k < len := by rw [← hk]; exact Nat.mod_lt _ hl0
    have hkI : (p : Int) % (len : Int) = (k : Int) := by rw [← hk, Int.natCast_emod]
    obtain ⟨y, hy⟩ : ∃ y, xs.getD k 0 = y := ⟨_, rfl⟩
    have hy64 : y < 18446744073709551616 := by rw [← hy]; exact It.getD_lt hn1 k
    obtain ⟨T, hT⟩ : ∃ T, It.fill 301 xs = T := ⟨_, rfl⟩
    have hfull : xs.take len = xs := by rw [← hxl, List.take_length]
    obtain ⟨o1, o2, o3⟩ := It.fill_inv (n := 301) (by omega) hn1 len (by omega)
    have hget := It.fill_get (n := 301) (by omega) hn1 (by omega) len (by omega) k hkl
    rw [hfull, hT] at o1 o2 o3 hget
    rw [hy] at hget
    obtain ⟨i, hi⟩ : ∃ i, It.atOf 301 xs k = i := ⟨_, rfl⟩
    rw [hi] at hget
    have oD := It.del_ok o1 y
    have gD := It.del_get o1 y y
    rw [if_pos rfl] at gD
    have pD := It.del_put o1 hget gD
    have gP := It.put_get oD hy64 (by rw [pD])
    rw [pD] at gP
    have oP := It.put_ok oD hy64
    have lD := It.del_len o1 hget
    have lP := It.put_len_le oD y
    obtain ⟨T2, hT2⟩ : ∃ T2, (T.del y).put y = T2 := ⟨_, rfl⟩
    rw [hT2] at gP oP lP
    have oE := It.del_ok oP y
    have lE := It.del_len oP gP
    obtain ⟨T3, hT3⟩ : ∃ T3, T2.del y = T3 := ⟨_, rfl⟩
    have hput : T3.get x = none → T3.putR x = (i, true, 0) := fun h => by
      rw [← hT3] at h ⊢
      exact It.del_put oP gP h
    have hput2 : ∀ j, T3.get x = some j → T3.putR x = (j, false, 0) := fun j h => by unfold It.putR; rw [h]
    obtain ⟨b0, off, ha, hb0, hc⟩ := hin.hcell k hkl
    rw [hn2 k hkl, hy] at hc
    have HIN := Lib.hid hin
    have HT := Lib.hid (And.intro hxs hT)
    have HAT := Lib.hid (show (atL 301 xs len).getD k 0 = (i : Int) by rw [atL_at xs hkl, hi])
    have HD := Lib.hid (It.del_some hget)
    have HDE := Lib.hid (It.del_some hget).2
    have HPR := Lib.hid pD
    have HT2 := Lib.hid hT2
    have HD2 := Lib.hid (It.del_some gP).2
    have HT3 := Lib.hid hT3
    have HPUT := Lib.hid (And.intro hput hput2)
    subst ha
    clear hin hn1 hn2 hxs hxl hk hy hT hfull o1 o2 o3 hget hi oD gD pD gP oP lD lP hT2 oE lE hT3 hput hput2 hlen
    obtain ⟨og, hog⟩ : ∃ og, T3.get x = og := ⟨_, rfl⟩
    have HOG := Lib.hid hog
    obtain ⟨R, hR⟩ : ∃ R, T3.putR x = R := ⟨_, rfl⟩
    have hcase : (∃ j, og = some j ∧ R = (j, false, 0)) ∨ (og = none ∧ R = (i, true, 0)) := by
      cases og with
      | none => right; exact ⟨rfl, by rw [← hR]; exact HPUT.out.1 hog⟩
      | some j => left; exact ⟨j, rfl, by rw [← hR]; exact HPUT.out.2 j hog⟩
    have HR := Lib.hid hR
    clear hog hR
    have hlz : ((len : Int) == 0) = false := by simp; omega
    rcases hcase with ⟨j, rfl, rfl⟩ | ⟨rfl, rfl⟩
    all_goals
      go_enter Try.func6, Try.ntmps6
      go_wp2_with (first
        | (go_at_call 19; refine (Sep.l3works H7.out).mono ?_; rintro e w8 ⟨rfl, h⟩; have H8 := Lib.hid h; clear h H7)
        | (go_at_call 22; refine (Sep.iPut H6.out x hx).mono ?_; rintro e w7 ⟨rfl, S7, h⟩; rw [HR.out]; simp only [putV]; have kc := IntsIn.cellAt (show IntsIn w7 .i64 (some ⟨b8, o8, none⟩) len c1 (atL 301 xs len) from h.get 1 rfl) hkl; rw [HAT.out] at kc; have H7 := Lib.hid h; clear h H6)
        | (go_at_call 27; refine (Sep.iGet H5.out x hx).mono ?_; rintro e w6 ⟨rfl, h, _⟩; rw [HOG.out]; simp only [getV]; have H6 := Lib.hid h; clear h H5)
        | (go_at_call 21; refine (Sep.iDel H3.out y hy64).mono ?_; rintro e w5 ⟨rfl, S5, h⟩; rw [HD2.out]; rw [HT3.out] at h; have H5 := Lib.hid h; clear h H3)
        | (go_at_call 22; refine (Sep.iPut H2.out y hy64).mono ?_; rintro e w3 ⟨rfl, S3, h⟩; rw [HPR.out]; simp only [putV]; rw [HT2.out] at h; have kc := IntsIn.cellAt (show IntsIn w3 .i64 (some ⟨b8, o8, none⟩) len c1 (atL 301 xs len) from h.get 1 rfl) hkl; rw [HAT.out] at kc; have kd := (h.below.cell (p := ⟨b0, off + k, none⟩) hb0).trans hc; have H3 := Lib.hid h; clear h H2)
        | (go_at_call 21; refine (Sep.iDel H1.out y hy64).mono ?_; rintro e w2 ⟨rfl, S2, h⟩; rw [HDE.out]; have kd := (h.below.cell (p := ⟨b0, off + k, none⟩) hb0).trans hc; have H2 := Lib.hid h; clear h H1)
        | (go_at_call 24; refine (Sep.l3filled (Sep.start w) HIN.out 301 (by omega) (by omega)).mono ?_; rintro e w1 ⟨t, S1, a1, c1, rfl, q1, m1, h⟩; rw [HT.out.1, HT.out.2] at h; obtain ⟨b8, o8, rfl⟩ := IntsIn.addr (show IntsIn w1 .i64 a1 len c1 _ from h.get 1 rfl) hl0; have kd := (h.below.cell (p := ⟨b0, off + k, none⟩) hb0).trans hc; have H1 := Lib.hid h; clear h))
      go_ret
      exact ⟨by simp, H8.out.below⟩
  · have HS := Lib.hid (Sep.start w)
    have hcase : 300 < len ∨ len = 0 := by omega
    clear hin hl
    rcases hcase with h | h
    all_goals
      go_enter Try.func6, Try.ntmps6
      go_wp2_with (go_at_call 19; refine (Sep.l3works HS.out).mono ?_; rintro e w8 ⟨rfl, h⟩; have H8 := Lib.hid h; clear h)
      go_ret
      exact ⟨by simp, H8.out.below⟩
end InternReuses
end Go.Proofs.Ythlfmlpdnbeelaa
