/- For every list of times, every number and every time seepagelaw35.ExpiryCopies returns true, and its arguments read as before. No condition. -/
import Derived.Test.YtmlbacbcdjfioaaExpT
import Derived.Test.YtmlbacbcdjfioaaClose
set_option linter.unusedSimpArgs false
set_option linter.unusedVariables false
namespace Go.Proofs.Ytmlbacbcdjfioaa
open Go.ChangeShapes Go.WideShapes Go.ChangeAt Go.RowKit
namespace ExpiryCopies

set_option maxHeartbeats 2000000
set_option maxRecDepth 100000 in
theorem walk (a : Option Addr) (len cap : Nat) (zs : List Int) (p : Nat) (hp : p ≤ 65535) (x : Int) (hx : -9223372036854775808 ≤ x ∧ x ≤ 9223372036854775807) (w : World) (hin : IntsIn w .i64 a len cap zs) :
    Calls Try.prog 10 #[.slice a len cap, .int .u16 p, .int .i64 x] w fun e w' => e = .returned (.bool true) ∧ Below w.heap.size w w' := by
  have hle := hin.hle
  have hmax := hin.hmax
  by_cases hl : len ≤ 299
  · have HI := Lib.hid hin
    have ho := upto_ok35 hin (show len ≤ 300 by omega)
    obtain ⟨A, hA⟩ : ∃ A, Hp.upto zs len = A := ⟨_, rfl⟩
    obtain ⟨L, hL⟩ : ∃ L, Srt A L := ⟨_, Hp.sorted_srt (hA ▸ ho)⟩
    have hLl : L.length = len := srt_upto_len (hA ▸ hL) ho
    rw [hA] at ho
    have hsl : A.slots = 300 := by rw [← hA]; rfl
    obtain ⟨k, hk⟩ : ∃ k, p % (len + 1) = k := ⟨_, rfl⟩
    have hkl : k ≤ len := by have := Nat.mod_lt p (show 0 < len + 1 by omega); omega
    have hI : (p : Int) % ((len : Int) + 1) = (k : Int) := by rw [← hk, Int.natCast_emod]; rfl
    have E1 := Lib.hid (show A.setE ((p : Int) % ((len : Int) + 1)) = 0 by rw [hI]; exact Hp.setE_nat (by omega))
    have A1 := Lib.hid (show A.setA ((p : Int) % ((len : Int) + 1)) x = A.put k x by rw [hI]; exact Hp.setA_in x (by omega))
    have E2 := Lib.hid (show (A.put k x).setE 299 = 0 from Hp.setE_nat (i := 299) (by show 299 < A.slots; omega))
    have A2 := Lib.hid (show (A.put k x).setA 299 x = (A.put k x).put 299 x from Hp.setA_in (i := 299) x (by show 299 < A.slots; omega))
    have ho2 : ((A.put k x).put 299 x).Ok := Hp.put_ok (Hp.put_ok ho (by omega) hx) (by show 299 < A.slots; omega) hx
    obtain ⟨M, hM⟩ : ∃ M, Srt ((A.put k x).put 299 x) M := ⟨_, Hp.sorted_srt ho2⟩
    have hML : (lateOf M x).length ≤ len := by
      have hn : (lateOf M x).map Prod.fst = ((lateOf M x).map Prod.fst) := rfl
      have hnd : ((lateOf M x).map Prod.fst).Nodup := by
        refine List.Nodup.sublist ?_ hM.nodup
        exact (List.filter_sublist).map _
      have := hnd.length_le_of_subset (l₂ := List.range len) (fun y hy => by
        obtain ⟨z, hz, rfl⟩ := List.mem_map.1 hy
        unfold lateOf at hz
        rw [List.mem_filter] at hz
        have h1 := (hM.mem z.1 z.2).2 hz.1
        have h2 : x < z.2 := by simpa using hz.2
        simp only [Hp.put] at h1
        rw [List.mem_range]
        split at h1
        · simp at h1; omega
        · split at h1
          · simp at h1; omega
          · rw [← hA] at h1
            simp only [Hp.upto] at h1
            split at h1
            · assumption
            · simp at h1)
      simpa using this
    obtain ⟨N, hN⟩ : ∃ N, lateOf M x = N := ⟨_, rfl⟩
    rw [hN] at hML
    have HL := Lib.hid hL
    have HLL := Lib.hid hLl
    have HM := Lib.hid (And.intro hM (And.intro hN trivial))
    have HD := Lib.hid (due_all hL ho)
    have HA := Lib.hid hA
    clear hin ho hL hLl hk hI ho2 hM hN hA hsl
    go_enter Try.func10, Try.ntmps10
    go_wp2_with (first
      | (go_at_call 28; refine (Sep.l35works H8.out).mono ?_; rintro r w9 ⟨rfl, h⟩; have H9 := Lib.hid h; clear h)
      | (go_at_call 30; have _t := tokM; refine (Sep.eLen H8.out 4 rfl HX6.out).mono ?_; rintro r wz ⟨rfl, rfl⟩; clear tokM)
      | (go_at_call 33; refine (Sep.l35sameEq H7b.out rfl (H7b.out.get 0 rfl) (H7b.out.get 1 rfl)).mono ?_; rintro r w8 ⟨rfl, h⟩; have tokM := trivial; have H8 := Lib.hid h; clear h H7b)
      | (go_at_call 32; have _t := tokD; refine (Sep.eDueEq H7.out 4 rfl HL.out _ HD.out.1 HD.out.2).mono ?_; rintro r w7b ⟨a7b, c7b, A7b, T7b, rfl, _, hx, _, h⟩; have H7b := Lib.hid h; clear h hx H7 tokD)
      | (go_at_call 30; refine (Sep.eLenEq H7.out 4 rfl HL.out HLL.out).mono ?_; rintro r wz ⟨rfl, rfl⟩; have tokD := trivial)
      | (go_at_call 32; refine (Sep.eDueEq H6.out 1 rfl HL.out _ HD.out.1 HD.out.2).mono ?_; rintro r w7 ⟨a7, c7, A7, T7, rfl, _, hx, _, h⟩; have H7 := Lib.hid h; clear h hx H6)
      | (go_at_call 32; refine (Sep.eDueEq H5.out 1 rfl HM.out.1 _ rfl HM.out.2.1).mono ?_; rintro r w6 ⟨a6, c6, A6, T6, rfl, _, hx, _, h⟩; have H6 := Lib.hid h; have HX6 := Lib.hid hx; clear h hx H5)
      | (go_at_call 37; refine (Sep.eSet H4.out 1 rfl 299 x hx).mono ?_; rintro r w5 ⟨rfl, S5, h⟩; rw [A2.out] at h; rw [E2.out]; have H5 := Lib.hid h; clear h H4)
      | (go_at_call 37; refine (Sep.eSet H3.out 1 rfl _ x hx).mono ?_; rintro r w4 ⟨rfl, S4, h⟩; rw [A1.out] at h; rw [E1.out]; have H4 := Lib.hid h; clear h H3)
      | (go_at_call 36; refine (Sep.eCopy H2.out 1 rfl).mono ?_; rintro r w3 ⟨e3, b3, S3, rfl, h⟩; have H3 := Lib.hid h; clear h H2)
      | (go_at_call 36; refine (Sep.eCopy H1.out 0 rfl).mono ?_; rintro r w2 ⟨e2, b2, S2, rfl, h⟩; have H2 := Lib.hid h; clear h H1)
      | (go_at_call 29; refine (Sep.l35filled (Sep.start w) false HI.out (by omega)).mono ?_; rintro r w1 ⟨e1, b1, S1, rfl, h⟩; rw [HA.out] at h; have H1 := Lib.hid h; clear h))
    go_ret
    exact ⟨by simp, H9.out.below⟩
  · clear hin
    go_enter Try.func10, Try.ntmps10
    go_wp2_with (go_at_call 28; refine (l35works_any _).mono ?_; rintro e w' ⟨rfl, hb⟩)
    go_ret
    exact ⟨by simp, by assumption⟩
end ExpiryCopies
end Go.Proofs.Ytmlbacbcdjfioaa
