/- For every number of slots, every first id and every distance seepagelaw03.InternFull returns true. No condition. -/
import Derived.Test.YthlfmlpdnbeelaaIntK
import Derived.Test.YthlfmlpdnbeelaaL3Fill
import Derived.Test.YthlfmlpdnbeelaaClose
set_option linter.unusedSimpArgs false
set_option linter.unusedVariables false
namespace Go.Proofs.Ythlfmlpdnbeelaa
open Go.ChangeShapes Go.WideShapes Go.ChangeAt Go.RowKit
namespace InternFull

theorem arg_val (m c k : Nat) : IntKind.u64.wrap ((c : Int) + IntKind.u64.wrap ((k : Int) * (m : Int))) = ((nm m c k : Nat) : Int) := by
  rw [← nm_val, IntKind.wrap_u64, IntKind.wrap_u64]
  generalize (k : Int) * (m : Int) = q
  omega

set_option maxHeartbeats 1000000
set_option maxRecDepth 100000 in
theorem walk (s : Nat) (hs : s ≤ 255) (first : Nat) (hfirst : first < 18446744073709551616) (step : Nat) (hstep : step < 18446744073709551616) (w : World) :
    Calls Try.prog 4 #[.int .u8 s, .int .u64 first, .int .u64 step] w fun e w' => e = .returned (.bool true) ∧ Below w.heap.size w w' := by
  obtain ⟨n, hn⟩ : ∃ n, s % 201 = n := ⟨_, rfl⟩
  have hn0 : n ≤ 200 := by omega
  have hnI : (s : Int) % 201 = (n : Int) := by omega
  obtain ⟨m, hm⟩ : ∃ m, oddOf step = m := ⟨_, rfl⟩
  have hmI : bits .or .u64 (step : Int) 1 = (m : Int) := by rw [oddOf_val, hm]
  have hm1 : m % 2 = 1 := by rw [← hm]; exact oddOf_odd _
  have hm64 : m < 18446744073709551616 := by rw [← hm]; exact oddOf_lt _
  obtain ⟨f, hf⟩ : ∃ f : Nat → Nat, f = nm m first := ⟨_, rfl⟩
  have hf64 : ∀ i, f i < 18446744073709551616 := fun i => by rw [hf]; exact nm_lt _ _ _
  have hf0 : f 0 = first := by rw [hf]; unfold nm; rw [Nat.zero_mul, Nat.zero_add]; exact Nat.mod_eq_of_lt hfirst
  have hinj : ∀ i j, i ≤ n → j ≤ n → f i = f j → i = j := fun i j hi hj e => by rw [hf] at e; exact nm_inj hm1 (by omega) (by omega) e
  have harg : ∀ k : Nat, IntKind.u64.wrap ((first : Int) + IntKind.u64.wrap ((k : Int) * (m : Int))) = ((f k : Nat) : Int) := fun k => by rw [hf]; exact arg_val _ _ _
  have hput := fun k hk => It.run_put (n := n) (by omega) hinj hf64 k hk
  have hrun := It.run_spec (n := n) (by omega) hinj hf64 n (Nat.le_refl n)
  have hfull := hrun.full hinj
  have hfst := fun h0 => hrun.first hinj hf64 h0
  rw [hf0] at hfst
  have HF0 := Lib.hid hf0
  have HS := Lib.hid (Sep.start w)
  have HA := Lib.hid harg
  have HF := Lib.hid hf64
  have HP := Lib.hid hput
  have HU := Lib.hid hfull
  have H1 := Lib.hid hfst
  clear hn hm hm1 hf hf64 hf0 hinj harg hput hrun hfull hfst
  go_enter Try.func4, Try.ntmps4
  go_wp2_with (go_at_call 20; refine (Sep.iNew HS.out n (by omega)).mono ?_; rintro e w1 ⟨t, S1, rfl, h⟩; have HW := Lib.hid h; clear h)
  go_loopw [6, 10] (fun u y wr => ∃ (k : Nat) (S : Nat → Prop), u = .bool false ∧ y = .int .i64 k ∧ k ≤ n ∧ Sep w wr [tabT w.heap.size t (It.run n f k) S]) (fun _ y _ => n - (intOf y).toNat)
  case atStart => exact ⟨0, S1, rfl, rfl, Nat.zero_le _, HW.out⟩
  case round =>
    obtain ⟨k, S, rfl, rfl, hk, hsep⟩ := hrel
    have HR := Lib.hid hsep
    clear hsep
    by_cases hlt : k < n
    · go_wp2_with (go_at_call 22; rw [HA.out]; refine (Sep.iPut HR.out (f k) (HF.out k)).mono ?_; rintro e w2 ⟨rfl, S2, h⟩; rw [HP.out k hlt]; simp only [putV]; have H2 := Lib.hid h; clear h)
      go_roundw
      case rel => exact ⟨k + 1, S2, rfl, by simp, by omega, H2.out⟩
      case measure => simp [intOf]; omega
    · obtain rfl : k = n := by omega
      clear hlt
      by_cases h0 : 0 < k
      · obtain ⟨g1, g2, g3, g4, g5⟩ := H1.out h0
        have HG1 := Lib.hid g1
        have HG2 := Lib.hid g2
        have HG3 := Lib.hid g3
        have HG4 := Lib.hid g4
        have HG5 := Lib.hid g5
        clear g1 g2 g3 g4 g5
        go_wp2_with (first
          | (go_at_call 19; refine (Sep.l3works HB.out).mono ?_; rintro e w8 ⟨rfl, h⟩; have H8 := Lib.hid h; clear h)
          | (go_at_call 23; refine (Sep.iLenEq HB.out HG5.out).mono ?_; rintro e wz ⟨rfl, rfl⟩)
          | (go_at_call 22; refine (Sep.iPut HD.out (f k) (HF.out k)).mono ?_; rintro e w5 ⟨rfl, S5, h⟩; rw [HG4.out]; simp only [putV]; have HB := Lib.hid h; clear h)
          | (go_at_call 21; refine (Sep.iDel HC.out first hfirst).mono ?_; rintro e w4 ⟨rfl, S4, h⟩; rw [HG3.out]; have HD := Lib.hid h; clear h)
          | (go_at_call 22; refine (Sep.iPut HO.out first hfirst).mono ?_; rintro e w4 ⟨rfl, S4, h⟩; rw [HG1.out]; rw [HG2.out] at h; simp only [putV]; have HC := Lib.hid h; clear h)
          | (go_at_call 23; refine (Sep.iLenEq HO.out HU.out.2.2).mono ?_; rintro e wz ⟨rfl, rfl⟩)
          | (go_at_call 22; rw [HA.out]; refine (Sep.iPut HR.out (f k) (HF.out k)).mono ?_; rintro e w3 ⟨rfl, S3, h⟩; rw [HU.out.1]; rw [HU.out.2.1] at h; simp only [putV]; have HO := Lib.hid h; clear h))
        go_ret
        exact ⟨by simp, H8.out.below⟩
      · obtain rfl : k = 0 := by omega
        have hu := HU.out
        rw [HF0.out] at hu
        have HU0 := Lib.hid hu
        clear hu HU
        go_wp2_with (first
          | (go_at_call 19; refine (Sep.l3works HO.out).mono ?_; rintro e w8 ⟨rfl, h⟩; have H8 := Lib.hid h; clear h)
          | (go_at_call 23; refine (Sep.iLenEq HO.out HU0.out.2.2).mono ?_; rintro e wz ⟨rfl, rfl⟩)
          | (go_at_call 22; refine (Sep.iPut HR.out first hfirst).mono ?_; rintro e w3 ⟨rfl, S3, h⟩; rw [HU0.out.1]; rw [HU0.out.2.1] at h; simp only [putV]; have HO := Lib.hid h; clear h))
        go_ret
        exact ⟨by simp, H8.out.below⟩
end InternFull
end Go.Proofs.Ythlfmlpdnbeelaa
