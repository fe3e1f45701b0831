/- For every number of slots, every script and every two numbers seepagelaw03.InternNames returns true, and its arguments read as before. No condition. -/
import Derived.Test.YthlfmlpdnbeelaaIntK
import Derived.Test.YthlfmlpdnbeelaaIntX
import Derived.Test.YthlfmlpdnbeelaaL3Fill
import Derived.Test.YthlfmlpdnbeelaaClose
set_option linter.unusedSimpArgs false
set_option linter.unusedVariables false
namespace Go.Proofs.Ythlfmlpdnbeelaa
open Go.ChangeShapes Go.WideShapes Go.ChangeAt Go.RowKit
namespace InternNames
def sk2 : Nat → IntKind := fun j => if j = 0 then .i64 else .u64

/-- The same table under other names. -/
structure Nm (f : Nat → Nat) (T U : It) : Prop where
  ar : U.ar = T.ar
  ids : ∀ i, T.ar.used i = true → U.ids i = f (T.ids i)
section
variable {f : Nat → Nat} {T U : It}
theorem Nm.get (h : Nm f T U) (ht : T.Ok) (hu : U.Ok) (hinj : ∀ x y, x < 18446744073709551616 → y < 18446744073709551616 → f x = f y → x = y) {x : Nat} (hx : x < 18446744073709551616) : U.get (f x) = T.get x := by
  cases hg : T.get x with
  | some i =>
    obtain ⟨h1, h2⟩ := (It.get_some ht).1 hg
    exact (It.get_some hu).2 ⟨by rw [h.ar]; exact h1, by rw [h.ids i h1, h2]⟩
  | none =>
    rw [It.get_none hu]
    intro i hi e
    rw [h.ar] at hi
    rw [h.ids i hi] at e
    exact (It.get_none ht).1 hg i hi (hinj _ _ (ht.idlt i (Ar.used_lt hi)) hx e)
theorem Nm.put (h : Nm f T U) (ht : T.Ok) (hu : U.Ok) (hinj : ∀ x y, x < 18446744073709551616 → y < 18446744073709551616 → f x = f y → x = y) {x : Nat} (hx : x < 18446744073709551616) :
    U.putR (f x) = T.putR x ∧ Nm f (T.put x) (U.put (f x)) := by
  have hg := h.get ht hu hinj hx
  unfold It.putR It.put
  rw [hg, h.ar]
  cases T.get x with
  | some i => exact ⟨rfl, h⟩
  | none =>
    cases hn : T.ar.next with
    | none => exact ⟨rfl, h⟩
    | some i =>
      refine ⟨rfl, by show U.ar.take i = T.ar.take i; rw [h.ar], fun j hj => ?_⟩
      show (if j = i then f x else U.ids j) = f (if j = i then x else T.ids j)
      by_cases e : j = i
      · rw [if_pos e, if_pos e]
      · rw [if_neg e, if_neg e]
        exact h.ids j (((Ar.take_used ht.ar hn j).1 hj).resolve_left e)
theorem Nm.del (h : Nm f T U) (ht : T.Ok) (hu : U.Ok) (hinj : ∀ x y, x < 18446744073709551616 → y < 18446744073709551616 → f x = f y → x = y) {x : Nat} (hx : x < 18446744073709551616) :
    U.delE (f x) = T.delE x ∧ Nm f (T.del x) (U.del (f x)) := by
  have hg := h.get ht hu hinj hx
  unfold It.delE It.del
  rw [hg]
  cases T.get x with
  | none => exact ⟨rfl, h⟩
  | some i =>
    refine ⟨rfl, by show U.ar.freed i = T.ar.freed i; rw [h.ar], fun j hj => ?_⟩
    have hj' : (T.ar.freed i).used j = true := hj
    rw [Ar.freed_used] at hj'
    exact h.ids j hj'.1
end
theorem arg_val (m c x : Nat) : IntKind.u64.wrap (IntKind.u64.wrap ((x : Int) * (m : Int)) + (c : Int)) = ((nm m c x : Nat) : Int) := by
  rw [← nm_val, IntKind.wrap_u64, IntKind.wrap_u64]
  generalize (x : Int) * (m : Int) = q
  omega

set_option maxHeartbeats 1000000
set_option maxRecDepth 100000 in
theorem walk (n : Int) (hn : -9223372036854775808 ≤ n ∧ n ≤ 9223372036854775807) (a : Option Addr) (len cap : Nat) (zs : Nat → Nat → Int) (b : Nat) (hb64 : b < 18446744073709551616) (c : Nat) (hc64 : c < 18446744073709551616) (w : World) (hin : RowsIn w 2 sk2 a len cap zs) :
    Calls Try.prog 3 #[.int .i64 n, .slice a len cap, .int .u64 b, .int .u64 c] w fun e w' => e = .returned (.bool true) ∧ Below w.heap.size w w' := by
  have hle := hin.hle
  have hmax := hin.hmax
  have HIN := Lib.hid hin
  have HS := Lib.hid (Sep.start w)
  obtain ⟨m, hm⟩ : ∃ m, oddOf b = m := ⟨_, rfl⟩
  have hmI : bits .or .u64 (b : Int) 1 = (m : Int) := by rw [oddOf_val, hm]
  have hm1 : m % 2 = 1 := by rw [← hm]; exact oddOf_odd _
  have hm64 : m < 18446744073709551616 := by rw [← hm]; exact oddOf_lt _
  have hinj : ∀ x y, x < 18446744073709551616 → y < 18446744073709551616 → nm m c x = nm m c y → x = y := fun x y hx hy e => nm_inj hm1 hx hy e
  have HA := Lib.hid (arg_val m c)
  have HJ := Lib.hid hinj
  clear hin hm hm1 hinj
  by_cases hbig : 200 < len
  · go_enter Try.func3, Try.ntmps3
    go_wp2_with (go_at_call 19; refine (Sep.l3works HS.out).mono ?_; rintro e w8 ⟨rfl, h⟩; have H8 := Lib.hid h; clear h)
    go_ret
    exact ⟨by simp, H8.out.below⟩
  · by_cases hok : 0 ≤ n ∧ n ≤ 65536
    · obtain ⟨N, rfl⟩ : ∃ N : Nat, n = N := ⟨n.toNat, by omega⟩
      have hN : N ≤ 65536 := by omega
      clear hok
      go_enter Try.func3, Try.ntmps3
      go_wp2_with (first
        | (go_at_call 20; refine (Sep.iNew H1.out N hN).mono ?_; rintro e w2 ⟨t2, S2, rfl, h⟩; have H2 := Lib.hid h.swap2; clear h H1)
        | (go_at_call 20; refine (Sep.iNew HS.out N hN).mono ?_; rintro e w1 ⟨t1, S1, rfl, h⟩; have H1 := Lib.hid h; clear h))
      go_loopw [8, 13] (fun u y wr => ∃ (k : Nat) (T U : It) (S1 S2 : Nat → Prop), u = .bool false ∧ y = .int .i64 k ∧ k ≤ len ∧ Nm (nm m c) T U ∧ Sep w wr [tabT w.heap.size t1 T S1, tabT w.heap.size t2 U S2]) (fun _ y _ => len - (intOf y).toNat)
      case atStart => exact ⟨0, _, _, S1, S2, rfl, rfl, Nat.zero_le _, ⟨rfl, fun i hi => by simp [It.new, Ar.new_used] at hi⟩, H2.out⟩
      case round =>
        obtain ⟨k, T, U, S1', S2', rfl, rfl, hk, hnm, hsep⟩ := hrel
        have HR := Lib.hid hsep
        by_cases hlt : k < len
        · obtain ⟨bi, oi, rfl, hbi, hci⟩ := HIN.out.hcell k hlt
          have e0 := (hsep.below.cell (p := ⟨bi, oi + k * 2 + 0, none⟩) hbi).trans (hci 0 (by omega))
          have hz1 : 0 ≤ zs k 1 ∧ zs k 1 ≤ 18446744073709551615 := wf_u64 (HIN.out.hwf k hlt 1 (by omega))
          obtain ⟨x, hx⟩ : ∃ x : Nat, zs k 1 = x := ⟨(zs k 1).toNat, by omega⟩
          have hx64 : x < 18446744073709551616 := by omega
          have hc1 := hci 1 (by omega)
          rw [hx] at hc1
          have e1 := (hsep.below.cell (p := ⟨bi, oi + k * 2 + 1, none⟩) hbi).trans hc1
          have HE := Lib.hid (And.intro hbi hc1)
          have okT := hsep.tab_it
          have okU := hsep.swap2.tab_it
          have hfx := nm_lt m c x
          have HAX := Lib.hid (HA.out x)
          have hput := hnm.put okT okU HJ.out hx64
          have hdel := hnm.del okT okU HJ.out hx64
          have HP := Lib.hid hput
          have HD := Lib.hid hdel
          simp only [sk2, Nat.add_zero, if_pos, if_neg, Nat.one_ne_zero, if_false, if_true] at e0 e1
          clear hci hz1 hx hc1 okT okU hnm hput hdel hsep
          generalize zs k 0 = z0 at e0
          generalize nm m c x = fx at hfx HAX HP HD
          by_cases hd : z0 = 1
          · subst hd
            obtain ⟨d, hdd⟩ : ∃ d, T.delE x = d := ⟨_, rfl⟩
            have HDD := Lib.hid (And.intro hdd (HD.out.1.trans hdd))
            clear hdd
            go_wp2_with (first
              | (go_at_call 21; have h3 := H3.out; rw [HAX.out]; refine (Sep.iDel h3 fx hfx).mono ?_; rintro e w4 ⟨rfl, S4, h⟩; rw [HDD.out.2]; have H4 := Lib.hid h.swap2; clear h h3)
              | (go_at_call 21; refine (Sep.iDel HR.out x hx64).mono ?_; rintro e w3 ⟨rfl, S3, h⟩; rw [HDD.out.1]; have H3 := Lib.hid h.swap2; clear h))
            go_roundw
            case rel => exact ⟨k + 1, _, _, S3, S4, rfl, by simp, by omega, HD.out.2, H4.out⟩
            case measure => simp [intOf]; omega
          · have b1 : (z0 == 1) = false := by simpa using hd
            clear hd
            obtain ⟨R, hR⟩ : ∃ R, T.putR x = R := ⟨_, rfl⟩
            obtain ⟨ri, rb, re⟩ := R
            obtain ⟨L, hL⟩ : ∃ L, (T.put x).ar.list.length = L := ⟨_, rfl⟩
            have HRR := Lib.hid (And.intro hR (HP.out.1.trans hR))
            have HL := Lib.hid (And.intro hL (show (U.put fx).ar.list.length = L by rw [HP.out.2.ar]; exact hL))
            clear hR hL
            cases rb
            all_goals
              go_wp2_with (first
                | (go_at_call 23; have _t := tok; refine (Sep.iLenEq H4.out.swap2 HL.out.2).mono ?_; rintro e wz ⟨rfl, rfl⟩)
                | (go_at_call 23; refine (Sep.iLenEq H4.out HL.out.1).mono ?_; rintro e wz ⟨rfl, rfl⟩; have tok := trivial)
                | (go_at_call 22; have h3 := H3.out; rw [HAX.out]; refine (Sep.iPut h3 fx hfx).mono ?_; rintro e w4 ⟨rfl, S4, h⟩; rw [HRR.out.2]; simp only [putV]; have H4 := Lib.hid h.swap2; clear h h3)
                | (go_at_call 22; refine (Sep.iPut HR.out x hx64).mono ?_; rintro e w3 ⟨rfl, S3, h⟩; rw [HRR.out.1]; simp only [putV]; have e1 := (h.below.cell (p := ⟨bi, oi + k * 2 + 1, none⟩) HE.out.1).trans HE.out.2; have H3 := Lib.hid h.swap2; clear h))
              go_roundw
              case rel => exact ⟨k + 1, _, _, S3, S4, rfl, by simp, by omega, HP.out.2, H4.out⟩
              case measure => simp [intOf]; omega
        · clear hsep hnm
          go_wp2_with (go_at_call 19; refine (Sep.l3works HR.out).mono ?_; rintro e w8 ⟨rfl, h⟩; have H8 := Lib.hid h; clear h)
          go_ret
          exact ⟨by simp, H8.out.below⟩
    · have hbad : n < 0 ∨ 65536 < n := by omega
      clear hok
      go_enter Try.func3, Try.ntmps3
      go_wp2_with (go_at_call 20; refine (iNew_bad n _ hbad).mono ?_; rintro e wz ⟨rfl, rfl⟩)
      go_loopw [8, 13] (fun u y wr => ∃ (k : Nat), u = .bool false ∧ y = .int .i64 k ∧ k ≤ len ∧ Sep w wr []) (fun _ y _ => len - (intOf y).toNat)
      case atStart => exact ⟨0, rfl, rfl, Nat.zero_le _, HS.out⟩
      case round =>
        obtain ⟨k, rfl, rfl, hk, hsep⟩ := hrel
        have HR := Lib.hid hsep
        by_cases hlt : k < len
        · obtain ⟨bi, oi, rfl, hbi, hci⟩ := HIN.out.hcell k hlt
          have e0 := (hsep.below.cell (p := ⟨bi, oi + k * 2 + 0, none⟩) hbi).trans (hci 0 (by omega))
          have e1 := (hsep.below.cell (p := ⟨bi, oi + k * 2 + 1, none⟩) hbi).trans (hci 1 (by omega))
          simp only [sk2, Nat.add_zero, if_pos, if_neg, Nat.one_ne_zero, if_false, if_true] at e0 e1
          clear hci hsep
          generalize zs k 0 = z0 at e0
          generalize zs k 1 = x at e1
          by_cases hd : z0 = 1
          · subst hd
            go_wp2_with (go_at_call 21; refine (xiDel (Or.inl rfl) _).mono ?_; rintro r wz ⟨rfl, rfl⟩)
            go_roundw
            case rel => exact ⟨k + 1, rfl, by simp, by omega, HR.out⟩
            case measure => simp [intOf]; omega
          · have b1 : (z0 == 1) = false := by simpa using hd
            clear hd
            go_wp2_with (first
              | (go_at_call 23; refine (xiLen (Or.inl rfl)).mono ?_; rintro r wz ⟨rfl, rfl⟩)
              | (go_at_call 22; refine (xiPut (Or.inl rfl) _).mono ?_; rintro r wz ⟨rfl, rfl⟩))
            go_roundw
            case rel => exact ⟨k + 1, rfl, by simp, by omega, HR.out⟩
            case measure => simp [intOf]; omega
        · clear hsep
          go_wp2_with (go_at_call 19; refine (Sep.l3works HR.out).mono ?_; rintro e w8 ⟨rfl, h⟩; have H8 := Lib.hid h; clear h)
          go_ret
          exact ⟨by simp, H8.out.below⟩
end InternNames
end Go.Proofs.Ythlfmlpdnbeelaa
